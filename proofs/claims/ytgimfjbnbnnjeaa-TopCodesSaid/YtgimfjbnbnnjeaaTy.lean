import Derived.Test.YtgimfjbnbnnjeaaEngS
import Derived.Test.YtgimfjbnbnnjeaaProg
set_option linter.unusedSimpArgs false
set_option linter.unusedVariables false
namespace Go.Tk
open Go Go.RowKit
abbrev tL : T := (.cons .int (.cons .int (.cons .int (.cons .int .nil))))
abbrev Lin := (Int × Int × Int × Int × Unit)
abbrev tJob : T := (.cons (.sl .int) (.cons .int .nil))
abbrev Job := ((List Int) × Int × Unit)
abbrev tVis : T := (.cons .int (.cons (.arr 4 .int) .nil))
abbrev Vis := (Int × (List Int) × Unit)
abbrev tOpn : T := (.cons .int (.cons (.fn (.cons .int (.cons .int (.cons .int .nil))) (.cons .int .nil)) .nil))
abbrev Opn := (Int × (T.fn (.cons .int (.cons .int (.cons .int .nil))) (.cons .int .nil)).den × Unit)
abbrev Th : List (Nat × T) := [(3, .int), (4, .bool), (22, (.sl tL)), (23, (.sl .int)), (25, tJob), (26, .int), (30, tL), (39, (.fn (.cons (.sl tL) (.cons .int (.cons tL .nil))) (.cons (.sl tL) (.cons .int .nil)))), (49, (.fn (.cons .int .nil) (.cons .bool .nil))), (52, (.sl tVis)), (54, (.arr 4 .int)), (58, (.fn (.cons .int .nil) (.cons .int (.cons .bool .nil)))), (59, (.arr 4 .bool)), (60, (.fn (.cons (.fn (.cons .int (.cons tVis .nil)) (.cons .bool .nil)) .nil) .nil)), (61, (.fn (.cons (.fn (.cons .int (.cons tVis .nil)) (.cons .bool .nil)) .nil) .nil)), (64, tVis), (75, (.fn (.cons .int (.cons .int (.cons .int .nil))) (.cons .int .nil))), (77, tOpn), (78, (.arr 8 tOpn)), (82, (.fn (.cons .int (.cons tVis .nil)) (.cons .bool .nil))), (89, .int)]
theorem th_ok : thB Go.Proofs.Try.prog Th = true := by kernel_rfl
theorem mix_ok : Go.Proofs.Try.prog.follows .mixedOrders = true := by kernel_rfl
end Go.Tk
