import Derived.Test.YtolbkaphghjeeaaEngS
import Derived.Test.YtolbkaphghjeeaaProg
set_option linter.unusedSimpArgs false
set_option linter.unusedVariables false
namespace Go.Tk
open Go Go.RowKit
abbrev tL : T := (.cons .int (.cons .int (.cons .int (.cons .int .nil))))
abbrev Lin := (Int × Int × Int × Int × Unit)
abbrev tTs : T := (.cons (.sl .int) (.cons .int (.cons .int .nil)))
abbrev Tst := ((List Int) × Int × Int × Unit)
abbrev tRa : T := (.cons .int (.cons .int .nil))
abbrev Rtl := (Int × Int × Unit)
abbrev tCt : T := (.cons (.sl .int) (.cons (.sl .int) (.cons .int (.cons .int (.cons .int .nil)))))
abbrev Ctr := ((List Int) × (List Int) × Int × Int × Int × Unit)
abbrev tStp : T := (.cons .int (.cons (.sl .int) .nil))
abbrev Step1 := (Int × (List Int) × Unit)
abbrev tVis : T := (.cons .int (.cons (.arr 4 .int) .nil))
abbrev Vis := (Int × (List Int) × Unit)
abbrev tOpn : T := (.cons .int (.cons (.fn (.cons .int (.cons .int (.cons .int .nil))) (.cons .int .nil)) .nil))
abbrev Opn := (Int × (T.fn (.cons .int (.cons .int (.cons .int .nil))) (.cons .int .nil)).den × Unit)
abbrev Th : List (Nat × T) := [(3, .int), (4, .bool), (22, (.sl tL)), (23, (.sl tTs)), (27, (.sl tRa)), (28, .int), (33, tRa), (35, (.sl .int)), (37, tCt), (43, tTs), (44, (.fn (.cons (.sl .int) .nil) (.cons .bool .nil))), (54, (.sl (.sl .int))), (73, tL), (85, (.fn (.cons tTs .nil) (.cons .bool .nil))), (92, (.fn (.cons .int .nil) (.cons .bool .nil))), (100, (.fn (.cons (.fn (.cons (.sl .int) .nil) (.cons .bool .nil)) .nil) .nil)), (101, (.fn (.cons (.fn (.cons (.sl .int) .nil) (.cons .bool .nil)) .nil) .nil)), (104, (.fn (.cons tRa (.cons tRa .nil)) (.cons .int .nil))), (107, (.fn (.cons .int (.cons .int .nil)) (.cons .int .nil))), (108, (.sl (.sl tL))), (113, (.sl tStp)), (117, tStp), (125, (.sl tVis)), (127, (.arr 4 .int)), (130, (.fn (.cons .int .nil) (.cons .int (.cons .bool .nil)))), (132, tVis), (143, (.fn (.cons .int (.cons .int (.cons .int .nil))) (.cons .int .nil))), (145, tOpn), (146, (.arr 8 tOpn))]
theorem th_ok : thB Go.Proofs.Try.prog Th = true := by kernel_rfl
theorem mix_ok : Go.Proofs.Try.prog.follows .mixedOrders = true := by kernel_rfl
end Go.Tk
