import Derived.Test.YtblegpocdjoihaaEngS
import Derived.Test.YtblegpocdjoihaaProg
set_option linter.unusedSimpArgs false
set_option linter.unusedVariables false
namespace Go.Tk
open Go Go.RowKit
abbrev tL : T := (.cons .int (.cons .int (.cons .int (.cons .int .nil))))
abbrev Lin := (Int × Int × Int × Int × Unit)
abbrev tR : T := (.cons .int (.cons .int .nil))
abbrev Rng := (Int × Int × Unit)
abbrev tCt : T := (.cons (.sl .int) (.cons (.sl .int) (.cons .int (.cons .int (.cons .int .nil)))))
abbrev Ctr := ((List Int) × (List Int) × Int × Int × Int × Unit)
abbrev tMark : T := (.cons .bool .nil)
abbrev Mark := (Bool × Unit)
abbrev tSpot : T := (.cons tMark (.cons (.sl tR) .nil))
abbrev Spot := (Mark × (List Rng) × Unit)
abbrev tVis : T := (.cons .int (.cons (.arr 4 .int) .nil))
abbrev Vis := (Int × (List Int) × Unit)
abbrev tOpn : T := (.cons .int (.cons (.fn (.cons .int (.cons .int (.cons .int .nil))) (.cons .int .nil)) .nil))
abbrev Opn := (Int × (T.fn (.cons .int (.cons .int (.cons .int .nil))) (.cons .int .nil)).den × Unit)
abbrev tStp : T := (.cons .int (.cons (.sl .int) .nil))
abbrev Step1 := (Int × (List Int) × Unit)
abbrev Th : List (Nat × T) := [(3, .int), (4, .bool), (22, (.sl tL)), (23, (.sl tR)), (27, .int), (34, (.sl .int)), (42, (.fn (.cons (.sl .int) .nil) (.cons .bool .nil))), (49, tR), (57, tCt), (73, tL), (78, tMark), (80, tSpot), (81, (.sl tSpot)), (83, (.sl (.sl tR))), (84, (.sl (.sl (.sl tR)))), (91, (.fn (.cons tR (.cons tR .nil)) (.cons tR .nil))), (97, (.fn (.cons tR .nil) (.cons .bool .nil))), (104, (.sl tVis)), (106, (.arr 4 .int)), (109, (.fn (.cons .int .nil) (.cons .int (.cons .bool .nil)))), (111, tVis), (119, (.fn (.cons tSpot (.cons (.sl tR) .nil)) (.cons tSpot .nil))), (127, (.fn (.cons .int .nil) (.cons .bool .nil))), (129, (.fn (.cons .int (.cons .int (.cons .int .nil))) (.cons .int .nil))), (131, tOpn), (132, (.arr 8 tOpn)), (137, (.fn (.cons (.fn (.cons (.sl .int) .nil) (.cons .bool .nil)) .nil) .nil)), (138, (.fn (.cons (.fn (.cons (.sl .int) .nil) (.cons .bool .nil)) .nil) .nil)), (141, (.sl (.sl .int))), (150, (.sl (.sl tL))), (151, (.sl tStp)), (155, tStp)]
theorem th_ok : thB Go.Proofs.Try.prog Th = true := by kernel_rfl
theorem mix_ok : Go.Proofs.Try.prog.follows .mixedOrders = true := by kernel_rfl
end Go.Tk
