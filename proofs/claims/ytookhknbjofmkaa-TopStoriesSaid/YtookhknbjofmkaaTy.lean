import Derived.Test.YtookhknbjofmkaaEngS
import Derived.Test.YtookhknbjofmkaaProg
set_option linter.unusedSimpArgs false
set_option linter.unusedVariables false
namespace Go.Tk
open Go Go.RowKit
abbrev tL : T := (.cons .int (.cons .int (.cons .int (.cons .int .nil))))
abbrev Lin := (Int × Int × Int × Int × Unit)
abbrev tPair : T := (.cons (.sl tL) (.cons (.sl tL) .nil))
abbrev PairT := ((List Lin) × (List Lin) × Unit)
abbrev tCt : T := (.cons (.sl .int) (.cons (.sl .int) (.cons .int (.cons .int (.cons .int .nil)))))
abbrev Ctr := ((List Int) × (List Int) × Int × Int × Int × Unit)
abbrev tTs : T := (.cons (.sl .int) (.cons .int (.cons .int .nil)))
abbrev Tst := ((List Int) × Int × Int × Unit)
abbrev tR : T := (.cons .int (.cons .int .nil))
abbrev Rng := (Int × Int × Unit)
abbrev tEd : T := (.cons .int (.cons tL .nil))
abbrev Edt := (Int × Lin × Unit)
abbrev tJob : T := (.cons (.sl .int) (.cons .int .nil))
abbrev Job := ((List Int) × Int × Unit)
abbrev tVis : T := (.cons .int (.cons (.arr 4 .int) .nil))
abbrev Vis := (Int × (List Int) × Unit)
abbrev tMark : T := (.cons .bool .nil)
abbrev Mark := (Bool × Unit)
abbrev tSpot : T := (.cons tMark (.cons (.sl tR) .nil))
abbrev Spot := (Mark × (List Rng) × Unit)
abbrev tOpn : T := (.cons .int (.cons (.fn (.cons .int (.cons .int (.cons .int .nil))) (.cons .int .nil)) .nil))
abbrev Opn := (Int × (T.fn (.cons .int (.cons .int (.cons .int .nil))) (.cons .int .nil)).den × Unit)
abbrev Th : List (Nat × T) := [(3, .int), (4, .bool), (22, (.sl tL)), (24, tPair), (25, (.sl .int)), (26, tCt), (27, tCt), (28, .int), (39, (.fn (.cons (.sl tL) (.cons tCt .nil)) (.cons .int (.cons .int (.cons .int .nil))))), (42, tTs), (48, (.sl tTs)), (53, tL), (55, tR), (56, (.sl tR)), (70, (.sl (.sl tEd))), (83, (.sl tEd)), (90, (.sl (.arr 2 .int))), (93, (.arr 2 .int)), (96, tJob), (109, (.fn (.cons (.sl .int) .nil) (.cons .bool .nil))), (110, (.fn (.cons (.fn (.cons (.sl .int) .nil) (.cons .bool .nil)) .nil) .nil)), (111, (.fn (.cons (.fn (.cons (.sl .int) .nil) (.cons .bool .nil)) .nil) .nil)), (117, (.fn (.cons .int .nil) (.cons .bool .nil))), (122, (.fn (.cons tTs .nil) (.cons .bool .nil))), (131, (.sl tVis)), (133, (.arr 4 .int)), (136, (.fn (.cons .int .nil) (.cons .int (.cons .bool .nil)))), (142, (.fn (.cons tR (.cons tR .nil)) (.cons tR .nil))), (146, (.sl (.sl tEd))), (152, tEd), (153, (.fn (.cons tEd .nil) (.cons .bool .nil))), (155, (.fn (.cons (.fn (.cons .int (.cons (.sl tEd) .nil)) (.cons .bool .nil)) .nil) .nil)), (156, (.fn (.cons (.fn (.cons .int (.cons (.sl tEd) .nil)) (.cons .bool .nil)) .nil) .nil)), (162, (.fn (.cons .int .nil) (.cons (.sl .int) .nil))), (169, (.arr 4 .bool)), (170, (.fn (.cons (.fn (.cons .int (.cons tVis .nil)) (.cons .bool .nil)) .nil) .nil)), (171, (.fn (.cons (.fn (.cons .int (.cons tVis .nil)) (.cons .bool .nil)) .nil) .nil)), (174, tVis), (181, (.sl (.sl tL))), (183, (.sl tSpot)), (186, tMark), (188, tSpot), (189, (.fn (.cons .int (.cons .int (.cons .int .nil))) (.cons .int .nil))), (191, tOpn), (192, (.arr 8 tOpn)), (195, (.fn (.cons tR .nil) (.cons .bool .nil))), (197, (.fn (.cons .int (.cons (.sl tEd) .nil)) (.cons .bool .nil))), (203, (.fn (.cons .int (.cons tVis .nil)) (.cons .bool .nil))), (206, (.fn (.cons tSpot (.cons (.sl tR) .nil)) (.cons tSpot .nil))), (211, (.sl .bool)), (217, .int)]
theorem th_ok : thB Go.Proofs.Try.prog Th = true := by kernel_rfl
theorem mix_ok : Go.Proofs.Try.prog.follows .mixedOrders = true := by kernel_rfl
end Go.Tk
