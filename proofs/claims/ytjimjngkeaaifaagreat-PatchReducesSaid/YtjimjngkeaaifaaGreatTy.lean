import Derived.Test.YtjimjngkeaaifaaGreatEngS
import Derived.Test.YtjimjngkeaaifaaGreatProg
set_option linter.unusedSimpArgs false
set_option linter.unusedVariables false
namespace Go.Tk
open Go Go.RowKit
abbrev tL : T := (.cons .int (.cons .int (.cons .int (.cons .int .nil))))
abbrev Lin := (Int × Int × Int × Int × Unit)
abbrev tEd : T := (.cons .int (.cons tL .nil))
abbrev Edt := (Int × Lin × Unit)
abbrev tTs : T := (.cons (.sl .int) (.cons .int (.cons .int .nil)))
abbrev Tst := ((List Int) × Int × Int × Unit)
abbrev tVis : T := (.cons .int (.cons (.arr 4 .int) .nil))
abbrev Vis := (Int × (List Int) × Unit)
abbrev tOpn : T := (.cons .int (.cons (.fn (.cons .int (.cons .int (.cons .int .nil))) (.cons .int .nil)) .nil))
abbrev Opn := (Int × (T.fn (.cons .int (.cons .int (.cons .int .nil))) (.cons .int .nil)).den × Unit)
abbrev tStp : T := (.cons .int (.cons (.sl .int) .nil))
abbrev Step1 := (Int × (List Int) × Unit)
abbrev Th : List (Nat × T) := [(3, .int), (4, .bool), (22, (.sl tL)), (23, (.sl tEd)), (26, .int), (28, (.fn (.cons (.sl tL) (.cons (.sl tEd) .nil)) (.cons (.sl tL) (.cons .int .nil)))), (29, (.fn (.cons (.sl tEd) .nil) (.cons .int .nil))), (32, tL), (36, (.sl tTs)), (47, (.sl .int)), (61, tEd), (64, tTs), (72, (.sl (.sl tEd))), (84, (.fn (.cons tEd .nil) (.cons .bool .nil))), (87, (.sl (.sl tL))), (89, (.arr 8 .bool)), (96, (.fn (.cons tTs .nil) (.cons .bool .nil))), (97, (.fn (.cons (.fn (.cons .int (.cons tEd .nil)) (.cons .bool .nil)) .nil) .nil)), (98, (.fn (.cons (.fn (.cons .int (.cons tEd .nil)) (.cons .bool .nil)) .nil) .nil)), (103, (.fn (.cons .int .nil) (.cons .bool .nil))), (107, (.fn (.cons (.sl tEd) .nil) (.cons .bool .nil))), (112, (.fn (.cons (.sl tEd) (.cons (.sl tEd) .nil)) (.cons .int .nil))), (115, (.sl .bool)), (117, (.sl .int)), (121, (.fn (.cons .int (.cons tEd .nil)) (.cons .bool .nil))), (126, (.fn (.cons (.fn (.cons .int .nil) (.cons .bool .nil)) .nil) .nil)), (127, (.fn (.cons (.fn (.cons .int .nil) (.cons .bool .nil)) .nil) .nil)), (138, (.sl tVis)), (140, (.arr 4 .int)), (143, (.fn (.cons .int .nil) (.cons .int (.cons .bool .nil)))), (148, (.fn (.cons .int (.cons .int (.cons .int .nil))) (.cons .int .nil))), (150, tOpn), (151, (.arr 8 tOpn)), (154, tVis), (159, .int), (170, (.sl tStp)), (180, tStp)]
theorem th_ok : thB Go.Proofs.Tryz.prog Th = true := by kernel_rfl
theorem mix_ok : Go.Proofs.Tryz.prog.follows .mixedOrders = true := by kernel_rfl
end Go.Tk
