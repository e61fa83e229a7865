import Derived.Test.YtookhknbjofmkaaGreatEngS
import Derived.Test.YtookhknbjofmkaaGreatProg
set_option linter.unusedSimpArgs false
set_option linter.unusedVariables false
namespace Go.Tk
open Go Go.RowKit
abbrev tL : T := (.cons .int (.cons .int (.cons .int (.cons .int .nil))))
abbrev Lin := (Int × Int × Int × Int × Unit)
abbrev tEd : T := (.cons .int (.cons tL .nil))
abbrev Edt := (Int × Lin × Unit)
abbrev tTwoT : T := (.cons (.sl tEd) (.cons (.sl tEd) .nil))
abbrev TwoT := ((List Edt) × (List Edt) × Unit)
abbrev tTs : T := (.cons (.sl .int) (.cons .int (.cons .int .nil)))
abbrev Tst := ((List Int) × Int × Int × Unit)
abbrev tVis : T := (.cons .int (.cons (.arr 4 .int) .nil))
abbrev Vis := (Int × (List Int) × Unit)
abbrev tOpn : T := (.cons .int (.cons (.fn (.cons .int (.cons .int (.cons .int .nil))) (.cons .int .nil)) .nil))
abbrev Opn := (Int × (T.fn (.cons .int (.cons .int (.cons .int .nil))) (.cons .int .nil)).den × Unit)
abbrev Th : List (Nat × T) := [(3, .int), (4, .bool), (22, (.sl tL)), (23, (.sl tEd)), (25, tTwoT), (26, (.sl tTs)), (27, .int), (29, (.fn (.cons (.sl tL) (.cons (.sl tEd) .nil)) (.cons .int (.cons .int .nil)))), (31, tL), (33, tEd), (44, (.sl .int)), (59, tTs), (63, (.fn (.cons tEd .nil) (.cons .bool .nil))), (77, (.fn (.cons tTs .nil) (.cons .bool .nil))), (79, (.fn (.cons (.fn (.cons .int (.cons tEd .nil)) (.cons .bool .nil)) .nil) .nil)), (80, (.fn (.cons (.fn (.cons .int (.cons tEd .nil)) (.cons .bool .nil)) .nil) .nil)), (88, (.sl .bool)), (90, (.sl .int)), (93, (.sl (.sl tL))), (97, (.fn (.cons .int .nil) (.cons .bool .nil))), (98, (.fn (.cons .int (.cons tEd .nil)) (.cons .bool .nil))), (99, (.sl (.sl tEd))), (102, (.fn (.cons (.sl tEd) .nil) (.cons .bool .nil))), (108, (.fn (.cons (.sl tEd) (.cons (.sl tEd) .nil)) (.cons .int .nil))), (112, (.fn (.cons (.fn (.cons .int .nil) (.cons .bool .nil)) .nil) .nil)), (113, (.fn (.cons (.fn (.cons .int .nil) (.cons .bool .nil)) .nil) .nil)), (124, (.sl tVis)), (126, (.arr 4 .int)), (129, (.fn (.cons .int .nil) (.cons .int (.cons .bool .nil)))), (135, (.fn (.cons .int (.cons .int (.cons .int .nil))) (.cons .int .nil))), (137, tOpn), (138, (.arr 8 tOpn)), (141, tVis), (146, .int)]
theorem th_ok : thB Go.Proofs.Tryz.prog Th = true := by kernel_rfl
theorem mix_ok : Go.Proofs.Tryz.prog.follows .mixedOrders = true := by kernel_rfl
end Go.Tk
