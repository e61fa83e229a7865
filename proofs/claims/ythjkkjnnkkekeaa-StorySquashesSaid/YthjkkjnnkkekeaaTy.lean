import Derived.Test.YthjkkjnnkkekeaaEngS
import Derived.Test.YthjkkjnnkkekeaaProg
set_option linter.unusedSimpArgs false
set_option linter.unusedVariables false
namespace Go.Tk
open Go Go.RowKit
abbrev tL : T := (.cons .int (.cons .int (.cons .int (.cons .int .nil))))
abbrev Lin := (Int × Int × Int × Int × Unit)
abbrev tEd : T := (.cons .int (.cons tL .nil))
abbrev Edt := (Int × Lin × Unit)
abbrev tTwo7 : T := (.cons .int (.cons .int .nil))
abbrev Two7 := (Int × Int × Unit)
abbrev tTs : T := (.cons (.sl .int) (.cons .int (.cons .int .nil)))
abbrev Tst := ((List Int) × Int × Int × Unit)
abbrev tVis : T := (.cons .int (.cons (.arr 4 .int) .nil))
abbrev Vis := (Int × (List Int) × Unit)
abbrev tOpn : T := (.cons .int (.cons (.fn (.cons .int (.cons .int (.cons .int .nil))) (.cons .int .nil)) .nil))
abbrev Opn := (Int × (T.fn (.cons .int (.cons .int (.cons .int .nil))) (.cons .int .nil)).den × Unit)
abbrev tStp : T := (.cons .int (.cons (.sl .int) .nil))
abbrev Step1 := (Int × (List Int) × Unit)
abbrev Th : List (Nat × T) := [(3, .int), (4, .bool), (22, (.sl tL)), (23, (.sl (.sl tEd))), (25, tTwo7), (26, (.fn (.cons (.sl tL) (.cons (.sl (.sl tEd)) .nil)) (.cons .bool .nil))), (27, (.fn .nil (.cons .bool .nil))), (28, (.sl .int)), (29, .int), (41, (.sl tEd)), (46, tL), (50, tEd), (57, tTs), (60, (.sl tTs)), (62, (.sl (.arr 2 .int))), (74, (.sl (.sl tEd))), (75, (.fn (.cons .int .nil) (.cons (.sl .int) .nil))), (78, (.sl (.sl .bool))), (80, (.sl .bool)), (87, (.fn (.cons tEd .nil) (.cons .bool .nil))), (88, (.fn (.cons (.fn (.cons .int (.cons (.sl tEd) .nil)) (.cons .bool .nil)) .nil) .nil)), (89, (.fn (.cons (.fn (.cons .int (.cons (.sl tEd) .nil)) (.cons .bool .nil)) .nil) .nil)), (96, (.arr 2 .int)), (105, (.fn (.cons .int (.cons (.sl tEd) .nil)) (.cons .bool .nil))), (108, (.fn (.cons .int .nil) (.cons .bool .nil))), (110, (.sl (.sl tL))), (118, (.fn (.cons tTs .nil) (.cons .bool .nil))), (120, (.sl .int)), (126, (.sl tVis)), (128, (.arr 4 .int)), (131, (.fn (.cons .int .nil) (.cons .int (.cons .bool .nil)))), (133, (.fn (.cons (.fn (.cons .int .nil) (.cons .bool .nil)) .nil) .nil)), (134, (.fn (.cons (.fn (.cons .int .nil) (.cons .bool .nil)) .nil) .nil)), (136, (.fn (.cons .int (.cons .int (.cons .int .nil))) (.cons .int .nil))), (138, tOpn), (139, (.arr 8 tOpn)), (142, tVis), (146, (.sl tStp)), (154, tStp), (157, .int)]
theorem th_ok : thB Go.Proofs.Try.prog Th = true := by kernel_rfl
theorem mix_ok : Go.Proofs.Try.prog.follows .mixedOrders = true := by kernel_rfl
end Go.Tk
