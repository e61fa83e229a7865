import Derived.Test.YtmedjckknalpbaaEngS
import Derived.Test.YtmedjckknalpbaaProg
set_option linter.unusedSimpArgs false
set_option linter.unusedVariables false
namespace Go.Tk
open Go Go.RowKit
abbrev tRa : T := (.cons .int (.cons .int .nil))
abbrev Rtl := (Int × Int × Unit)
abbrev Th : List (Nat × T) := [(1, (.fn .nil .nil)), (3, .int), (4, .bool), (22, (.sl (.sl .int))), (25, (.sl .int)), (26, .int), (46, tRa), (57, (.fn (.cons .int .nil) (.cons .bool .nil))), (62, (.cons (.sl .int) .nil)), (71, (.fn (.cons (.sl .int) (.cons .int .nil)) .nil)), (74, (.fn (.cons (.fn (.cons .int (.cons .int .nil)) (.cons .bool .nil)) .nil) .nil)), (75, (.fn (.cons (.fn (.cons .int (.cons .int .nil)) (.cons .bool .nil)) .nil) .nil)), (78, (.fn (.cons .int (.cons .int .nil)) (.cons .int .nil))), (80, (.fn (.cons (.sl .int) .nil) (.cons .bool .nil))), (84, (.fn (.cons (.fn (.cons .int .nil) (.cons .bool .nil)) .nil) .nil)), (85, (.fn (.cons (.fn (.cons .int .nil) (.cons .bool .nil)) .nil) .nil)), (87, (.fn (.cons .int (.cons .int .nil)) (.cons .bool .nil))), (95, .int)]
theorem th_ok : thB Go.Proofs.Try.prog Th = true := by kernel_rfl
theorem mix_ok : Go.Proofs.Try.prog.follows .mixedOrders = true := by kernel_rfl
end Go.Tk
