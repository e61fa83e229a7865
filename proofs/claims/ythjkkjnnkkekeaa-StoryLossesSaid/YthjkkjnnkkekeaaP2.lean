/- Plain facts: tests and contracts (layer 2). No program in sight. -/
import Derived.Test.YthjkkjnnkkekeaaP1r
set_option linter.unusedSimpArgs false
set_option linter.unusedVariables false
namespace Go.Tk
open Go Go.RowKit

end Go.Tk
