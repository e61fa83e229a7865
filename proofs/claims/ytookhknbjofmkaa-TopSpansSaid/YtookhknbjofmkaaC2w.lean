/- The states of a box: the document's answer (layer 2). -/
import Derived.Test.YtookhknbjofmkaaC2s
set_option linter.unusedSimpArgs false
set_option linter.unusedVariables false
namespace Go.Tk
open Go Go.RowKit

end Go.Tk
