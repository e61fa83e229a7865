import Derived.Test.YtookhknbjofmkaaC6c
import Derived.Test.YtookhknbjofmkaaP6c
set_option linter.unusedSimpArgs false
set_option linter.unusedVariables false
namespace Go.Tk
open Go Go.RowKit

end Go.Tk
