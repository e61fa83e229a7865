/- Plain facts: tests (layer 2). No program in sight. -/
import Derived.Test.YtblegpocdjoihaaP2
set_option linter.unusedSimpArgs false
set_option linter.unusedVariables false
namespace Go.Tk
open Go Go.RowKit

def firstErr : List (List Lin) → Int
  | [] => 0
  | p :: ps => if validP p = 0 then firstErr ps else validP p
end Go.Tk
