/-
  Written forms and lists of them: the laws' helpers; WrittenValid and LineValid (both texts).
-/
import Derived.Test.YtniemanapimjoaaWof
import Derived.Test.YtniemanapimjoaaWrtK
import Derived.Test.YtniemanapimjoaaDict
namespace Go.Proofs.Ytniemanapimjoaa
open Go.RowKit Go.Sort
set_option linter.unusedSimpArgs false
set_option linter.unusedVariables false

def wrtOk (os : List Stk) (p : Int) : Bool := outOk os && (decide (0 ≤ p) && decide (p ≤ 2))

end Go.Proofs.Ytniemanapimjoaa
