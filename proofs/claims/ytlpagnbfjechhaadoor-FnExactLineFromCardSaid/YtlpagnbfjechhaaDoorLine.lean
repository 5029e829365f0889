/-
  Written forms and lists of them: the laws' helpers; WrittenValid and LineValid (both texts).
-/
import Derived.Test.YtlpagnbfjechhaaDoorWof
import Derived.Test.YtlpagnbfjechhaaDoorWrtK
import Derived.Test.YtlpagnbfjechhaaDoorDict
namespace Go.Proofs.YtlpagnbfjechhaaDoor
open Go.RowKit Go.Sort
set_option linter.unusedSimpArgs false
set_option linter.unusedVariables false

def wrtOk (os : List Stk) (p : Int) : Bool := outOk os && (decide (0 ≤ p) && decide (p ≤ 2))

end Go.Proofs.YtlpagnbfjechhaaDoor
