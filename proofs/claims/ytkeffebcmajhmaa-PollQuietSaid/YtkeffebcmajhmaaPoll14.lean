/- The poller's laws: one connection that is open. -/
import Derived.Test.YtkeffebcmajhmaaPoll13
namespace Go.Proofs.Ytkeffebcmajhmaa
open Go.RowKit
set_option linter.unusedVariables false
/-- the net: one connection, taken and open; what lies in it, how often it was readable anew, what was told. -/
def eN (inn : List Int) (r : Int) (t : List Int) : NS := ⟨1, [⟨false, true, false, 1, false, false, true, inn, 0, r, 0, [], t⟩], [], false, 0, 1, 1⟩
theorem e1 : (connectN (newN 1) 1).2 = (0, 0) := rfl
theorem e2 : acceptN (connectN (newN 1) 1).1 = (eN [] 0 [], 0, 1, 0) := rfl
end Go.Proofs.Ytkeffebcmajhmaa
