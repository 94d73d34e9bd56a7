/-
 Layer 39 (catalog),continued: the laws CatalogDoesAsSpecified and CatalogForgets.
 Conditions: of each contract as it says.
-/
import Derived.Test.YtgoleoihpgmcbaaF39u
import Derived.Test.YtgoleoihpgmcbaaS39c
namespace Go.Proofs.Ytgoleoihpgmcbaa
open Go Go.E2 C39
set_option linter.unusedSimpArgs false
set_option maxHeartbeats 4000000
theorem same_ok (a:Ct) (ha:smallC a):CallP Try.prog f_zz25 [eC a,eC a] (·=.d (.bool true)):=by
 have h:=Same_ok a a ha ha
 rw [decide_eq_true rfl] at h; exact h
end Go.Proofs.Ytgoleoihpgmcbaa
