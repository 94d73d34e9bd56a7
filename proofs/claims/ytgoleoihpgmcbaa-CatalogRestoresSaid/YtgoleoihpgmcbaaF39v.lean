/-
 Layer 39 (catalog),continued: the laws CatalogDoesAsSpecified and CatalogForgets.
 Conditions: of each contract as it says.
-/
import Derived.Test.YtgoleoihpgmcbaaF39u
import Derived.Test.YtgoleoihpgmcbaaS39c
namespace Go.Proofs.Ytgoleoihpgmcbaa
open Go Go.E2 C39
set_option linter.unusedSimpArgs false
set_option maxHeartbeats 4000000
theorem sameE_ok (a:List En) (ha:a.length≤100000):CallP Try.prog f_zz19 [.list (a.map eE),.list (a.map eE)] (·=.d (.bool true)):=by
 have h:=SameE_ok a a ha ha
 rw [decide_eq_true rfl] at h; exact h
end Go.Proofs.Ytgoleoihpgmcbaa
