/-
 Layer 39 (catalog),continued: the specification's Do.
 Conditions: of each contract as it says.
-/
import Derived.Test.YtgoleoihpgmcbaaF39n
namespace Go.Proofs.Ytgoleoihpgmcbaa
open Go Go.E2 C39
set_option linter.unusedSimpArgs false
set_option maxHeartbeats 1000000
end Go.Proofs.Ytgoleoihpgmcbaa
