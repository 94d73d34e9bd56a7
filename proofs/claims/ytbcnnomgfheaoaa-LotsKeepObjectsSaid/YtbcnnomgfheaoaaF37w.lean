/-
 Layer 37 (chunk), continued: the laws LotsCutAsSpecified and LotsFallInStep.
 Conditions: of each contract as it says.
-/
import Derived.Test.YtbcnnomgfheaoaaF37u
import Derived.Test.YtbcnnomgfheaoaaS37e
namespace Go.Proofs.Ytbcnnomgfheaoaa
open Go Go.E2 C37
set_option linter.unusedSimpArgs false
set_option maxHeartbeats 4000000
end Go.Proofs.Ytbcnnomgfheaoaa
