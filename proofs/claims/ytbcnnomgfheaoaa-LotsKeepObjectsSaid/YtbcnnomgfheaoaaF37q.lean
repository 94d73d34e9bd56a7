/-
 Layer 37 (chunk), continued: the specification's parts that change a lot.
 Conditions: of each contract as it says.
-/
import Derived.Test.YtbcnnomgfheaoaaF37p
namespace Go.Proofs.Ytbcnnomgfheaoaa
open Go Go.E2 C37
set_option linter.unusedSimpArgs false
set_option maxHeartbeats 2000000
end Go.Proofs.Ytbcnnomgfheaoaa
