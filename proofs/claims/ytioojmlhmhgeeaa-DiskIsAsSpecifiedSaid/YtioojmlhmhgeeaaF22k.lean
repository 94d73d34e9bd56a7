/-
 Layer 21 (disk),continued: possible.
 Conditions: of each contract as it says.
-/
import Derived.Test.YtioojmlhmhgeeaaF22i
namespace Go.Proofs.Ytioojmlhmhgeeaa
open Go Go.E2 C22
set_option linter.unusedSimpArgs false
set_option maxHeartbeats 1000000
end Go.Proofs.Ytioojmlhmhgeeaa
