/-
 Layer 21 (disk), continued: the sectors with open writes.
 Conditions: of each contract as it says.
-/
import Derived.Test.YtioojmlhmhgeeaaF22s
namespace Go.Proofs.Ytioojmlhmhgeeaa
open Go Go.E2 C22
set_option linter.unusedSimpArgs false
set_option maxHeartbeats 1000000
end Go.Proofs.Ytioojmlhmhgeeaa
