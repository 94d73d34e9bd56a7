/-
 Layer 21 (disk): the statement DiskKeepsWhatIsSure.
 Conditions: none; every input.
-/
import Derived.Test.YtioojmlhmhgeeaaF22l
import Derived.Test.YtioojmlhmhgeeaaS22c
namespace Go.Proofs.Ytioojmlhmhgeeaa
open Go Go.E2 C22
set_option linter.unusedSimpArgs false
set_option maxHeartbeats 1000000
end Go.Proofs.Ytioojmlhmhgeeaa
