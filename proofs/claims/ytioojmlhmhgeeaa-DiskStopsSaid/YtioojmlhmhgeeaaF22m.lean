/-
 Layer 21 (disk): the statement DiskKeepsWhatIsSure.
 Conditions: none; every input.
-/
import Derived.Test.YtioojmlhmhgeeaaF22l
import Derived.Test.YtioojmlhmhgeeaaS22d
namespace Go.Proofs.Ytioojmlhmhgeeaa
open Go Go.E2 C22
set_option linter.unusedSimpArgs false
set_option maxHeartbeats 1000000
/-! ### the plain law -/
theorem crash_cel {d : Dk} {keep : List Int} {i : Nat} (hi : i < d.cs.length) : ∃ x, (crash d keep).cs[i]? = some (if d.cs[i].op = [] then d.cs[i] else kept d.cs[i] x) := ⟨_, crashL_get hi⟩
/-! ### the walk -/
end Go.Proofs.Ytioojmlhmhgeeaa
