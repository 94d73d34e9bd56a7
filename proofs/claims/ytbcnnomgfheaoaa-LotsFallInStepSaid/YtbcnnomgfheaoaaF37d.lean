/-
  Layer 37 (chunk), continued: what a valid lot is, by the specification.
  Conditions: of each contract as it says.
-/
import Derived.Test.YtbcnnomgfheaoaaF37c
namespace Go.Proofs.Ytbcnnomgfheaoaa
open Go Go.E2 C37
set_option linter.unusedSimpArgs false
end Go.Proofs.Ytbcnnomgfheaoaa
