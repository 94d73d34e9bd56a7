/-
 slices.Sort, by the library's own contract.
 Conditions: of each contract as it says.
-/
import Derived.Test.YtioojmlhmhgeeaaF22e
import Derived.Shelf.Sort.AssemblyIn
import Derived.Sort.EveryDepth
import Derived.Shelf.Slices.In.SortNone
import Derived.Sort.OwnSortedInts
namespace Go.Proofs.Ytioojmlhmhgeeaa
open Go Go.E2 C22 Go.RowKit
set_option linter.unusedSimpArgs false
end Go.Proofs.Ytioojmlhmhgeeaa
