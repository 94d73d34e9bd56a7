/-
 Rows of equal cells,by their number.
 Conditions: none; this text states a definition alone.
-/
import Derived.Test.YtgoleoihpgmcbaaGreatEB
namespace Go.E2
end Go.E2
