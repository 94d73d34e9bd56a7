/-
 Layer 39 (catalog): what an operation leaves behind.
 Conditions: none; laws with no program in sight.
-/
import Derived.Test.YtgoleoihpgmcbaaS39
namespace C39
end C39
