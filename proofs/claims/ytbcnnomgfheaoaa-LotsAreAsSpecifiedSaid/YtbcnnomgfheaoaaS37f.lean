/-
 Layer 37 (chunk): laws about cutting.
 Conditions: of each law as it says; no program in sight.
-/
import Derived.Test.YtbcnnomgfheaoaaS37e
namespace C37
end C37
