/-
 Layer 21 (disk): what spoils a sector,as plain mathematics.
 Conditions: of each law as it says.
-/
import Derived.Test.YtioojmlhmhgeeaaS22c
namespace C22
theorem crash_len (d:Dk) (keep:List Int):(crash d keep).cs.length=d.cs.length:=crashL_len _ _ _
section
variable {d:Dk} {n:Int} {i b:Nat}
end
end C22
