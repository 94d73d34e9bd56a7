/-
 Layer 22 (slots),plain: what stays where calls of all kinds are made.
 Conditions: of each law as it says.
-/
import Derived.Test.YtioojmlhmhgeeaaS22d
import Derived.Test.YtioojmlhmhgeeaaS22f
namespace C22
set_option linter.unusedVariables false
structure Iv (d:Dk) (o:Bool) (f n:Int) (k:Int):Prop where
 ok:Okd d
 len:d.cs.length=12
 st:d.steps≤40 * k
 part:o=true→0≤f∧f + 2 * n≤12
theorem rot_len (d:Dk) (i:Int):(rot d i).1.cs.length=d.cs.length:=by
 unfold rot
 split<;>simp
theorem flp_len (d:Dk) (i b:Int):(flp d i b).1.cs.length=d.cs.length:=by
 unfold flp
 split
 · rfl
 · split<;>simp
end C22
