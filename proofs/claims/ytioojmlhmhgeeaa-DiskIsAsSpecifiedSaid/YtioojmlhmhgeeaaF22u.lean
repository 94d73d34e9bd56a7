/-
 Layers 21,22: what the arguments of the statements read as.
 Conditions: none.
-/
import Derived.Test.YtioojmlhmhgeeaaF22l
import Derived.Test.YtioojmlhmhgeeaaEL1
import Derived.JoinedOf
import Derived.Test.YtioojmlhmhgeeaaRows
namespace Go.Proofs.Ytioojmlhmhgeeaa
open Go Go.E2 C22
open Go.ChangeShapes Go.WideShapes Go.RowKit
abbrev rI (k:IntKind):D→Prop:=fun d=>∃ n,(Lit.int k n).wf=true∧d=.int k n
theorem rd3:Reads Try.prog 3 false (rI .i64):=reads_int (by kernel_rfl)
theorem own:ownKnob Try.prog.godebug=none:=by kernel_rfl
end Go.Proofs.Ytioojmlhmhgeeaa
