/-
 Layers 21,22: what the arguments of the statements read as.
 Conditions: none.
-/
import Derived.Test.YtioojmlhmhgeeaaF22l
import Derived.Test.YtioojmlhmhgeeaaEL1
import Derived.JoinedOf
import Derived.Test.YtioojmlhmhgeeaaRows
namespace Go.Proofs.Ytioojmlhmhgeeaa
open Go Go.E2 C22
open Go.ChangeShapes Go.WideShapes Go.RowKit
abbrev rI (k:IntKind):D→Prop:=fun d=>∃ n,(Lit.int k n).wf=true∧d=.int k n
abbrev rN:D→Prop:=fun d=>∃ l:List Int,l.length≤9223372036854775807∧d=.list (l.map eI)
theorem rd3:Reads Try.prog 3 false (rI .i64):=reads_int (by kernel_rfl)
theorem exists_map {α:Type} {f:α→D} {es:List D} {P:D→Prop} (hP:∀ d,P d→∃ a,d=f a) (h:∀ d∈es,P d):∃ l:List α,es=l.map f:=by
 induction es with
 | nil=>exact⟨[],rfl⟩
 | cons e es ih =>
  obtain⟨l,hl⟩:=ih fun d hd=>h d (List.mem_cons_of_mem _ hd)
  obtain⟨a,ha⟩:=hP e (h e List.mem_cons_self)
  exact⟨a::l,by rw [List.map_cons,ha,hl]⟩
theorem wf_u8 {n:Int} (h:(Lit.int .u8 n).wf=true):0≤n∧n < 256:=by
 have:0≤n∧n≤255:=by simpa [Lit.wf,IntKind.min,IntKind.max,IntKind.signed,IntKind.bits] using h
 omega
theorem own:ownKnob Try.prog.godebug=none:=by kernel_rfl
end Go.Proofs.Ytioojmlhmhgeeaa
