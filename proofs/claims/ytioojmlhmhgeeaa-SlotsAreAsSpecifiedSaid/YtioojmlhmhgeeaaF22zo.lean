/-
 Layer 22 (slots): the calls that a statement is given.
 Conditions: none;definitions.
-/
import Derived.Test.YtioojmlhmhgeeaaF22za
import Derived.Test.YtioojmlhmhgeeaaF22u
namespace Go.Proofs.Ytioojmlhmhgeeaa
open Go Go.E2 C22
structure Op5 where
 kind:Int
 a:Int
 b:Str
 keep:List Int
def eQ (x:Op5):D:=.agg [.int .i64 x.kind,.int .i64 x.a,.str x.b,.list (x.keep.map eI)]
attribute [go_sem] eQ
@[go_sem] theorem eQ_size (x:Op5):sizeOk 4 (eQ x)=true:=rfl
@[go_sem] theorem eQ_all (l:List Op5):(l.map eQ).all (sizeOk 4)=true:=by rw [List.all_eq_true];intro x hx;obtain⟨s,_,rfl⟩:=List.mem_map.1 hx;rfl
structure WfO (o:Op5):Prop where
 a0:-9223372036854775808≤o.a
 a1:o.a≤9223372036854775807
 k:o.keep.length≤9223372036854775807
end Go.Proofs.Ytioojmlhmhgeeaa
/-
 Layer 22 (slots): what the calls of a statement read as.
 Conditions: none.
-/
namespace Go.Proofs.Ytioojmlhmhgeeaa
open Go Go.E2 C22
open Go.ChangeShapes Go.WideShapes Go.RowKit
abbrev rS5:D→Prop:=fun d=>∃ s:List UInt8,s.length≤maxLen∧d=.str s
abbrev rQ:D→Prop:=fun d=>∃ l:List Op5,(∀ o∈l,WfO o)∧d=.list (l.map eQ)
theorem rd9':Reads Try.prog 9 false rS5:=reads_string (by kernel_rfl)
theorem rd33':Reads Try.prog 33 false rN :=
 reads_mono (reads_slice (s:=false) (e:=3) (sz:=1) (by kernel_rfl) (by kernel_rfl) (by decide) rd3) (by
  rintro d ⟨es,h,hl,_,rfl⟩
  obtain⟨l,rfl⟩:=exists_map (f:=eI) (fun d ⟨n,_,e⟩=>⟨n,e⟩) h
  rw [List.length_map] at hl
  exact⟨l,hl,rfl⟩)
theorem wf_i64 {n:Int} (h:(Lit.int .i64 n).wf=true):-9223372036854775808≤n∧n≤9223372036854775807:=by
 have:-9223372036854775808≤n∧n≤9223372036854775807:=by simpa [Lit.wf,IntKind.min,IntKind.max,IntKind.signed,IntKind.bits] using h
 exact this
theorem exists_mapQ {α:Type} {f:α→D} {es:List D} {P:D→Prop} {Q:α→Prop} (hP:∀ d,P d→∃ a,Q a∧d=f a) (h:∀ d∈es,P d):∃ l:List α,(∀ a∈l,Q a)∧es=l.map f:=by
 induction es with
 | nil=>exact⟨[],by simp,rfl⟩
 | cons e es ih =>
  obtain⟨l,hl,hl2⟩:=ih fun d hd=>h d (List.mem_cons_of_mem _ hd)
  obtain⟨a,ha,ha2⟩:=hP e (h e List.mem_cons_self)
  refine⟨a::l,fun x hx=>?_,by rw [List.map_cons,ha2,hl2]⟩
  rcases List.mem_cons.1 hx with rfl|hx
  · exact ha
  · exact hl x hx
set_option maxRecDepth 100000 in
theorem rd37':Reads Try.prog 37 false (fun d=>∃ o:Op5,WfO o∧d=eQ o) :=
 reads_mono (reads_struct (Rs:=[rI .i64,rI .i64,rS5,rN]) (fs:=fieldsOf Try.prog 37) (by kernel_rfl) (lay_of (l:=[(0,3),(1,3),(2,9),(3,33)]) (by kernel_rfl)
  ⟨rfl,rd3,by kernel_rfl,rd3,by kernel_rfl,rd9',by kernel_rfl,rd33',trivial⟩) (by kernel_rfl)) (by
  rintro d ⟨parts,hp,rfl⟩
  obtain⟨_,_,rfl,⟨a,_,rfl⟩,hp1⟩:=parts_cons hp
  obtain⟨_,_,rfl,⟨b,hb,rfl⟩,hp2⟩:=parts_cons hp1
  obtain⟨_,_,rfl,⟨c,_,rfl⟩,hp3⟩:=parts_cons hp2
  obtain⟨_,_,rfl,⟨k,hk,rfl⟩,hp4⟩:=parts_cons hp3
  obtain rfl:=parts_nil hp4
  exact⟨⟨a,b,c,k⟩,⟨(wf_i64 hb).1,(wf_i64 hb).2,hk⟩,rfl⟩)
set_option maxRecDepth 100000 in
theorem rv22':ReadsV Try.prog 22 rQ :=
 readsV_mono (readsV_slice (e:=37) (sz:=4) (by kernel_rfl) (by kernel_rfl) (by decide) rd37') (by
  rintro d ⟨es,h,_,_,rfl⟩
  obtain⟨l,hl,rfl⟩:=exists_mapQ (f:=eQ) (Q:=WfO) (fun d ⟨o,ho,e⟩=>⟨o,ho,e⟩) h
  exact⟨l,hl,rfl⟩)
end Go.Proofs.Ytioojmlhmhgeeaa
