/-
 Layer 22 (slots): the statement SlotsAreAsSpecified.
 Conditions: none;every input.
-/
import Derived.Test.YtioojmlhmhgeeaaF22zo
import Derived.Test.YtioojmlhmhgeeaaS22v
namespace Go.Proofs.Ytioojmlhmhgeeaa
open Go Go.E2 C22
open Go.ChangeShapes Go.WideShapes Go.RowKit
abbrev rP2:D→Prop:=fun d=>∃ f n:Int,d=.agg [.int .i64 f,.int .i64 n]
abbrev rU:D→Prop:=fun d=>∃ l:List Int,(∀ b∈l,0≤b∧b < 256)∧d=.list (l.map eU)
theorem rd5':Reads Try.prog 5 false (rI .u8):=reads_int (by kernel_rfl)
set_option maxRecDepth 100000 in
theorem rv92:ReadsV Try.prog 92 rP2 :=
 readsV_mono (readsV_array (n:=2) (e:=3) (by kernel_rfl) (reads_array (Rs:=[rI .i64,rI .i64]) (n:=2) (e:=3) (by kernel_rfl) (show LayL Try.prog false 0 [(0*Try.prog.cellsOf 3,3),(1*Try.prog.cellsOf 3,3)] [rI .i64,rI .i64] from⟨by kernel_rfl,rd3,by kernel_rfl,rd3,trivial⟩) (by kernel_rfl)) (by rintro d ⟨parts,_,rfl⟩;exact⟨_,rfl⟩)) (by
  rintro d ⟨parts,hp,rfl⟩
  obtain⟨_,_,rfl,⟨a,_,rfl⟩,hp1⟩:=parts_cons hp
  obtain⟨_,_,rfl,⟨b,_,rfl⟩,hp2⟩:=parts_cons hp1
  obtain rfl:=parts_nil hp2
  exact⟨a,b,rfl⟩)
set_option maxRecDepth 100000 in
theorem rv93:ReadsV Try.prog 93 rU :=
 readsV_mono (readsV_slice (e:=5) (sz:=1) (by kernel_rfl) (by kernel_rfl) (by decide) rd5') (by
  rintro d ⟨es,h,_,_,rfl⟩
  obtain⟨l,hl,rfl⟩:=exists_mapQ (f:=eU) (Q:=fun b=>0≤b∧b < 256) (fun d ⟨o,ho,e⟩=>⟨o,wf_u8 ho,e⟩) h
  exact⟨l,hl,rfl⟩)
theorem rv4':ReadsV Try.prog 4 (fun d=>∃ b,d=.bool b):=readsV_bool (by kernel_rfl)
theorem laySp:LayV Try.prog [92,93,4,22] [rP2,rU,(fun d=>∃ b,d=.bool b),rQ]:=⟨rv92,rv93,rv4',rv22',trivial⟩
theorem callSp:∀ xs,Parts [rP2,rU,(fun d=>∃ b,d=.bool b),rQ] xs→CallP Try.prog f_zz0 xs (·=.d (.bool true)):=by
 intro xs hp
 obtain⟨_,_,rfl,⟨f,n,rfl⟩,hp1⟩:=parts_cons hp
 obtain⟨_,_,rfl,⟨fl,hfl,rfl⟩,hp2⟩:=parts_cons hp1
 obtain⟨_,_,rfl,⟨fm,rfl⟩,hp3⟩:=parts_cons hp2
 obtain⟨_,_,rfl,⟨l,hl,rfl⟩,hp4⟩:=parts_cons hp3
 obtain rfl:=parts_nil hp4
 exact areas_ok f n fl hfl fm l hl
set_option maxRecDepth 100000 in
theorem areas_lifted (os:Os) (started:os.Started) (H:Type) (enc:TypeId×Value→H) :
 ReturnsInHanded {} Try.checked os 10 .any (Rows.slotsAreAsSpecifiedSpec.pre6 enc Try.prog Try.f10 Rows.slotsAreAsSpecifiedRow.domain false) (Rows.slotsAreAsSpecifiedSpec.post enc Try.prog Try.f10 false true false false):=by
 refine returnsInHanded_of_change (C:=Try.checked) own started (by kernel_rfl) Try.func10
  (ChangeSpec.witness6 (enc:=enc) (C:=Try.checked) false ⟨#[],#[.agg #[.int .i64 0,.int .i64 0],.slice none 0 0,.bool false,.slice none 0 0],[]⟩ 8 (by kernel_rfl) (by kernel_rfl) (by kernel_rfl) (by kernel_rfl)) ?_
 intro W base args ds gs before hval hW _ _
 exact law_contract (Rs:=[rP2,rU,(fun d=>∃ b,d=.bool b),rQ]) (tb:=4) ⟨_,_,Try.func10,rfl,rfl⟩ rfl laySp (by kernel_rfl) (by kernel_rfl)
  (fun H ds h=>by
    match ds,h with
    | [d1,d2,d3,d4],_=>exact⟨rfl,rfl,rfl⟩)
  callSp hval hW
theorem areas_said:Rows.SlotsAreAsSpecifiedSaid :=
 OpenClaim.holds_of_wide 10 Try.f10 rfl rfl rfl rfl rfl rfl rfl ⟨rfl,rfl,rfl,rfl,rfl⟩ rfl rfl rfl rfl rfl (by kernel_rfl) Try.func10 (by kernel_rfl)
  (of_decide_eq_true (by kernel_rfl)) (by unfold Func.isWrapper;first|(rw [if_pos (by decide +kernel)];kernel_rfl)|(rw [if_neg (by decide +kernel)];exact⟨rfl,rfl⟩))
  (fun os started H enc _=>areas_lifted os started H enc)
end Go.Proofs.Ytioojmlhmhgeeaa
