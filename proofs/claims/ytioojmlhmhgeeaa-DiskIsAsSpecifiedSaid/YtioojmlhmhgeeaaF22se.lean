/-
 Layer 21 (disk): the statement DiskIsAsSpecified.
 Conditions: none; every input.
-/
import Derived.Test.YtioojmlhmhgeeaaF22u
import Derived.Test.YtioojmlhmhgeeaaF22sd
namespace Go.Proofs.Ytioojmlhmhgeeaa
open Go Go.E2 C22
open Go.ChangeShapes Go.WideShapes Go.RowKit
abbrev rO:D→Prop:=fun d=>∃ l:List Rop,(∀ o ∈ l,o.b≤9223372036854775807)∧d=.list (l.map eOp)
theorem wf_i64 {n:Int} (h:(Lit.int .i64 n).wf=true):n≤9223372036854775807:=by
 have:-9223372036854775808≤n∧n≤9223372036854775807:=by simpa [Lit.wf,IntKind.min,IntKind.max,IntKind.signed,IntKind.bits] using h
 omega
theorem exists_mapQ2 {α:Type} {f:α→D} {Q:α→Prop} {es:List D} {P:D→Prop} (hP:∀ d,P d→∃ a,Q a∧d=f a) (h:∀ d ∈ es,P d):∃ l:List α,(∀ a ∈ l,Q a)∧es=l.map f:=by
 induction es with
 | nil=>exact ⟨[],by simp,rfl⟩
 | cons e es ih =>
  obtain ⟨l,hq,hl⟩:=ih fun d hd=>h d (List.mem_cons_of_mem _ hd)
  obtain ⟨a,hqa,ha⟩:=hP e (h e List.mem_cons_self)
  exact ⟨a::l,by intro x hx; rcases List.mem_cons.1 hx with rfl|hx; exact hqa; exact hq x hx,by rw [List.map_cons,ha,hl]⟩
set_option maxRecDepth 100000 in
theorem rd50o:Reads Try.prog 50 false (fun d=>∃ o:Rop,o.b≤9223372036854775807∧d=eOp o) :=
 reads_mono (reads_struct (Rs:=[rI .i64,rI .i64,rI .i64]) (fs:=fieldsOf Try.prog 50) (by kernel_rfl) (lay_of (l:=[(0,3),(1,3),(2,3)]) (by kernel_rfl)
  ⟨rfl,rd3,by kernel_rfl,rd3,by kernel_rfl,rd3,trivial⟩) (by kernel_rfl)) (by
  rintro d ⟨parts,hp,rfl⟩
  obtain ⟨_,_,rfl,⟨a,_,rfl⟩,hp1⟩:=parts_cons hp
  obtain ⟨_,_,rfl,⟨b,_,rfl⟩,hp2⟩:=parts_cons hp1
  obtain ⟨_,_,rfl,⟨c,hc,rfl⟩,hp3⟩:=parts_cons hp2
  obtain rfl:=parts_nil hp3
  exact ⟨⟨a,b,c⟩,wf_i64 hc,rfl⟩)
set_option maxRecDepth 100000 in
theorem rv46o:ReadsV Try.prog 46 rO :=
 readsV_mono (readsV_slice (e:=50) (sz:=3) (by kernel_rfl) (by kernel_rfl) (by decide) rd50o) (by
  rintro d ⟨es,h,_,_,rfl⟩
  obtain ⟨l,hq,rfl⟩:=exists_mapQ2 (f:=eOp) (Q:=fun o:Rop=>o.b≤9223372036854775807) (fun d ⟨o,ho,e⟩=>⟨o,ho,e⟩) h
  exact ⟨l,hq,rfl⟩)
theorem rv3o:ReadsV Try.prog 3 (rI .i64):=readsV_int (by kernel_rfl)
theorem layDk:LayV Try.prog [3,46] [rI .i64,rO]:=⟨rv3o,rv46o,trivial⟩
theorem callDk:∀ xs,Parts [rI .i64,rO] xs→CallP Try.prog f_zz0 xs (·=.d (.bool true)):=by
 intro xs hp
 obtain ⟨_,_,rfl,⟨n,_,rfl⟩,hp1⟩:=parts_cons hp
 obtain ⟨_,_,rfl,⟨l,hl,rfl⟩,hp2⟩:=parts_cons hp1
 obtain rfl:=parts_nil hp2
 exact disk_ok n l hl
set_option maxRecDepth 100000 in
theorem disk_lifted (os:Os) (started:os.Started) (H:Type) (enc:TypeId × Value→H) :
 ReturnsInHanded {} Try.checked os 4 .any (Rows.diskIsAsSpecifiedSpec.pre6 enc Try.prog Try.f4 Rows.diskIsAsSpecifiedRow.domain false) (Rows.diskIsAsSpecifiedSpec.post enc Try.prog Try.f4 false true false false):=by
 refine returnsInHanded_of_change (C:=Try.checked) own started (by kernel_rfl) Try.func4
  (ChangeSpec.witness6 (enc:=enc) (C:=Try.checked) false ⟨#[],#[.int .i64 0,.slice none 0 0],[]⟩ 8 (by kernel_rfl) (by kernel_rfl) (by kernel_rfl) (by kernel_rfl)) ?_
 intro W base args ds gs before hval hW _ _
 exact law_contract (Rs:=[rI .i64,rO]) (tb:=4) ⟨_,_,Try.func4,rfl,rfl⟩ rfl layDk (by kernel_rfl) (by kernel_rfl)
  (fun H ds h=>by
    match ds,h with
    | [d1,d2],_=>exact ⟨rfl,rfl,rfl⟩)
  callDk hval hW
theorem disk_said:Rows.DiskIsAsSpecifiedSaid :=
 OpenClaim.holds_of_wide 4 Try.f4 rfl rfl rfl rfl rfl rfl rfl ⟨rfl,rfl,rfl,rfl,rfl⟩ rfl rfl rfl rfl rfl (by kernel_rfl) Try.func4 (by kernel_rfl)
  (of_decide_eq_true (by kernel_rfl)) (by unfold Func.isWrapper; first|(rw [if_pos (by decide +kernel)]; kernel_rfl)|(rw [if_neg (by decide +kernel)]; exact ⟨rfl,rfl⟩))
  (fun os started H enc _=>disk_lifted os started H enc)
end Go.Proofs.Ytioojmlhmhgeeaa
