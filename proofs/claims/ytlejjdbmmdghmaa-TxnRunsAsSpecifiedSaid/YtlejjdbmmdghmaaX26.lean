/-
 Layer 40 (txn): the statement TxnRunsAsSpecified.
 Conditions: none;every input.
-/
import Derived.Test.YtlejjdbmmdghmaaX25
import Derived.Test.YtlejjdbmmdghmaaEL1
import Derived.JoinedOf
import Derived.Test.YtlejjdbmmdghmaaRows
namespace Go.Proofs.Ytlejjdbmmdghmaa
open Go Go.E2 C22 C40
open Go.ChangeShapes Go.WideShapes Go.RowKit
abbrev rI (k:IntKind):D→Prop:=fun d=>∃ n,(Lit.int k n).wf=true∧d=.int k n
abbrev rS:D→Prop:=fun d=>∃ s:List UInt8,s.length≤maxLen∧d=.str s
abbrev rB:D→Prop:=fun d=>∃ b,d=.bool b
abbrev rTw:D→Prop:=fun d=>∃ x:Tw,d=eTw x
abbrev rTl:D→Prop:=fun d=>∃ l:List Tw,l.length≤9223372036854775807∧d=eL l
abbrev rTt:D→Prop:=fun d=>∃ l:List (List Tw),(l.length≤9223372036854775807∧∀ x∈l,x.length≤9223372036854775807)∧d=.list (l.map eL)
abbrev rCl:D→Prop:=fun d=>∃ c:Cl,(c.ps.length≤9223372036854775807∧∀ x∈c.ps,x.length≤9223372036854775807)∧d=eCl c
abbrev rCs:D→Prop:=fun d=>∃ l:List Cl,(l.length≤9223372036854775807∧∀ c∈l,c.ps.length≤9223372036854775807∧∀ x∈c.ps,x.length≤9223372036854775807)∧d=.list (l.map eCl)
theorem rd3:zei Try.prog 3 false (rI .i64):=zts (by kernel_rfl)
theorem rd9:zei Try.prog 9 false rS:=znd (by kernel_rfl)
theorem rd4:zei Try.prog 4 false rB:=zr8 (by kernel_rfl)
theorem zgr {α:Type} {f:α→D} {es:List D} {P:D→Prop} {Q:α→Prop} (hP:∀ d,P d→∃ a,Q a∧d=f a) (h:∀ d∈es,P d):∃ l:List α,(∀ x∈l,Q x)∧es=l.map f:=by
 induction es with
 | nil=>exact ⟨[],fun x hx=>by simp at hx,rfl⟩
 | cons e es ih =>
  obtain ⟨l,hq,hl⟩:=ih fun d hd=>h d (List.mem_cons_of_mem _ hd)
  obtain ⟨a,hqa,ha⟩:=hP e (h e List.mem_cons_self)
  refine ⟨a::l,fun x hx=>?_,by rw [List.map_cons,ha,hl]⟩
  rcases List.mem_cons.1 hx with rfl|hx
  · exact hqa
  · exact hq x hx
theorem zqa {α:Type} {f:α→D} {es:List D} {P:D→Prop} (hP:∀ d,P d→∃ a,d=f a) (h:∀ d∈es,P d):∃ l:List α,es=l.map f:=by
 obtain ⟨l,_,e⟩:=zgr (Q:=fun _=>True) (fun d hd=>by obtain ⟨a,ha⟩:=hP d hd;exact ⟨a,trivial,ha⟩) h
 exact ⟨l,e⟩
set_option maxRecDepth 100000 in
theorem rd89:zei Try.prog 89 false rTw :=
 zfo (zii (Rs:=[rI .i64,rI .i64,rS,rB]) (fs:=fieldsOf Try.prog 89) (by kernel_rfl) (ztt (l:=[(0,3),(1,3),(2,9),(3,4)]) (by kernel_rfl)
  ⟨rfl,rd3,by kernel_rfl,rd3,by kernel_rfl,rd9,by kernel_rfl,rd4,trivial⟩) (by kernel_rfl)) (by
  rintro d ⟨parts,hp,rfl⟩
  obtain ⟨_,_,rfl,⟨a,_,rfl⟩,hp1⟩:=zb3 hp
  obtain ⟨_,_,rfl,⟨b,_,rfl⟩,hp2⟩:=zb3 hp1
  obtain ⟨_,_,rfl,⟨c,_,rfl⟩,hp3⟩:=zb3 hp2
  obtain ⟨_,_,rfl,⟨e,rfl⟩,hp4⟩:=zb3 hp3
  obtain rfl:=zjh hp4
  exact ⟨⟨a,b,c,e⟩,rfl⟩)
theorem rd36:zei Try.prog 36 false rTl :=
 zfo (zgb (s:=false) (e:=89) (sz:=4) (by kernel_rfl) (by kernel_rfl) (by decide) rd89) (by
  rintro d ⟨es,h,hl,_,rfl⟩
  obtain ⟨l,rfl⟩:=zqa (f:=eTw) (fun d hd=>hd) h
  rw [List.length_map] at hl
  exact ⟨l,hl,rfl⟩)
theorem rd57:zei Try.prog 57 false rTt :=
 zfo (zgb (s:=false) (e:=36) (sz:=1) (by kernel_rfl) (by kernel_rfl) (by decide) rd36) (by
  rintro d ⟨es,h,hl,_,rfl⟩
  obtain ⟨l,hq,rfl⟩:=zgr (f:=eL) (Q:=fun x=>x.length≤9223372036854775807) (fun d hd=>hd) h
  rw [List.length_map] at hl
  exact ⟨l,⟨hl,hq⟩,rfl⟩)
set_option maxRecDepth 100000 in
theorem rd59:zei Try.prog 59 false rCl :=
 zfo (zii (Rs:=[rI .i64,rI .i64,rTt]) (fs:=fieldsOf Try.prog 59) (by kernel_rfl) (ztt (l:=[(0,3),(1,3),(2,57)]) (by kernel_rfl)
  ⟨rfl,rd3,by kernel_rfl,rd3,by kernel_rfl,rd57,trivial⟩) (by kernel_rfl)) (by
  rintro d ⟨parts,hp,rfl⟩
  obtain ⟨_,_,rfl,⟨a,_,rfl⟩,hp1⟩:=zb3 hp
  obtain ⟨_,_,rfl,⟨b,_,rfl⟩,hp2⟩:=zb3 hp1
  obtain ⟨_,_,rfl,⟨c,hc,rfl⟩,hp3⟩:=zb3 hp2
  obtain rfl:=zjh hp3
  exact ⟨⟨a,b,c⟩,hc,rfl⟩)
theorem rv47:zla Try.prog 47 rCs :=
 zo8 (zne (e:=59) (sz:=3) (by kernel_rfl) (by kernel_rfl) (by decide) rd59) (by
  rintro d ⟨es,h,hl,_,rfl⟩
  obtain ⟨l,hq,rfl⟩:=zgr (f:=eCl) (Q:=fun c=>c.ps.length≤9223372036854775807∧∀ x∈c.ps,x.length≤9223372036854775807) (fun d hd=>hd) h
  rw [List.length_map] at hl
  exact ⟨l,⟨hl,hq⟩,rfl⟩)
theorem own:ownKnob Try.prog.godebug=none:=by kernel_rfl
theorem layK:z55 Try.prog [47] [rCs]:=⟨rv47,trivial⟩
theorem callK:∀ xs,zk1 [rCs] xs→zba Try.prog f_zz5 xs (·=.d (.bool true)):=by
 intro xs hp
 obtain ⟨_,_,rfl,⟨cs,⟨h1,h2⟩,rfl⟩,hp1⟩:=zb3 hp
 obtain rfl:=zjh hp1
 exact zba.of_deep ((z1z cs h2 h1 [] zdi [] trivial).mono fun r _ _ ⟨e,post,⟨hr,_⟩,_⟩=>⟨e,_,.refl _,hr⟩)
set_option maxRecDepth 100000 in
theorem zqb (os:Os) (started:os.Started) (H:Type) (enc:TypeId×Value→H) :
 ReturnsInHanded {} Try.checked os 4 .any (Rows.txnRunsAsSpecifiedSpec.pre6 enc Try.prog Try.f4 Rows.txnRunsAsSpecifiedRow.domain false) (Rows.txnRunsAsSpecifiedSpec.post enc Try.prog Try.f4 false true false false):=by
 refine returnsInHanded_of_change (C:=Try.checked) own started (by kernel_rfl) Try.func4
  (ChangeSpec.witness6 (enc:=enc) (C:=Try.checked) false ⟨#[],#[.slice none 0 0],[]⟩ 8 (by kernel_rfl) (by kernel_rfl) (by kernel_rfl) (by kernel_rfl)) ?_
 intro W base args ds gs before hval hW _ _
 exact znh (Rs:=[rCs]) (tb:=4) ⟨_,_,Try.func4,rfl,rfl⟩ rfl layK (by kernel_rfl) (by kernel_rfl)
  (fun H ds h=>by
    match ds,h with
    | [d1],_=>exact ⟨rfl,rfl,rfl⟩)
  callK hval hW
theorem runs_said:Rows.TxnRunsAsSpecifiedSaid :=
 OpenClaim.holds_of_wide 4 Try.f4 rfl rfl rfl rfl rfl rfl rfl ⟨rfl,rfl,rfl,rfl,rfl⟩ rfl rfl rfl rfl rfl (by kernel_rfl) Try.func4 (by kernel_rfl)
  (of_decide_eq_true (by kernel_rfl)) (by unfold Func.isWrapper;first|(rw [if_pos (by decide +kernel)];kernel_rfl)|(rw [if_neg (by decide +kernel)];exact ⟨rfl,rfl⟩))
  (fun os started H enc _=>zqb os started H enc)
end Go.Proofs.Ytlejjdbmmdghmaa
