/-
 Layer 40 (txn): the statement TxnIsSerializable.
 Conditions: none;every input.
-/
import Derived.Test.YtlejjdbmmdghmaaX22
import Derived.Test.YtlejjdbmmdghmaaEL1
import Derived.JoinedOf
import Derived.Test.YtlejjdbmmdghmaaRows
namespace Go.Proofs.Ytlejjdbmmdghmaa
open Go Go.E2 C22 C40
open Go.ChangeShapes Go.WideShapes Go.RowKit
abbrev rI (k:IntKind):D→Prop:=fun d=>∃ n,(Lit.int k n).wf=true∧d=.int k n
abbrev rS:D→Prop:=fun d=>∃ s:List UInt8,s.length≤maxLen∧d=.str s
abbrev rB:D→Prop:=fun d=>∃ b,d=.bool b
abbrev rTw:D→Prop:=fun d=>∃ x:Tw,d=eTw x
abbrev rTl:D→Prop:=fun d=>∃ l:List Tw,l.length≤9223372036854775807∧d=eL l
abbrev rW2:D→Prop:=fun d=>∃ p:List Tw×List Tw,(p.1.length≤9223372036854775807∧p.2.length≤9223372036854775807)∧d=eW2 p
abbrev rWr:D→Prop:=fun d=>∃ l:List (List Tw×List Tw),(l.length≤9223372036854775807∧∀ p∈l,p.1.length≤9223372036854775807∧p.2.length≤9223372036854775807)∧d=.list (l.map eW2)
abbrev rM:D→Prop:=fun d=>∃ x:Int×Int×Int,d=eMv x
abbrev rMs:D→Prop:=fun d=>∃ l:List (Int×Int×Int),l.length≤9223372036854775807∧d=.list (l.map eMv)
theorem rd3:zd6 Try.prog 3 false (rI .i64):=zta (by kernel_rfl)
theorem rd9:zd6 Try.prog 9 false rS:=zm5 (by kernel_rfl)
theorem rd4:zd6 Try.prog 4 false rB:=zrq (by kernel_rfl)
theorem zkd {α:Type} {f:α→D} {es:List D} {P:D→Prop} {Q:α→Prop} (hP:∀ d,P d→∃ a,Q a∧d=f a) (h:∀ d∈es,P d):∃ l:List α,(∀ x∈l,Q x)∧es=l.map f:=by
 induction es with
 | nil=>exact ⟨[],fun x hx=>by simp at hx,rfl⟩
 | cons e es ih =>
  obtain ⟨l,hq,hl⟩:=ih fun d hd=>h d (List.mem_cons_of_mem _ hd)
  obtain ⟨a,hqa,ha⟩:=hP e (h e List.mem_cons_self)
  refine ⟨a::l,fun x hx=>?_,by rw [List.map_cons,ha,hl]⟩
  rcases List.mem_cons.1 hx with rfl|hx
  · exact hqa
  · exact hq x hx
theorem zke {α:Type} {f:α→D} {es:List D} {P:D→Prop} (hP:∀ d,P d→∃ a,d=f a) (h:∀ d∈es,P d):∃ l:List α,es=l.map f:=by
 obtain ⟨l,_,e⟩:=zkd (Q:=fun _=>True) (fun d hd=>by obtain ⟨a,ha⟩:=hP d hd;exact ⟨a,trivial,ha⟩) h
 exact ⟨l,e⟩
set_option maxRecDepth 100000 in
theorem rd89:zd6 Try.prog 89 false rTw :=
 zfg (zid (Rs:=[rI .i64,rI .i64,rS,rB]) (fs:=fieldsOf Try.prog 89) (by kernel_rfl) (zp7 (l:=[(0,3),(1,3),(2,9),(3,4)]) (by kernel_rfl)
  ⟨rfl,rd3,by kernel_rfl,rd3,by kernel_rfl,rd9,by kernel_rfl,rd4,trivial⟩) (by kernel_rfl)) (by
  rintro d ⟨parts,hp,rfl⟩
  obtain ⟨_,_,rfl,⟨a,_,rfl⟩,hp1⟩:=zba hp
  obtain ⟨_,_,rfl,⟨b,_,rfl⟩,hp2⟩:=zba hp1
  obtain ⟨_,_,rfl,⟨c,_,rfl⟩,hp3⟩:=zba hp2
  obtain ⟨_,_,rfl,⟨e,rfl⟩,hp4⟩:=zba hp3
  obtain rfl:=zgt hp4
  exact ⟨⟨a,b,c,e⟩,rfl⟩)
theorem rd36:zd6 Try.prog 36 false rTl :=
 zfg (zja (s:=false) (e:=89) (sz:=4) (by kernel_rfl) (by kernel_rfl) (by decide) rd89) (by
  rintro d ⟨es,h,hl,_,rfl⟩
  obtain ⟨l,rfl⟩:=zke (f:=eTw) (fun d hd=>hd) h
  rw [List.length_map] at hl
  exact ⟨l,hl,rfl⟩)
set_option maxRecDepth 100000 in
theorem rd87:zd6 Try.prog 87 false rW2 :=
 zfg (zou (Rs:=[rTl,rTl]) (n:=2) (e:=36) (by kernel_rfl) (show z50 Try.prog false 0 [(0 * Try.prog.cellsOf 36,36),(1 * Try.prog.cellsOf 36,36)] [rTl,rTl] from ⟨by kernel_rfl,rd36,by kernel_rfl,rd36,trivial⟩) (by kernel_rfl)) (by
  rintro d ⟨parts,hp,rfl⟩
  obtain ⟨_,_,rfl,⟨a,ha,rfl⟩,hp1⟩:=zba hp
  obtain ⟨_,_,rfl,⟨b,hb,rfl⟩,hp2⟩:=zba hp1
  obtain rfl:=zgt hp2
  exact ⟨(a,b),⟨ha,hb⟩,rfl⟩)
theorem rv77:zjc Try.prog 77 rWr :=
 zjd (zie (e:=87) (sz:=2) (by kernel_rfl) (by kernel_rfl) (by decide) rd87) (by
  rintro d ⟨es,h,hl,_,rfl⟩
  obtain ⟨l,hq,rfl⟩:=zkd (f:=eW2) (Q:=fun p=>p.1.length≤9223372036854775807∧p.2.length≤9223372036854775807) (fun d hd=>hd) h
  rw [List.length_map] at hl
  exact ⟨l,⟨hl,hq⟩,rfl⟩)
set_option maxRecDepth 100000 in
theorem rd92:zd6 Try.prog 92 false rM :=
 zfg (zid (Rs:=[rI .i64,rI .i64,rI .i64]) (fs:=fieldsOf Try.prog 92) (by kernel_rfl) (zp7 (l:=[(0,3),(1,3),(2,3)]) (by kernel_rfl)
  ⟨rfl,rd3,by kernel_rfl,rd3,by kernel_rfl,rd3,trivial⟩) (by kernel_rfl)) (by
  rintro d ⟨parts,hp,rfl⟩
  obtain ⟨_,_,rfl,⟨a,_,rfl⟩,hp1⟩:=zba hp
  obtain ⟨_,_,rfl,⟨b,_,rfl⟩,hp2⟩:=zba hp1
  obtain ⟨_,_,rfl,⟨c,_,rfl⟩,hp3⟩:=zba hp2
  obtain rfl:=zgt hp3
  exact ⟨(a,b,c),rfl⟩)
theorem rv78:zjc Try.prog 78 rMs :=
 zjd (zie (e:=92) (sz:=3) (by kernel_rfl) (by kernel_rfl) (by decide) rd92) (by
  rintro d ⟨es,h,hl,_,rfl⟩
  obtain ⟨l,rfl⟩:=zke (f:=eMv) (fun d hd=>hd) h
  rw [List.length_map] at hl
  exact ⟨l,hl,rfl⟩)
theorem own:ownKnob Try.prog.godebug=none:=by kernel_rfl
theorem layK:z52 Try.prog [77,78] [rWr,rMs]:=⟨rv77,rv78,trivial⟩
theorem callK:∀ xs,zjb [rWr,rMs] xs→zb2 Try.prog f_zz7 xs (·=.d (.bool true)):=by
 intro xs hp
 obtain ⟨_,_,rfl,⟨wr,⟨h1,h2⟩,rfl⟩,hp1⟩:=zba hp
 obtain ⟨_,_,rfl,⟨mv,h3,rfl⟩,hp2⟩:=zba hp1
 obtain rfl:=zgt hp2
 exact zb2.of_deep ((z5u wr mv h2 h1 h3 [] zel [] trivial).mono fun r _ _ ⟨e,post,⟨hr,_⟩,_⟩=>⟨e,_,.refl _,hr⟩)
set_option maxRecDepth 100000 in
theorem zsx (os:Os) (started:os.Started) (H:Type) (enc:TypeId×Value→H) :
 ReturnsInHanded {} Try.checked os 5 .any (Rows.txnIsSerializableSpec.pre6 enc Try.prog Try.f5 Rows.txnIsSerializableRow.domain false) (Rows.txnIsSerializableSpec.post enc Try.prog Try.f5 false true false false):=by
 refine returnsInHanded_of_change (C:=Try.checked) own started (by kernel_rfl) Try.func5
  (ChangeSpec.witness6 (enc:=enc) (C:=Try.checked) false ⟨#[],#[.slice none 0 0,.slice none 0 0],[]⟩ 8 (by kernel_rfl) (by kernel_rfl) (by kernel_rfl) (by kernel_rfl)) ?_
 intro W base args ds gs before hval hW _ _
 exact zm8 (Rs:=[rWr,rMs]) (tb:=4) ⟨_,_,Try.func5,rfl,rfl⟩ rfl layK (by kernel_rfl) (by kernel_rfl)
  (fun H ds h=>by
    match ds,h with
    | [d1,d2],_=>exact ⟨rfl,rfl,rfl⟩)
  callK hval hW
theorem ser_said:Rows.TxnIsSerializableSaid :=
 OpenClaim.holds_of_wide 5 Try.f5 rfl rfl rfl rfl rfl rfl rfl ⟨rfl,rfl,rfl,rfl,rfl⟩ rfl rfl rfl rfl rfl (by kernel_rfl) Try.func5 (by kernel_rfl)
  (of_decide_eq_true (by kernel_rfl)) (by unfold Func.isWrapper;first|(rw [if_pos (by decide +kernel)];kernel_rfl)|(rw [if_neg (by decide +kernel)];exact ⟨rfl,rfl⟩))
  (fun os started H enc _=>zsx os started H enc)
end Go.Proofs.Ytlejjdbmmdghmaa
