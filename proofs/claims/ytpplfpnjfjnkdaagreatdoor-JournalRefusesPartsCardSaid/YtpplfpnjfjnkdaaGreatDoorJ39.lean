/-
 Layer 23: the statement JournalRefusesParts.
 Conditions: none;the package-level tables that the statement lists.
-/
import Derived.Test.YtpplfpnjfjnkdaaGreatDoorJ34
import Derived.Test.YtpplfpnjfjnkdaaGreatDoorJ25
namespace Go.Proofs.YtpplfpnjfjnkdaaGreatDoor
open Go Go.E2 CW CH
open Go.ChangeShapes Go.WideShapes Go.ChangeAt Go.RowKit
abbrev rBo:D→Prop:=fun x=>∃ b:Bool,x=.bool b
theorem rv3:zlm Tryz.prog 3 (rI .i64):=zta (by kernel_rfl)
theorem rv4:zlm Tryz.prog 4 rBo:=zp4 (by kernel_rfl)
theorem zq8:z96 Tryz.prog [3,3,4] [rI .i64,rI .i64,rBo]:=⟨rv3,rv3,rv4,trivial⟩
theorem zpg:∀ xs,zn1 [rI .i64,rI .i64,rBo] xs→zw Tryz.prog f_zz0 xs (·=.d (.bool true)):=by
 intro xs hp
 obtain ⟨_,_,rfl,⟨a,ha,rfl⟩,hp1⟩:=zh8 hp
 obtain ⟨_,_,rfl,⟨b,hb,rfl⟩,hp2⟩:=zh8 hp1
 obtain ⟨_,_,rfl,⟨c,rfl⟩,hp3⟩:=zh8 hp2
 obtain rfl:=zuw hp3
 exact zt7 a b c
set_option maxRecDepth 100000 in
theorem zjh (H:Type) (enc:TypeId×Value→H) (W:World) (base:Nat) (args:Array Value) (ds gs:List (DataW H)) (before:List MemPlace)
 (hval:∀ (j:Nat) t v,Tryz.f3.params[j]?=some t→args[j]?=some v→Value.okWide Tryz.prog W .any base t v)
 (hW:DataW.Whole enc Tryz.prog Tryz.f3.params.toList Rows.journalRefusesPartsSpec.vars false W args.toList ds gs before) (hL:laidMetH Tryz.prog Rows.journalRefusesPartsRow.laid W) :
 Calls Tryz.prog 3 args W fun e W'=>∃ v,e=.returned v∧Rows.journalRefusesPartsSpec.post enc Tryz.prog Tryz.f3 false true false false W args v W' :=
 zn4 (Rs:=[rI .i64,rI .i64,rBo]) (tb:=4) ⟨_,_,Tryz.func3,rfl,rfl⟩ rfl zq8 (by kernel_rfl) (by kernel_rfl)
  (fun H ds h=>by
    match ds,h with
    | [d1,d2,d3],_=>exact ⟨rfl,rfl,rfl⟩)
  zpg hval hW (z0k hL)
abbrev zeg:Array Value:=#[.int .i64 0,.int .i64 0,.bool false]
theorem zq9 (os:Os):laidMet Tryz.prog Rows.journalRefusesPartsRow.laid ((laidWorld os).forCall (fun _ _=>0) ⟨#[],zeg,[]⟩).memory :=
 laidMet_of_run' 8 (by kernel_rfl) (by kernel_rfl)
theorem znb (os:Os) {H:Type} (enc:TypeId×Value→H):∃ places,DataW.whole enc Tryz.prog ((laidWorld os).forCall (fun _ _=>0) ⟨#[],zeg,[]⟩).memory Tryz.f3.params.toList Rows.journalRefusesPartsSpec.vars false zeg.toList 8 =
 some ([.lit (.int .i64 0),.lit (.int .i64 0),.lit (.bool false)],[],places):=⟨[],by kernel_rfl⟩
set_option maxRecDepth 100000 in
theorem zlj (os:Os) (started:os.Started) (H:Type) (enc:TypeId×Value→H) (F:Stop.Interp) :
 ReturnsInHanded {} Tryz.checked os 3 .any ((OpenSpec.ofChange Rows.journalRefusesPartsSpec).preRow enc Tryz.prog Tryz.f3 Rows.journalRefusesPartsRow.domain false Rows.journalRefusesPartsRow.laid) (((OpenSpec.ofChange Rows.journalRefusesPartsSpec).at F).post enc Tryz.prog Tryz.f3 false true false false):=by
 obtain ⟨places,hx⟩:=znb os enc
 refine returnsInHanded_of_row (C:=Tryz.checked) (s:=OpenSpec.ofChange Rows.journalRefusesPartsSpec) own started (by kernel_rfl) Tryz.func3
  (witness_row_at (enc:=enc) (C:=Tryz.checked) false (laidWorld os) zeg rfl (by kernel_rfl) (by kernel_rfl) (by kernel_rfl)
    (OpenSpec.preRow_of_cond 8 hx (by kernel_rfl) (fun k hk=>by cases hk) (by kernel_rfl) (zq9 os))) ?_
 intro W base args ds gs before hval hW _ _ _ hL _ _
 exact zjh H enc W base args ds gs before hval hW hL
theorem znc:Rows.JournalRefusesPartsSaid :=
 OpenClaim.holds_of_cond 3 Tryz.f3 rfl rfl rfl rfl rfl rfl rfl ⟨rfl,rfl,rfl,rfl,rfl⟩ rfl rfl rfl rfl rfl (by kernel_rfl) Tryz.func3 (by kernel_rfl)
  (of_decide_eq_true (by kernel_rfl)) (by unfold Func.isWrapper;first|(rw [if_pos (by decide +kernel)];kernel_rfl)|(rw [if_neg (by decide +kernel)];exact ⟨rfl,rfl⟩))
  (fun os started H enc _ F=>by rw [OpenClaim.pre_eq_preRow];exact zlj os started H enc F)
theorem znd (f : FuncId) (fn : Func) (hf : Tryz.pinned.checked.prog.funcNamed "quietus/quietuslaw23.JournalRefusesParts" = some f) (hfn : Tryz.pinned.checked.prog.funcs[f]? = some fn) :
 false=Tryz.pinned.checked.prog.looks []∧∀ (j:Nat) t,fn.params[j]?=some t→Tryz.pinned.checked.prog.wantsStandIn t=false:=by
 obtain rfl : f = 3 := ylwQ ((show Tryz.prog.funcNamed "quietus/quietuslaw23.JournalRefusesParts" = some 3 by kernel_rfl).symm.trans hf) |>.symm
 obtain rfl:fn=Tryz.f3:=(ylwQ (Tryz.func3.symm.trans hfn)).symm
 refine ⟨by kernel_rfl,fun j t ht=>?_⟩
 rw [Tryz.params3] at ht
 have h1:∀ t∈([3,3,4]:List TypeId),Tryz.prog.wantsStandIn t=false:=by
  intro t ht
  simp only [List.mem_cons,List.not_mem_nil,or_false] at ht
  rcases ht with rfl|rfl|rfl<;>kernel_rfl
 exact h1 t (by have:=Array.mem_of_getElem? ht;simpa using this)
theorem refuses_said:Rows.JournalRefusesPartsCardSaid :=
 Claim7.holds_tied_plain_at .later [] _ _ _ _ znc (fun _ h=>by cases h) (by kernel_rfl) (fun _ h=>by cases h) journalRefusesParts_row_tie rfl ⟨rfl,rfl⟩ (by kernel_rfl) rfl znd (by kernel_rfl)
end Go.Proofs.YtpplfpnjfjnkdaaGreatDoor
