/-
 Layer 44: the statement DrawDoesNotDependOnWhoVanishes.
 Conditions: none; the package-level tables that the statement lists.
-/
import Derived.Test.YtclmdhceceacoaaDoorH29
import Derived.Test.YtclmdhceceacoaaDoorH34
namespace Go.Proofs.YtclmdhceceacoaaDoor
open Go Go.E2 CW CH C44
open Go.ChangeShapes Go.WideShapes Go.ChangeAt Go.RowKit
theorem indep_lay:LayV Tryd.prog [25,26,26] [rT,rL',rL']:=⟨rv25,rv26,rv26,trivial⟩
theorem indep_call:∀ xs,Parts [rT,rL',rL'] xs→CallP Tryd.prog f_zz0 xs (·=.d (.bool true)):=by
 intro xs hp
 obtain ⟨_,_,rfl,⟨t,rfl⟩,hp1⟩:=parts_cons hp
 obtain ⟨_,_,rfl,⟨a,rfl⟩,hp2⟩:=parts_cons hp1
 obtain ⟨_,_,rfl,⟨b,rfl⟩,hp3⟩:=parts_cons hp2
 obtain rfl:=parts_nil hp3
 exact indep_ok t a b
set_option maxRecDepth 100000 in
theorem indep_contract (H:Type) (enc:TypeId × Value→H) (W:World) (base:Nat) (args:Array Value) (ds gs:List (DataW H)) (before:List MemPlace)
 (hval:∀ (j:Nat) t v,Tryd.f5.params[j]?=some t→args[j]?=some v→Value.okWide Tryd.prog W .any base t v)
 (hW:DataW.Whole enc Tryd.prog Tryd.f5.params.toList Rows.drawDoesNotDependOnWhoVanishesSpec.vars false W args.toList ds gs before) (hL:laidMetH Tryd.prog Rows.drawDoesNotDependOnWhoVanishesRow.laid W) :
 Calls Tryd.prog 5 args W fun e W'=>∃ v,e=.returned v∧Rows.drawDoesNotDependOnWhoVanishesSpec.post enc Tryd.prog Tryd.f5 false true false false W args v W' :=
 law_contract (Rs:=[rT,rL',rL']) (tb:=4) ⟨_,_,Tryd.func5,rfl,rfl⟩ rfl indep_lay (by kernel_rfl) (by kernel_rfl)
  (fun H ds h=>by
    match ds,h with
    | [d1,d2,d3],_=>exact ⟨rfl,rfl,rfl⟩)
  indep_call hval hW (tabOk_of hL)
abbrev indep_args:Array Value:=#[.agg #[.int .i64 0,.int .i64 0,.slice none 0 0],.slice none 0 0,.slice none 0 0]
theorem indep_met (os:Os):laidMet Tryd.prog Rows.drawDoesNotDependOnWhoVanishesRow.laid ((laidWorld os).forCall (fun _ _=>0) ⟨#[],indep_args,[]⟩).memory :=
 laidMet_of_run' 8 (by kernel_rfl) (by kernel_rfl)
theorem indep_reads (os:Os) {H:Type} (enc:TypeId × Value→H):∃ places,DataW.whole enc Tryd.prog ((laidWorld os).forCall (fun _ _=>0) ⟨#[],indep_args,[]⟩).memory Tryd.f5.params.toList Rows.drawDoesNotDependOnWhoVanishesSpec.vars false indep_args.toList 8 =
 some ([.agg [.lit (.int .i64 0),.lit (.int .i64 0),.nil],.nil,.nil],[],places):=⟨[],by kernel_rfl⟩
set_option maxRecDepth 100000 in
theorem indep_lifted (os:Os) (started:os.Started) (H:Type) (enc:TypeId × Value→H) (F:Stop.Interp) :
 ReturnsInHanded {} Tryd.checked os 5 .any ((OpenSpec.ofChange Rows.drawDoesNotDependOnWhoVanishesSpec).preRow enc Tryd.prog Tryd.f5 Rows.drawDoesNotDependOnWhoVanishesRow.domain false Rows.drawDoesNotDependOnWhoVanishesRow.laid) (((OpenSpec.ofChange Rows.drawDoesNotDependOnWhoVanishesSpec).at F).post enc Tryd.prog Tryd.f5 false true false false):=by
 obtain ⟨places,hx⟩:=indep_reads os enc
 refine returnsInHanded_of_row (C:=Tryd.checked) (s:=OpenSpec.ofChange Rows.drawDoesNotDependOnWhoVanishesSpec) own started (by kernel_rfl) Tryd.func5
  (witness_row_at (enc:=enc) (C:=Tryd.checked) false (laidWorld os) indep_args rfl (by kernel_rfl) (by kernel_rfl) (by kernel_rfl)
    (OpenSpec.preRow_of_cond 8 hx (by kernel_rfl) (fun k hk=>by cases hk) (by kernel_rfl) (indep_met os))) ?_
 intro W base args ds gs before hval hW _ _ _ hL _ _
 exact indep_contract H enc W base args ds gs before hval hW hL
theorem indep_said0:Rows.DrawDoesNotDependOnWhoVanishesSaid :=
 OpenClaim.holds_of_cond 5 Tryd.f5 rfl rfl rfl rfl rfl rfl rfl ⟨rfl,rfl,rfl,rfl,rfl⟩ rfl rfl rfl rfl rfl (by kernel_rfl) Tryd.func5 (by kernel_rfl)
  (of_decide_eq_true (by kernel_rfl)) (by unfold Func.isWrapper; first|(rw [if_pos (by decide +kernel)]; kernel_rfl)|(rw [if_neg (by decide +kernel)]; exact ⟨rfl,rfl⟩))
  (fun os started H enc _ F=>by rw [OpenClaim.pre_eq_preRow]; exact indep_lifted os started H enc F)
theorem indep_plain (f : FuncId) (fn : Func) (hf : Tryd.pinned.checked.prog.funcNamed "quietus/quietuslaw44.DrawDoesNotDependOnWhoVanishes" = some f) (hfn : Tryd.pinned.checked.prog.funcs[f]? = some fn) :
 false=Tryd.pinned.checked.prog.looks []∧∀ (j:Nat) t,fn.params[j]?=some t→Tryd.pinned.checked.prog.wantsStandIn t=false:=by
 obtain rfl : f = 5 := Option.some.inj ((show Tryd.prog.funcNamed "quietus/quietuslaw44.DrawDoesNotDependOnWhoVanishes" = some 5 by kernel_rfl).symm.trans hf) |>.symm
 obtain rfl:fn=Tryd.f5:=(Option.some.inj (Tryd.func5.symm.trans hfn)).symm
 refine ⟨by kernel_rfl,fun j t ht=>?_⟩
 rw [Tryd.params5] at ht
 have h1:∀ t ∈ ([25,26,26]:List TypeId),Tryd.prog.wantsStandIn t=false:=by
  intro t ht
  simp only [List.mem_cons,List.not_mem_nil,or_false] at ht
  rcases ht with rfl|rfl|rfl<;>kernel_rfl
 exact h1 t (by have:=Array.mem_of_getElem? ht; simpa using this)
theorem indep_said:Rows.DrawDoesNotDependOnWhoVanishesCardSaid :=
 Claim7.holds_tied_plain_at .later [] _ _ _ _ indep_said0 (fun _ h=>by cases h) (by kernel_rfl) (fun _ h=>by cases h) drawDoesNotDependOnWhoVanishes_row_tie rfl ⟨rfl,rfl⟩ (by kernel_rfl) rfl indep_plain (by kernel_rfl)
end Go.Proofs.YtclmdhceceacoaaDoor
