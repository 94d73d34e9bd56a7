/-
 Layer 44: the statement DrawChallengesAsSpecified.
 Conditions: none; the package-level tables that the statement lists.
-/
import Derived.Test.YtclmdhceceacoaaDoorH29
import Derived.Test.YtclmdhceceacoaaDoorH28
namespace Go.Proofs.YtclmdhceceacoaaDoor
open Go Go.E2 CW CH C44
open Go.ChangeShapes Go.WideShapes Go.ChangeAt Go.RowKit
abbrev rDg:D→Prop:=fun x=>∃ g:Dg,x=eD g
abbrev rN:D→Prop:=fun x=>∃ n:Int,x=eI n
theorem rv57:ReadsV Tryd.prog 57 rDg:=readsV_array (n:=16) (e:=5) (by kernel_rfl) rd57 (by rintro d ⟨g,rfl⟩; exact ⟨_,rfl⟩)
theorem rv3:ReadsV Tryd.prog 3 rN:=readsV_mono (readsV_int (k:=.i64) (by kernel_rfl)) (by
 rintro d ⟨n,_,rfl⟩
 exact ⟨n,rfl⟩)
theorem challenges_lay:LayV Tryd.prog [57,3,3] [rDg,rN,rN]:=⟨rv57,rv3,rv3,trivial⟩
theorem challenges_call:∀ xs,Parts [rDg,rN,rN] xs→CallP Tryd.prog f_zz0 xs (·=.d (.bool true)):=by
 intro xs hp
 obtain ⟨_,_,rfl,⟨g,rfl⟩,hp1⟩:=parts_cons hp
 obtain ⟨_,_,rfl,⟨n,rfl⟩,hp2⟩:=parts_cons hp1
 obtain ⟨_,_,rfl,⟨c,rfl⟩,hp3⟩:=parts_cons hp2
 obtain rfl:=parts_nil hp3
 exact challenges_ok g n c
set_option maxRecDepth 100000 in
theorem challenges_contract (H:Type) (enc:TypeId × Value→H) (W:World) (base:Nat) (args:Array Value) (ds gs:List (DataW H)) (before:List MemPlace)
 (hval:∀ (j:Nat) t v,Tryd.f7.params[j]?=some t→args[j]?=some v→Value.okWide Tryd.prog W .any base t v)
 (hW:DataW.Whole enc Tryd.prog Tryd.f7.params.toList Rows.drawChallengesAsSpecifiedSpec.vars false W args.toList ds gs before) (hL:laidMetH Tryd.prog Rows.drawChallengesAsSpecifiedRow.laid W) :
 Calls Tryd.prog 7 args W fun e W'=>∃ v,e=.returned v∧Rows.drawChallengesAsSpecifiedSpec.post enc Tryd.prog Tryd.f7 false true false false W args v W' :=
 law_contract (Rs:=[rDg,rN,rN]) (tb:=4) ⟨_,_,Tryd.func7,rfl,rfl⟩ rfl challenges_lay (by kernel_rfl) (by kernel_rfl)
  (fun H ds h=>by
    match ds,h with
    | [d1,d2,d3],_=>exact ⟨rfl,rfl,rfl⟩)
  challenges_call hval hW (tabOk_of hL)
abbrev challenges_args:Array Value:=#[.agg (Array.replicate 16 (.int .u8 0)),.int .i64 0,.int .i64 0]
theorem challenges_met (os:Os):laidMet Tryd.prog Rows.drawChallengesAsSpecifiedRow.laid ((laidWorld os).forCall (fun _ _=>0) ⟨#[],challenges_args,[]⟩).memory :=
 laidMet_of_run' 8 (by kernel_rfl) (by kernel_rfl)
theorem challenges_reads (os:Os) {H:Type} (enc:TypeId × Value→H):∃ places,DataW.whole enc Tryd.prog ((laidWorld os).forCall (fun _ _=>0) ⟨#[],challenges_args,[]⟩).memory Tryd.f7.params.toList Rows.drawChallengesAsSpecifiedSpec.vars false challenges_args.toList 8 =
 some ([.agg (List.replicate 16 (.lit (.int .u8 0))),.lit (.int .i64 0),.lit (.int .i64 0)],[],places):=⟨[],by kernel_rfl⟩
set_option maxRecDepth 100000 in
theorem challenges_lifted (os:Os) (started:os.Started) (H:Type) (enc:TypeId × Value→H) (F:Stop.Interp) :
 ReturnsInHanded {} Tryd.checked os 7 .any ((OpenSpec.ofChange Rows.drawChallengesAsSpecifiedSpec).preRow enc Tryd.prog Tryd.f7 Rows.drawChallengesAsSpecifiedRow.domain false Rows.drawChallengesAsSpecifiedRow.laid) (((OpenSpec.ofChange Rows.drawChallengesAsSpecifiedSpec).at F).post enc Tryd.prog Tryd.f7 false true false false):=by
 obtain ⟨places,hx⟩:=challenges_reads os enc
 refine returnsInHanded_of_row (C:=Tryd.checked) (s:=OpenSpec.ofChange Rows.drawChallengesAsSpecifiedSpec) own started (by kernel_rfl) Tryd.func7
  (witness_row_at (enc:=enc) (C:=Tryd.checked) false (laidWorld os) challenges_args rfl (by kernel_rfl) (by kernel_rfl) (by kernel_rfl)
    (OpenSpec.preRow_of_cond 8 hx (by kernel_rfl) (fun k hk=>by cases hk) (by kernel_rfl) (challenges_met os))) ?_
 intro W base args ds gs before hval hW _ _ _ hL _ _
 exact challenges_contract H enc W base args ds gs before hval hW hL
theorem challenges_said0:Rows.DrawChallengesAsSpecifiedSaid :=
 OpenClaim.holds_of_cond 7 Tryd.f7 rfl rfl rfl rfl rfl rfl rfl ⟨rfl,rfl,rfl,rfl,rfl⟩ rfl rfl rfl rfl rfl (by kernel_rfl) Tryd.func7 (by kernel_rfl)
  (of_decide_eq_true (by kernel_rfl)) (by unfold Func.isWrapper; first|(rw [if_pos (by decide +kernel)]; kernel_rfl)|(rw [if_neg (by decide +kernel)]; exact ⟨rfl,rfl⟩))
  (fun os started H enc _ F=>by rw [OpenClaim.pre_eq_preRow]; exact challenges_lifted os started H enc F)
theorem challenges_plain (f : FuncId) (fn : Func) (hf : Tryd.pinned.checked.prog.funcNamed "quietus/quietuslaw44.DrawChallengesAsSpecified" = some f) (hfn : Tryd.pinned.checked.prog.funcs[f]? = some fn) :
 false=Tryd.pinned.checked.prog.looks []∧∀ (j:Nat) t,fn.params[j]?=some t→Tryd.pinned.checked.prog.wantsStandIn t=false:=by
 obtain rfl : f = 7 := Option.some.inj ((show Tryd.prog.funcNamed "quietus/quietuslaw44.DrawChallengesAsSpecified" = some 7 by kernel_rfl).symm.trans hf) |>.symm
 obtain rfl:fn=Tryd.f7:=(Option.some.inj (Tryd.func7.symm.trans hfn)).symm
 refine ⟨by kernel_rfl,fun j t ht=>?_⟩
 rw [Tryd.params7] at ht
 have h1:∀ t ∈ ([57,3,3]:List TypeId),Tryd.prog.wantsStandIn t=false:=by
  intro t ht
  simp only [List.mem_cons,List.not_mem_nil,or_false] at ht
  rcases ht with rfl|rfl|rfl<;>kernel_rfl
 exact h1 t (by have:=Array.mem_of_getElem? ht; simpa using this)
theorem challenges_said:Rows.DrawChallengesAsSpecifiedCardSaid :=
 Claim7.holds_tied_plain_at .later [] _ _ _ _ challenges_said0 (fun _ h=>by cases h) (by kernel_rfl) (fun _ h=>by cases h) drawChallengesAsSpecified_row_tie rfl ⟨rfl,rfl⟩ (by kernel_rfl) rfl challenges_plain (by kernel_rfl)
end Go.Proofs.YtclmdhceceacoaaDoor
