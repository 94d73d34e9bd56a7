/-
 Layer 44: the statement DrawDrawsAsSpecified.
 Conditions: none; the package-level tables that the statement lists.
-/
import Derived.Test.YtclmdhceceacoaaGreatDoorH50
import Derived.Test.YtclmdhceceacoaaGreatDoorH28
namespace Go.Proofs.YtclmdhceceacoaaGreatDoor
open Go Go.E2 CW CH C44
open Go.ChangeShapes Go.WideShapes Go.ChangeAt Go.RowKit
abbrev rTs:D→Prop:=fun x=>∃ l:List Tk,x=.list (l.map eT)
abbrev rPs:D→Prop:=fun x=>∃ l:List (List Pc),x=.list (l.map eL)
theorem rd26:Reads Tryz.prog 63 false (fun d=>∃ l:List Pc,d=eL l) :=
 reads_mono (reads_slice (e:=68) (sz:=2) (by kernel_rfl) (by kernel_rfl) (by decide) rd39) (by
  rintro d ⟨es,h,_,_,rfl⟩
  obtain ⟨l,rfl⟩:=exists_mapA (f:=eP) (fun d hd=>hd) h
  exact ⟨l,rfl⟩)
theorem rv53:ReadsV Tryz.prog 22 rTs :=
 readsV_mono (readsV_slice (e:=62) (sz:=3) (by kernel_rfl) (by kernel_rfl) (by decide) rd25) (by
  rintro d ⟨es,h,_,_,rfl⟩
  obtain ⟨l,rfl⟩:=exists_mapA (f:=eT) (fun d hd=>hd) h
  exact ⟨l,rfl⟩)
theorem rv54:ReadsV Tryz.prog 23 rPs :=
 readsV_mono (readsV_slice (e:=63) (sz:=1) (by kernel_rfl) (by kernel_rfl) (by decide) rd26) (by
  rintro d ⟨es,h,_,_,rfl⟩
  obtain ⟨l,rfl⟩:=exists_mapA (f:=eL) (fun d hd=>hd) h
  exact ⟨l,rfl⟩)
theorem draws_lay:LayV Tryz.prog [22,23] [rTs,rPs]:=⟨rv53,rv54,trivial⟩
theorem draws_call:∀ xs,Parts [rTs,rPs] xs→CallP Tryz.prog f_zz1 xs (·=.d (.bool true)):=by
 intro xs hp
 obtain ⟨_,_,rfl,⟨ts,rfl⟩,hp1⟩:=parts_cons hp
 obtain ⟨_,_,rfl,⟨ps,rfl⟩,hp2⟩:=parts_cons hp1
 obtain rfl:=parts_nil hp2
 exact draws_ok ts ps
set_option maxRecDepth 100000 in
theorem draws_contract (H:Type) (enc:TypeId × Value→H) (W:World) (base:Nat) (args:Array Value) (ds gs:List (DataW H)) (before:List MemPlace)
 (hval:∀ (j:Nat) t v,Tryz.f3.params[j]?=some t→args[j]?=some v→Value.okWide Tryz.prog W .any base t v)
 (hW:DataW.Whole enc Tryz.prog Tryz.f3.params.toList Rows.drawDrawsAsSpecifiedSpec.vars false W args.toList ds gs before) (hL:laidMetH Tryz.prog Rows.drawDrawsAsSpecifiedRow.laid W) :
 Calls Tryz.prog 3 args W fun e W'=>∃ v,e=.returned v∧Rows.drawDrawsAsSpecifiedSpec.post enc Tryz.prog Tryz.f3 false true false false W args v W' :=
 law_contract (Rs:=[rTs,rPs]) (tb:=4) ⟨_,_,Tryz.func3,rfl,rfl⟩ rfl draws_lay (by kernel_rfl) (by kernel_rfl)
  (fun H ds h=>by
    match ds,h with
    | [d1,d2],_=>exact ⟨rfl,rfl,rfl⟩)
  draws_call hval hW (tabOk_of hL)
abbrev draws_args:Array Value:=#[.slice none 0 0,.slice none 0 0]
theorem draws_met (os:Os):laidMet Tryz.prog Rows.drawDrawsAsSpecifiedRow.laid ((laidWorld os).forCall (fun _ _=>0) ⟨#[],draws_args,[]⟩).memory :=
 laidMet_of_run' 8 (by kernel_rfl) (by kernel_rfl)
theorem draws_reads (os:Os) {H:Type} (enc:TypeId × Value→H):∃ places,DataW.whole enc Tryz.prog ((laidWorld os).forCall (fun _ _=>0) ⟨#[],draws_args,[]⟩).memory Tryz.f3.params.toList Rows.drawDrawsAsSpecifiedSpec.vars false draws_args.toList 8 =
 some ([.nil,.nil],[],places):=⟨[],by kernel_rfl⟩
set_option maxRecDepth 100000 in
theorem draws_lifted (os:Os) (started:os.Started) (H:Type) (enc:TypeId × Value→H) (F:Stop.Interp) :
 ReturnsInHanded {} Tryz.checked os 3 .any ((OpenSpec.ofChange Rows.drawDrawsAsSpecifiedSpec).preRow enc Tryz.prog Tryz.f3 Rows.drawDrawsAsSpecifiedRow.domain false Rows.drawDrawsAsSpecifiedRow.laid) (((OpenSpec.ofChange Rows.drawDrawsAsSpecifiedSpec).at F).post enc Tryz.prog Tryz.f3 false true false false):=by
 obtain ⟨places,hx⟩:=draws_reads os enc
 refine returnsInHanded_of_row (C:=Tryz.checked) (s:=OpenSpec.ofChange Rows.drawDrawsAsSpecifiedSpec) own started (by kernel_rfl) Tryz.func3
  (witness_row_at (enc:=enc) (C:=Tryz.checked) false (laidWorld os) draws_args rfl (by kernel_rfl) (by kernel_rfl) (by kernel_rfl)
    (OpenSpec.preRow_of_cond 8 hx (by kernel_rfl) (fun k hk=>by cases hk) (by kernel_rfl) (draws_met os))) ?_
 intro W base args ds gs before hval hW _ _ _ hL _ _
 exact draws_contract H enc W base args ds gs before hval hW hL
theorem draws_said0:Rows.DrawDrawsAsSpecifiedSaid :=
 OpenClaim.holds_of_cond 3 Tryz.f3 rfl rfl rfl rfl rfl rfl rfl ⟨rfl,rfl,rfl,rfl,rfl⟩ rfl rfl rfl rfl rfl (by kernel_rfl) Tryz.func3 (by kernel_rfl)
  (of_decide_eq_true (by kernel_rfl)) (by unfold Func.isWrapper; first|(rw [if_pos (by decide +kernel)]; kernel_rfl)|(rw [if_neg (by decide +kernel)]; exact ⟨rfl,rfl⟩))
  (fun os started H enc _ F=>by rw [OpenClaim.pre_eq_preRow]; exact draws_lifted os started H enc F)
theorem draws_plain (f : FuncId) (fn : Func) (hf : Tryz.pinned.checked.prog.funcNamed "quietus/quietuslaw44.DrawDrawsAsSpecified" = some f) (hfn : Tryz.pinned.checked.prog.funcs[f]? = some fn) :
 false=Tryz.pinned.checked.prog.looks []∧∀ (j:Nat) t,fn.params[j]?=some t→Tryz.pinned.checked.prog.wantsStandIn t=false:=by
 obtain rfl : f = 3 := Option.some.inj ((show Tryz.prog.funcNamed "quietus/quietuslaw44.DrawDrawsAsSpecified" = some 3 by kernel_rfl).symm.trans hf) |>.symm
 obtain rfl:fn=Tryz.f3:=(Option.some.inj (Tryz.func3.symm.trans hfn)).symm
 refine ⟨by kernel_rfl,fun j t ht=>?_⟩
 rw [Tryz.params3] at ht
 have h1:∀ t ∈ ([22,23]:List TypeId),Tryz.prog.wantsStandIn t=false:=by
  intro t ht
  simp only [List.mem_cons,List.not_mem_nil,or_false] at ht
  rcases ht with rfl|rfl<;>kernel_rfl
 exact h1 t (by have:=Array.mem_of_getElem? ht; simpa using this)
theorem draws_said:Rows.DrawDrawsAsSpecifiedCardSaid :=
 Claim7.holds_tied_plain_at .later [] _ _ _ _ draws_said0 (fun _ h=>by cases h) (by kernel_rfl) (fun _ h=>by cases h) drawDrawsAsSpecified_row_tie rfl ⟨rfl,rfl⟩ (by kernel_rfl) rfl draws_plain (by kernel_rfl)
end Go.Proofs.YtclmdhceceacoaaGreatDoor
