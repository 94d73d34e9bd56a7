/-
 Layer 44: the statement DrawTakesAll.
 Conditions: none; the package-level tables that the statement lists.
-/
import Derived.Test.YtclmdhceceacoaaDoorH29
import Derived.Test.YtclmdhceceacoaaDoorH28
namespace Go.Proofs.YtclmdhceceacoaaDoor
open Go Go.E2 CW CH C44
open Go.ChangeShapes Go.WideShapes Go.ChangeAt Go.RowKit
abbrev rTs:D→Prop:=fun x=>∃ l:List Tk,x=.list (l.map eT)
abbrev rPs:D→Prop:=fun x=>∃ l:List (List Pc),x=.list (l.map eL)
theorem rd26:Reads Tryd.prog 26 false (fun d=>∃ l:List Pc,d=eL l) :=
 reads_mono (reads_slice (e:=39) (sz:=2) (by kernel_rfl) (by kernel_rfl) (by decide) rd39) (by
  rintro d ⟨es,h,_,_,rfl⟩
  obtain ⟨l,rfl⟩:=exists_mapA (f:=eP) (fun d hd=>hd) h
  exact ⟨l,rfl⟩)
theorem rv53:ReadsV Tryd.prog 53 rTs :=
 readsV_mono (readsV_slice (e:=25) (sz:=3) (by kernel_rfl) (by kernel_rfl) (by decide) rd25) (by
  rintro d ⟨es,h,_,_,rfl⟩
  obtain ⟨l,rfl⟩:=exists_mapA (f:=eT) (fun d hd=>hd) h
  exact ⟨l,rfl⟩)
theorem rv54:ReadsV Tryd.prog 54 rPs :=
 readsV_mono (readsV_slice (e:=26) (sz:=1) (by kernel_rfl) (by kernel_rfl) (by decide) rd26) (by
  rintro d ⟨es,h,_,_,rfl⟩
  obtain ⟨l,rfl⟩:=exists_mapA (f:=eL) (fun d hd=>hd) h
  exact ⟨l,rfl⟩)
theorem takes_lay:LayV Tryd.prog [53,54] [rTs,rPs]:=⟨rv53,rv54,trivial⟩
theorem takes_call:∀ xs,Parts [rTs,rPs] xs→CallP Tryd.prog f_zz1 xs (·=.d (.bool true)):=by
 intro xs hp
 obtain ⟨_,_,rfl,⟨ts,rfl⟩,hp1⟩:=parts_cons hp
 obtain ⟨_,_,rfl,⟨ps,rfl⟩,hp2⟩:=parts_cons hp1
 obtain rfl:=parts_nil hp2
 exact takes_ok sanity_ok ts ps
set_option maxRecDepth 100000 in
theorem takes_contract (H:Type) (enc:TypeId × Value→H) (W:World) (base:Nat) (args:Array Value) (ds gs:List (DataW H)) (before:List MemPlace)
 (hval:∀ (j:Nat) t v,Tryd.f6.params[j]?=some t→args[j]?=some v→Value.okWide Tryd.prog W .any base t v)
 (hW:DataW.Whole enc Tryd.prog Tryd.f6.params.toList Rows.drawTakesAllSpec.vars false W args.toList ds gs before) (hL:laidMetH Tryd.prog Rows.drawTakesAllRow.laid W) :
 Calls Tryd.prog 6 args W fun e W'=>∃ v,e=.returned v∧Rows.drawTakesAllSpec.post enc Tryd.prog Tryd.f6 false true false false W args v W' :=
 law_contract (Rs:=[rTs,rPs]) (tb:=4) ⟨_,_,Tryd.func6,rfl,rfl⟩ rfl takes_lay (by kernel_rfl) (by kernel_rfl)
  (fun H ds h=>by
    match ds,h with
    | [d1,d2],_=>exact ⟨rfl,rfl,rfl⟩)
  takes_call hval hW (tabOk_of hL)
abbrev takes_args:Array Value:=#[.slice none 0 0,.slice none 0 0]
theorem takes_met (os:Os):laidMet Tryd.prog Rows.drawTakesAllRow.laid ((laidWorld os).forCall (fun _ _=>0) ⟨#[],takes_args,[]⟩).memory :=
 laidMet_of_run' 8 (by kernel_rfl) (by kernel_rfl)
theorem takes_reads (os:Os) {H:Type} (enc:TypeId × Value→H):∃ places,DataW.whole enc Tryd.prog ((laidWorld os).forCall (fun _ _=>0) ⟨#[],takes_args,[]⟩).memory Tryd.f6.params.toList Rows.drawTakesAllSpec.vars false takes_args.toList 8 =
 some ([.nil,.nil],[],places):=⟨[],by kernel_rfl⟩
set_option maxRecDepth 100000 in
theorem takes_lifted (os:Os) (started:os.Started) (H:Type) (enc:TypeId × Value→H) (F:Stop.Interp) :
 ReturnsInHanded {} Tryd.checked os 6 .any ((OpenSpec.ofChange Rows.drawTakesAllSpec).preRow enc Tryd.prog Tryd.f6 Rows.drawTakesAllRow.domain false Rows.drawTakesAllRow.laid) (((OpenSpec.ofChange Rows.drawTakesAllSpec).at F).post enc Tryd.prog Tryd.f6 false true false false):=by
 obtain ⟨places,hx⟩:=takes_reads os enc
 refine returnsInHanded_of_row (C:=Tryd.checked) (s:=OpenSpec.ofChange Rows.drawTakesAllSpec) own started (by kernel_rfl) Tryd.func6
  (witness_row_at (enc:=enc) (C:=Tryd.checked) false (laidWorld os) takes_args rfl (by kernel_rfl) (by kernel_rfl) (by kernel_rfl)
    (OpenSpec.preRow_of_cond 8 hx (by kernel_rfl) (fun k hk=>by cases hk) (by kernel_rfl) (takes_met os))) ?_
 intro W base args ds gs before hval hW _ _ _ hL _ _
 exact takes_contract H enc W base args ds gs before hval hW hL
theorem takes_said0:Rows.DrawTakesAllSaid :=
 OpenClaim.holds_of_cond 6 Tryd.f6 rfl rfl rfl rfl rfl rfl rfl ⟨rfl,rfl,rfl,rfl,rfl⟩ rfl rfl rfl rfl rfl (by kernel_rfl) Tryd.func6 (by kernel_rfl)
  (of_decide_eq_true (by kernel_rfl)) (by unfold Func.isWrapper; first|(rw [if_pos (by decide +kernel)]; kernel_rfl)|(rw [if_neg (by decide +kernel)]; exact ⟨rfl,rfl⟩))
  (fun os started H enc _ F=>by rw [OpenClaim.pre_eq_preRow]; exact takes_lifted os started H enc F)
theorem takes_plain (f : FuncId) (fn : Func) (hf : Tryd.pinned.checked.prog.funcNamed "quietus/quietuslaw44.DrawTakesAll" = some f) (hfn : Tryd.pinned.checked.prog.funcs[f]? = some fn) :
 false=Tryd.pinned.checked.prog.looks []∧∀ (j:Nat) t,fn.params[j]?=some t→Tryd.pinned.checked.prog.wantsStandIn t=false:=by
 obtain rfl : f = 6 := Option.some.inj ((show Tryd.prog.funcNamed "quietus/quietuslaw44.DrawTakesAll" = some 6 by kernel_rfl).symm.trans hf) |>.symm
 obtain rfl:fn=Tryd.f6:=(Option.some.inj (Tryd.func6.symm.trans hfn)).symm
 refine ⟨by kernel_rfl,fun j t ht=>?_⟩
 rw [Tryd.params6] at ht
 have h1:∀ t ∈ ([53,54]:List TypeId),Tryd.prog.wantsStandIn t=false:=by
  intro t ht
  simp only [List.mem_cons,List.not_mem_nil,or_false] at ht
  rcases ht with rfl|rfl<;>kernel_rfl
 exact h1 t (by have:=Array.mem_of_getElem? ht; simpa using this)
theorem takes_said:Rows.DrawTakesAllCardSaid :=
 Claim7.holds_tied_plain_at .later [] _ _ _ _ takes_said0 (fun _ h=>by cases h) (by kernel_rfl) (fun _ h=>by cases h) drawTakesAll_row_tie rfl ⟨rfl,rfl⟩ (by kernel_rfl) rfl takes_plain (by kernel_rfl)
end Go.Proofs.YtclmdhceceacoaaDoor
