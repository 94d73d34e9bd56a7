/-
 Layer 44: the statement DrawChallengesMore.
 Conditions: none; the package-level tables that the statement lists.
-/
import Derived.Test.YtclmdhceceacoaaDoorH29
import Derived.Test.YtclmdhceceacoaaDoorH28
namespace Go.Proofs.YtclmdhceceacoaaDoor
open Go Go.E2 CW CH C44
open Go.ChangeShapes Go.WideShapes Go.ChangeAt Go.RowKit
theorem wf_u8N {n:Int} (h:(Lit.int .u8 n).wf=true):∃ m:Nat,n=m∧m < 256:=by
 have:=wf_u8 h
 exact ⟨n.toNat,by omega,by omega⟩
abbrev rDg:D→Prop:=fun x=>∃ g:Dg,x=eD g
abbrev rU8:D→Prop:=fun x=>∃ m:Nat,x=.int .u8 m∧m < 256
abbrev rU2:D→Prop:=fun x=>∃ a b:Nat,x=.agg [.int .u8 a,.int .u8 b]∧a < 256∧b < 256
theorem rv57:ReadsV Tryd.prog 57 rDg:=readsV_array (n:=16) (e:=5) (by kernel_rfl) rd57 (by rintro d ⟨g,rfl⟩; exact ⟨_,rfl⟩)
theorem rv5:ReadsV Tryd.prog 5 rU8 :=
 readsV_mono (readsV_int (k:=.u8) (by kernel_rfl)) (by
  rintro d ⟨n,hn,rfl⟩
  obtain ⟨m,rfl,hm'⟩:=wf_u8N hn
  exact ⟨m,rfl,hm'⟩)
set_option maxRecDepth 100000 in
theorem rv77:ReadsV Tryd.prog 77 rU2 :=
 readsV_mono (readsV_array (n:=2) (e:=5) (by kernel_rfl) (reads_array (Rs:=[rI .u8,rI .u8]) (n:=2) (e:=5) (by kernel_rfl) (show LayL Tryd.prog false 0 [(0 * Tryd.prog.cellsOf 5,5),(1 * Tryd.prog.cellsOf 5,5)] [rI .u8,rI .u8] from ⟨by kernel_rfl,rd5,by kernel_rfl,rd5,trivial⟩) (by kernel_rfl)) (by rintro d ⟨parts,_,rfl⟩; exact ⟨_,rfl⟩)) (by
  rintro d ⟨parts,hp,rfl⟩
  obtain ⟨_,_,rfl,⟨a,ha,rfl⟩,hp1⟩:=parts_cons hp
  obtain ⟨_,_,rfl,⟨b,hb,rfl⟩,hp2⟩:=parts_cons hp1
  obtain rfl:=parts_nil hp2
  obtain ⟨a',rfl,ha'⟩:=wf_u8N ha
  obtain ⟨b',rfl,hb'⟩:=wf_u8N hb
  exact ⟨a',b',rfl,ha',hb'⟩)
theorem more_lay:LayV Tryd.prog [57,5,77] [rDg,rU8,rU2]:=⟨rv57,rv5,rv77,trivial⟩
theorem more_call:∀ xs,Parts [rDg,rU8,rU2] xs→CallP Tryd.prog f_zz1 xs (·=.d (.bool true)):=by
 intro xs hp
 obtain ⟨_,_,rfl,⟨g,rfl⟩,hp1⟩:=parts_cons hp
 obtain ⟨_,_,rfl,⟨n,rfl,hn⟩,hp2⟩:=parts_cons hp1
 obtain ⟨_,_,rfl,⟨a,b,rfl,ha,hb⟩,hp3⟩:=parts_cons hp2
 obtain rfl:=parts_nil hp3
 exact more_ok g n a b hn ha hb
set_option maxRecDepth 100000 in
theorem more_contract (H:Type) (enc:TypeId × Value→H) (W:World) (base:Nat) (args:Array Value) (ds gs:List (DataW H)) (before:List MemPlace)
 (hval:∀ (j:Nat) t v,Tryd.f8.params[j]?=some t→args[j]?=some v→Value.okWide Tryd.prog W .any base t v)
 (hW:DataW.Whole enc Tryd.prog Tryd.f8.params.toList Rows.drawChallengesMoreSpec.vars false W args.toList ds gs before) (hL:laidMetH Tryd.prog Rows.drawChallengesMoreRow.laid W) :
 Calls Tryd.prog 8 args W fun e W'=>∃ v,e=.returned v∧Rows.drawChallengesMoreSpec.post enc Tryd.prog Tryd.f8 false true false false W args v W' :=
 law_contract (Rs:=[rDg,rU8,rU2]) (tb:=4) ⟨_,_,Tryd.func8,rfl,rfl⟩ rfl more_lay (by kernel_rfl) (by kernel_rfl)
  (fun H ds h=>by
    match ds,h with
    | [d1,d2,d3],_=>exact ⟨rfl,rfl,rfl⟩)
  more_call hval hW (tabOk_of hL)
abbrev more_args:Array Value:=#[.agg (Array.replicate 16 (.int .u8 0)),.int .u8 0,.agg #[.int .u8 0,.int .u8 0]]
theorem more_met (os:Os):laidMet Tryd.prog Rows.drawChallengesMoreRow.laid ((laidWorld os).forCall (fun _ _=>0) ⟨#[],more_args,[]⟩).memory :=
 laidMet_of_run' 8 (by kernel_rfl) (by kernel_rfl)
theorem more_reads (os:Os) {H:Type} (enc:TypeId × Value→H):∃ places,DataW.whole enc Tryd.prog ((laidWorld os).forCall (fun _ _=>0) ⟨#[],more_args,[]⟩).memory Tryd.f8.params.toList Rows.drawChallengesMoreSpec.vars false more_args.toList 8 =
 some ([.agg (List.replicate 16 (.lit (.int .u8 0))),.lit (.int .u8 0),.agg [.lit (.int .u8 0),.lit (.int .u8 0)]],[],places):=⟨[],by kernel_rfl⟩
set_option maxRecDepth 100000 in
theorem more_lifted (os:Os) (started:os.Started) (H:Type) (enc:TypeId × Value→H) (F:Stop.Interp) :
 ReturnsInHanded {} Tryd.checked os 8 .any ((OpenSpec.ofChange Rows.drawChallengesMoreSpec).preRow enc Tryd.prog Tryd.f8 Rows.drawChallengesMoreRow.domain false Rows.drawChallengesMoreRow.laid) (((OpenSpec.ofChange Rows.drawChallengesMoreSpec).at F).post enc Tryd.prog Tryd.f8 false true false false):=by
 obtain ⟨places,hx⟩:=more_reads os enc
 refine returnsInHanded_of_row (C:=Tryd.checked) (s:=OpenSpec.ofChange Rows.drawChallengesMoreSpec) own started (by kernel_rfl) Tryd.func8
  (witness_row_at (enc:=enc) (C:=Tryd.checked) false (laidWorld os) more_args rfl (by kernel_rfl) (by kernel_rfl) (by kernel_rfl)
    (OpenSpec.preRow_of_cond 8 hx (by kernel_rfl) (fun k hk=>by cases hk) (by kernel_rfl) (more_met os))) ?_
 intro W base args ds gs before hval hW _ _ _ hL _ _
 exact more_contract H enc W base args ds gs before hval hW hL
theorem more_said0:Rows.DrawChallengesMoreSaid :=
 OpenClaim.holds_of_cond 8 Tryd.f8 rfl rfl rfl rfl rfl rfl rfl ⟨rfl,rfl,rfl,rfl,rfl⟩ rfl rfl rfl rfl rfl (by kernel_rfl) Tryd.func8 (by kernel_rfl)
  (of_decide_eq_true (by kernel_rfl)) (by unfold Func.isWrapper; first|(rw [if_pos (by decide +kernel)]; kernel_rfl)|(rw [if_neg (by decide +kernel)]; exact ⟨rfl,rfl⟩))
  (fun os started H enc _ F=>by rw [OpenClaim.pre_eq_preRow]; exact more_lifted os started H enc F)
theorem more_plain (f : FuncId) (fn : Func) (hf : Tryd.pinned.checked.prog.funcNamed "quietus/quietuslaw44.DrawChallengesMore" = some f) (hfn : Tryd.pinned.checked.prog.funcs[f]? = some fn) :
 false=Tryd.pinned.checked.prog.looks []∧∀ (j:Nat) t,fn.params[j]?=some t→Tryd.pinned.checked.prog.wantsStandIn t=false:=by
 obtain rfl : f = 8 := Option.some.inj ((show Tryd.prog.funcNamed "quietus/quietuslaw44.DrawChallengesMore" = some 8 by kernel_rfl).symm.trans hf) |>.symm
 obtain rfl:fn=Tryd.f8:=(Option.some.inj (Tryd.func8.symm.trans hfn)).symm
 refine ⟨by kernel_rfl,fun j t ht=>?_⟩
 rw [Tryd.params8] at ht
 have h1:∀ t ∈ ([57,5,77]:List TypeId),Tryd.prog.wantsStandIn t=false:=by
  intro t ht
  simp only [List.mem_cons,List.not_mem_nil,or_false] at ht
  rcases ht with rfl|rfl|rfl<;>kernel_rfl
 exact h1 t (by have:=Array.mem_of_getElem? ht; simpa using this)
theorem more_said:Rows.DrawChallengesMoreCardSaid :=
 Claim7.holds_tied_plain_at .later [] _ _ _ _ more_said0 (fun _ h=>by cases h) (by kernel_rfl) (fun _ h=>by cases h) drawChallengesMore_row_tie rfl ⟨rfl,rfl⟩ (by kernel_rfl) rfl more_plain (by kernel_rfl)
end Go.Proofs.YtclmdhceceacoaaDoor
