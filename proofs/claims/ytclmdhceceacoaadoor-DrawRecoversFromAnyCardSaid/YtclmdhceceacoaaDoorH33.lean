/-
 Layer 44: the statement DrawRecoversFromAny.
 Conditions: none; the package-level tables that the statement lists.
-/
import Derived.Test.YtclmdhceceacoaaDoorH29
import Derived.Test.YtclmdhceceacoaaDoorH28
namespace Go.Proofs.YtclmdhceceacoaaDoor
open Go Go.E2 CW CH C44
open Go.ChangeShapes Go.WideShapes Go.ChangeAt Go.RowKit
theorem rd47:Reads Tryd.prog 47 false (rI .u32):=reads_int (by kernel_rfl)
theorem wf_u32 {n:Int} (h:(Lit.int .u32 n).wf=true):∃ m:Nat,n=m∧m < 4294967296:=by
 have:0≤n∧n≤4294967295:=by simpa [Lit.wf,IntKind.min,IntKind.max,IntKind.signed,IntKind.bits] using h
 exact ⟨n.toNat,by omega,by omega⟩
theorem wf_u16 {n:Int} (h:(Lit.int .u16 n).wf=true):∃ m:Nat,n=m∧m < 65536:=by
 have:0≤n∧n≤65535:=by simpa [Lit.wf,IntKind.min,IntKind.max,IntKind.signed,IntKind.bits] using h
 exact ⟨n.toNat,by omega,by omega⟩
abbrev rU4:D→Prop:=fun x=>∃ a b c d:Nat,x=.agg [.int .u32 a,.int .u32 b,.int .u32 c,.int .u32 d]∧a < 4294967296∧b < 4294967296∧c < 4294967296∧d < 4294967296
abbrev rU16:D→Prop:=fun x=>∃ m:Nat,x=.int .u16 m∧m < 65536
set_option maxRecDepth 100000 in
theorem rv48:ReadsV Tryd.prog 48 rU4 :=
 readsV_mono (readsV_array (n:=4) (e:=47) (by kernel_rfl) (reads_array (Rs:=[rI .u32,rI .u32,rI .u32,rI .u32]) (n:=4) (e:=47) (by kernel_rfl) (show LayL Tryd.prog false 0 [(0 * Tryd.prog.cellsOf 47,47),(1 * Tryd.prog.cellsOf 47,47),(2 * Tryd.prog.cellsOf 47,47),(3 * Tryd.prog.cellsOf 47,47)] [rI .u32,rI .u32,rI .u32,rI .u32] from ⟨by kernel_rfl,rd47,by kernel_rfl,rd47,by kernel_rfl,rd47,by kernel_rfl,rd47,trivial⟩) (by kernel_rfl)) (by rintro d ⟨parts,_,rfl⟩; exact ⟨_,rfl⟩)) (by
  rintro d ⟨parts,hp,rfl⟩
  obtain ⟨_,_,rfl,⟨a,ha,rfl⟩,hp1⟩:=parts_cons hp
  obtain ⟨_,_,rfl,⟨b,hb,rfl⟩,hp2⟩:=parts_cons hp1
  obtain ⟨_,_,rfl,⟨c,hc,rfl⟩,hp3⟩:=parts_cons hp2
  obtain ⟨_,_,rfl,⟨e,he,rfl⟩,hp4⟩:=parts_cons hp3
  obtain rfl:=parts_nil hp4
  obtain ⟨a',rfl,ha'⟩:=wf_u32 ha
  obtain ⟨b',rfl,hb'⟩:=wf_u32 hb
  obtain ⟨c',rfl,hc'⟩:=wf_u32 hc
  obtain ⟨e',rfl,he'⟩:=wf_u32 he
  exact ⟨a',b',c',e',rfl,ha',hb',hc',he'⟩)
theorem rv49:ReadsV Tryd.prog 49 rU16 :=
 readsV_mono (readsV_int (k:=.u16) (by kernel_rfl)) (by
  rintro d ⟨n,hn,rfl⟩
  obtain ⟨m,rfl,hm'⟩:=wf_u16 hn
  exact ⟨m,rfl,hm'⟩)
theorem layRec:LayV Tryd.prog [48,49,26] [rU4,rU16,rL']:=⟨rv48,rv49,rv26,trivial⟩
theorem callRec:∀ xs,Parts [rU4,rU16,rL'] xs→CallP Tryd.prog f_zz1 xs (·=.d (.bool true)):=by
 intro xs hp
 obtain ⟨_,_,rfl,⟨a,b,c,e,rfl,ha,hb,hc,he⟩,hp1⟩:=parts_cons hp
 obtain ⟨_,_,rfl,⟨m,rfl,hm⟩,hp2⟩:=parts_cons hp1
 obtain ⟨_,_,rfl,⟨l,rfl⟩,hp3⟩:=parts_cons hp2
 obtain rfl:=parts_nil hp3
 exact recovers_ok a b c e m ha hb hc he hm l
set_option maxRecDepth 100000 in
theorem rec_contract (H:Type) (enc:TypeId × Value→H) (W:World) (base:Nat) (args:Array Value) (ds gs:List (DataW H)) (before:List MemPlace)
 (hval:∀ (j:Nat) t v,Tryd.f4.params[j]?=some t→args[j]?=some v→Value.okWide Tryd.prog W .any base t v)
 (hW:DataW.Whole enc Tryd.prog Tryd.f4.params.toList Rows.drawRecoversFromAnySpec.vars false W args.toList ds gs before) (hL:laidMetH Tryd.prog Rows.drawRecoversFromAnyRow.laid W) :
 Calls Tryd.prog 4 args W fun e W'=>∃ v,e=.returned v∧Rows.drawRecoversFromAnySpec.post enc Tryd.prog Tryd.f4 false true false false W args v W' :=
 law_contract (Rs:=[rU4,rU16,rL']) (tb:=4) ⟨_,_,Tryd.func4,rfl,rfl⟩ rfl layRec (by kernel_rfl) (by kernel_rfl)
  (fun H ds h=>by
    match ds,h with
    | [d1,d2,d3],_=>exact ⟨rfl,rfl,rfl⟩)
  callRec hval hW (tabOk_of hL)
abbrev recArgs:Array Value:=#[.agg #[.int .u32 0,.int .u32 0,.int .u32 0,.int .u32 0],.int .u16 0,.slice none 0 0]
theorem rec_met (os:Os):laidMet Tryd.prog Rows.drawRecoversFromAnyRow.laid ((laidWorld os).forCall (fun _ _=>0) ⟨#[],recArgs,[]⟩).memory :=
 laidMet_of_run' 8 (by kernel_rfl) (by kernel_rfl)
theorem rec_reads (os:Os) {H:Type} (enc:TypeId × Value→H):∃ places,DataW.whole enc Tryd.prog ((laidWorld os).forCall (fun _ _=>0) ⟨#[],recArgs,[]⟩).memory Tryd.f4.params.toList Rows.drawRecoversFromAnySpec.vars false recArgs.toList 8 =
 some ([.agg [.lit (.int .u32 0),.lit (.int .u32 0),.lit (.int .u32 0),.lit (.int .u32 0)],.lit (.int .u16 0),.nil],[],places):=⟨[],by kernel_rfl⟩
set_option maxRecDepth 100000 in
theorem rec_lifted (os:Os) (started:os.Started) (H:Type) (enc:TypeId × Value→H) (F:Stop.Interp) :
 ReturnsInHanded {} Tryd.checked os 4 .any ((OpenSpec.ofChange Rows.drawRecoversFromAnySpec).preRow enc Tryd.prog Tryd.f4 Rows.drawRecoversFromAnyRow.domain false Rows.drawRecoversFromAnyRow.laid) (((OpenSpec.ofChange Rows.drawRecoversFromAnySpec).at F).post enc Tryd.prog Tryd.f4 false true false false):=by
 obtain ⟨places,hx⟩:=rec_reads os enc
 refine returnsInHanded_of_row (C:=Tryd.checked) (s:=OpenSpec.ofChange Rows.drawRecoversFromAnySpec) own started (by kernel_rfl) Tryd.func4
  (witness_row_at (enc:=enc) (C:=Tryd.checked) false (laidWorld os) recArgs rfl (by kernel_rfl) (by kernel_rfl) (by kernel_rfl)
    (OpenSpec.preRow_of_cond 8 hx (by kernel_rfl) (fun k hk=>by cases hk) (by kernel_rfl) (rec_met os))) ?_
 intro W base args ds gs before hval hW _ _ _ hL _ _
 exact rec_contract H enc W base args ds gs before hval hW hL
theorem rec_said0:Rows.DrawRecoversFromAnySaid :=
 OpenClaim.holds_of_cond 4 Tryd.f4 rfl rfl rfl rfl rfl rfl rfl ⟨rfl,rfl,rfl,rfl,rfl⟩ rfl rfl rfl rfl rfl (by kernel_rfl) Tryd.func4 (by kernel_rfl)
  (of_decide_eq_true (by kernel_rfl)) (by unfold Func.isWrapper; first|(rw [if_pos (by decide +kernel)]; kernel_rfl)|(rw [if_neg (by decide +kernel)]; exact ⟨rfl,rfl⟩))
  (fun os started H enc _ F=>by rw [OpenClaim.pre_eq_preRow]; exact rec_lifted os started H enc F)
theorem rec_plain (f : FuncId) (fn : Func) (hf : Tryd.pinned.checked.prog.funcNamed "quietus/quietuslaw44.DrawRecoversFromAny" = some f) (hfn : Tryd.pinned.checked.prog.funcs[f]? = some fn) :
 false=Tryd.pinned.checked.prog.looks []∧∀ (j:Nat) t,fn.params[j]?=some t→Tryd.pinned.checked.prog.wantsStandIn t=false:=by
 obtain rfl : f = 4 := Option.some.inj ((show Tryd.prog.funcNamed "quietus/quietuslaw44.DrawRecoversFromAny" = some 4 by kernel_rfl).symm.trans hf) |>.symm
 obtain rfl:fn=Tryd.f4:=(Option.some.inj (Tryd.func4.symm.trans hfn)).symm
 refine ⟨by kernel_rfl,fun j t ht=>?_⟩
 rw [Tryd.params4] at ht
 have h1:∀ t ∈ ([48,49,26]:List TypeId),Tryd.prog.wantsStandIn t=false:=by
  intro t ht
  simp only [List.mem_cons,List.not_mem_nil,or_false] at ht
  rcases ht with rfl|rfl|rfl<;>kernel_rfl
 exact h1 t (by have:=Array.mem_of_getElem? ht; simpa using this)
theorem recovers_said:Rows.DrawRecoversFromAnyCardSaid :=
 Claim7.holds_tied_plain_at .later [] _ _ _ _ rec_said0 (fun _ h=>by cases h) (by kernel_rfl) (fun _ h=>by cases h) drawRecoversFromAny_row_tie rfl ⟨rfl,rfl⟩ (by kernel_rfl) rfl rec_plain (by kernel_rfl)
end Go.Proofs.YtclmdhceceacoaaDoor
