/-
 Layer 44: the statement DrawIsAnswered.
 Conditions: none; the package-level tables that the statement lists.
-/
import Derived.Test.YtclmdhceceacoaaGreatDoorH50
import Derived.Test.YtclmdhceceacoaaGreatDoorH28
namespace Go.Proofs.YtclmdhceceacoaaGreatDoor
open Go Go.E2 CW CH C44
open Go.ChangeShapes Go.WideShapes Go.ChangeAt Go.RowKit
theorem wf_u8N {n:Int} (h:(Lit.int .u8 n).wf=true):∃ m:Nat,n=m∧m < 256:=by
 have:=wf_u8 h
 exact ⟨n.toNat,by omega,by omega⟩
theorem wf_u32N {n:Int} (h:(Lit.int .u32 n).wf=true):∃ m:Nat,n=m∧m < 4294967296:=by
 have:0≤n∧n≤4294967295:=by simpa [Lit.wf,IntKind.min,IntKind.max,IntKind.signed,IntKind.bits] using h
 exact ⟨n.toNat,by omega,by omega⟩
abbrev rDg:D→Prop:=fun x=>∃ g:Dg,x=eD g
abbrev rU8:D→Prop:=fun x=>∃ m:Nat,x=.int .u8 m∧m < 256
abbrev rU32:D→Prop:=fun x=>∃ m:Nat,x=.int .u32 m∧m < 4294967296
theorem rv27:ReadsV Tryz.prog 27 rDg:=readsV_array (n:=16) (e:=5) (by kernel_rfl) rd57 (by rintro d ⟨g,rfl⟩; exact ⟨_,rfl⟩)
theorem rd5':Reads Tryz.prog 5 false rU8:=reads_mono rd5 (by
 rintro d ⟨n,hn,rfl⟩
 obtain ⟨m,rfl,hm'⟩:=wf_u8N hn
 exact ⟨m,rfl,hm'⟩)
theorem rv5:ReadsV Tryz.prog 5 rU8 :=
 readsV_mono (readsV_int (k:=.u8) (by kernel_rfl)) (by
  rintro d ⟨n,hn,rfl⟩
  obtain ⟨m,rfl,hm'⟩:=wf_u8N hn
  exact ⟨m,rfl,hm'⟩)
theorem rdU:Reads Tryz.prog 39 false rU32:=reads_mono (reads_int (k:=.u32) (by kernel_rfl)) (by
 rintro d ⟨n,hn,rfl⟩
 obtain ⟨m,rfl,hm'⟩:=wf_u32N hn
 exact ⟨m,rfl,hm'⟩)
abbrev rStr:D→Prop:=fun x=>∃ s:List UInt8,x=.str s
theorem rd9:Reads Tryz.prog 9 false rStr:=reads_mono (reads_string (by kernel_rfl)) (by rintro d ⟨s,_,rfl⟩; exact ⟨s,rfl⟩)
theorem rd38:Reads Tryz.prog 38 false (fun d=>∃ l:List (List UInt8),d=.list (l.map D.str)) :=
 reads_mono (reads_slice (e:=9) (sz:=1) (by kernel_rfl) (by kernel_rfl) (by decide) rd9) (by
  rintro d ⟨es,h,_,_,rfl⟩
  obtain ⟨l,rfl⟩:=exists_mapA (f:=D.str) (fun d hd=>hd) h
  exact ⟨l,rfl⟩)
theorem exists_mapU {es:List D} (h:∀ d ∈ es,rU32 d):∃ l:List Nat,es=l.map eU∧∀ x ∈ l,x < 4294967296:=by
 induction es with
 | nil=>exact ⟨[],rfl,fun x hx=>by cases hx⟩
 | cons e es ih =>
  obtain ⟨l,hl,hb⟩:=ih fun d hd=>h d (List.mem_cons_of_mem _ hd)
  obtain ⟨a,ha,hlt⟩:=h e List.mem_cons_self
  exact ⟨a::l,by rw [List.map_cons,ha,hl]; rfl,fun x hx=>by rcases List.mem_cons.1 hx with rfl|hx; exact hlt; exact hb x hx⟩
theorem rd41:Reads Tryz.prog 41 false (fun d=>∃ l:List Nat,d=.list (l.map eU)∧∀ x ∈ l,x < 4294967296) :=
 reads_mono (reads_slice (e:=39) (sz:=1) (by kernel_rfl) (by kernel_rfl) (by decide) rdU) (by
  rintro d ⟨es,h,_,_,rfl⟩
  obtain ⟨l,rfl,hb⟩:=exists_mapU h
  exact ⟨l,rfl,hb⟩)
set_option maxRecDepth 100000 in
theorem rd40:Reads Tryz.prog 40 false (fun d=>∃ a b:Nat,d=.agg [.int .u32 a,.int .u32 b]∧a < 4294967296∧b < 4294967296) :=
 reads_mono (reads_array (Rs:=[rU32,rU32]) (n:=2) (e:=39) (by kernel_rfl) (show LayL Tryz.prog false 0 [(0 * Tryz.prog.cellsOf 39,39),(1 * Tryz.prog.cellsOf 39,39)] [rU32,rU32] from ⟨by kernel_rfl,rdU,by kernel_rfl,rdU,trivial⟩) (by kernel_rfl)) (by
  rintro d ⟨parts,hp,rfl⟩
  obtain ⟨_,_,rfl,⟨a,rfl,ha⟩,hp1⟩:=parts_cons hp
  obtain ⟨_,_,rfl,⟨b,rfl,hb⟩,hp2⟩:=parts_cons hp1
  obtain rfl:=parts_nil hp2
  exact ⟨a,b,rfl,ha,hb⟩)
abbrev rSt:D→Prop:=fun x=>∃ (bl:List (List UInt8)) (m0 m1:Nat) (sd:List Nat) (a:Nat) (o:List UInt8),m0 < 4294967296∧m1 < 4294967296∧(∀ x ∈ sd,x < 4294967296)∧a < 256∧x=.agg [.list (bl.map D.str),.int .u32 m0,.int .u32 m1,.list (sd.map eU),.int .u8 a,.str o]
set_option maxRecDepth 100000 in
theorem rd43:Reads Tryz.prog 43 false rSt :=
 reads_mono (reads_struct (Rs:=[fun d=>∃ l:List (List UInt8),d=.list (l.map D.str),fun d=>∃ a b:Nat,d=.agg [.int .u32 a,.int .u32 b]∧a < 4294967296∧b < 4294967296,fun d=>∃ l:List Nat,d=.list (l.map eU)∧∀ x ∈ l,x < 4294967296,rU8,rStr]) (fs:=fieldsOf Tryz.prog 43) (by kernel_rfl) (lay_of (l:=[(0,38),(1,40),(3,41),(4,5),(5,9)]) (by kernel_rfl)
  ⟨rfl,rd38,by kernel_rfl,rd40,by kernel_rfl,rd41,by kernel_rfl,rd5',by kernel_rfl,rd9,trivial⟩) (by kernel_rfl)) (by
  rintro d ⟨parts,hp,rfl⟩
  obtain ⟨_,_,rfl,⟨bl,rfl⟩,hp1⟩:=parts_cons hp
  obtain ⟨_,_,rfl,⟨m0,m1,rfl,h1,h2⟩,hp2⟩:=parts_cons hp1
  obtain ⟨_,_,rfl,⟨sd,rfl,h3⟩,hp3⟩:=parts_cons hp2
  obtain ⟨_,_,rfl,⟨a,rfl,h4⟩,hp4⟩:=parts_cons hp3
  obtain ⟨_,_,rfl,⟨o,rfl⟩,hp5⟩:=parts_cons hp4
  obtain rfl:=parts_nil hp5
  exact ⟨bl,m0,m1,sd,a,o,h1,h2,h3,h4,rfl⟩)
theorem rv43:ReadsV Tryz.prog 43 rSt:=readsV_struct (fs:=fieldsOf Tryz.prog 43) (by kernel_rfl) rd43 (by rintro d ⟨_,_,_,_,_,_,_,_,_,_,rfl⟩; exact ⟨_,rfl⟩)
theorem answered_lay:LayV Tryz.prog [27,43,5] [rDg,rSt,rU8]:=⟨rv27,rv43,rv5,trivial⟩
theorem answered_call:∀ xs,Parts [rDg,rSt,rU8] xs→CallP Tryz.prog f_zz1 xs (·=.d (.bool true)):=by
 intro xs hp
 obtain ⟨_,_,rfl,⟨g,rfl⟩,hp1⟩:=parts_cons hp
 obtain ⟨_,_,rfl,⟨bl,m0,m1,sd,a,o,h1,h2,h3,h4,rfl⟩,hp2⟩:=parts_cons hp1
 obtain ⟨_,_,rfl,⟨c,rfl,hc⟩,hp3⟩:=parts_cons hp2
 obtain rfl:=parts_nil hp3
 exact answered_ok g bl m0 m1 sd a o c h1 h2 h3 h4 hc
set_option maxRecDepth 100000 in
theorem answered_contract (H:Type) (enc:TypeId × Value→H) (W:World) (base:Nat) (args:Array Value) (ds gs:List (DataW H)) (before:List MemPlace)
 (hval:∀ (j:Nat) t v,Tryz.f4.params[j]?=some t→args[j]?=some v→Value.okWide Tryz.prog W .any base t v)
 (hW:DataW.Whole enc Tryz.prog Tryz.f4.params.toList Rows.drawIsAnsweredSpec.vars false W args.toList ds gs before) (hL:laidMetH Tryz.prog Rows.drawIsAnsweredRow.laid W) :
 Calls Tryz.prog 4 args W fun e W'=>∃ v,e=.returned v∧Rows.drawIsAnsweredSpec.post enc Tryz.prog Tryz.f4 false true false false W args v W' :=
 law_contract (Rs:=[rDg,rSt,rU8]) (tb:=4) ⟨_,_,Tryz.func4,rfl,rfl⟩ rfl answered_lay (by kernel_rfl) (by kernel_rfl)
  (fun H ds h=>by
    match ds,h with
    | [d1,d2,d3],_=>exact ⟨rfl,rfl,rfl⟩)
  answered_call hval hW (tabOk_of hL)
abbrev answered_args:Array Value:=#[.agg (Array.replicate 16 (.int .u8 0)),.agg #[.slice none 0 0,.int .u32 0,.int .u32 0,.slice none 0 0,.int .u8 0,.string .empty],.int .u8 0]
theorem answered_met (os:Os):laidMet Tryz.prog Rows.drawIsAnsweredRow.laid ((laidWorld os).forCall (fun _ _=>0) ⟨#[],answered_args,[]⟩).memory :=
 laidMet_of_run' 8 (by kernel_rfl) (by kernel_rfl)
theorem answered_reads (os:Os) {H:Type} (enc:TypeId × Value→H):∃ places,DataW.whole enc Tryz.prog ((laidWorld os).forCall (fun _ _=>0) ⟨#[],answered_args,[]⟩).memory Tryz.f4.params.toList Rows.drawIsAnsweredSpec.vars false answered_args.toList 8 =
 some ([.agg (List.replicate 16 (.lit (.int .u8 0))),.agg [.nil,.agg [.lit (.int .u32 0),.lit (.int .u32 0)],.nil,.lit (.int .u8 0),.lit (.string [])],.lit (.int .u8 0)],[],places):=⟨[],by kernel_rfl⟩
set_option maxRecDepth 100000 in
theorem answered_lifted (os:Os) (started:os.Started) (H:Type) (enc:TypeId × Value→H) (F:Stop.Interp) :
 ReturnsInHanded {} Tryz.checked os 4 .any ((OpenSpec.ofChange Rows.drawIsAnsweredSpec).preRow enc Tryz.prog Tryz.f4 Rows.drawIsAnsweredRow.domain false Rows.drawIsAnsweredRow.laid) (((OpenSpec.ofChange Rows.drawIsAnsweredSpec).at F).post enc Tryz.prog Tryz.f4 false true false false):=by
 obtain ⟨places,hx⟩:=answered_reads os enc
 refine returnsInHanded_of_row (C:=Tryz.checked) (s:=OpenSpec.ofChange Rows.drawIsAnsweredSpec) own started (by kernel_rfl) Tryz.func4
  (witness_row_at (enc:=enc) (C:=Tryz.checked) false (laidWorld os) answered_args rfl (by kernel_rfl) (by kernel_rfl) (by kernel_rfl)
    (OpenSpec.preRow_of_cond 8 hx (by kernel_rfl) (fun k hk=>by cases hk) (by kernel_rfl) (answered_met os))) ?_
 intro W base args ds gs before hval hW _ _ _ hL _ _
 exact answered_contract H enc W base args ds gs before hval hW hL
theorem answered_said0:Rows.DrawIsAnsweredSaid :=
 OpenClaim.holds_of_cond 4 Tryz.f4 rfl rfl rfl rfl rfl rfl rfl ⟨rfl,rfl,rfl,rfl,rfl⟩ rfl rfl rfl rfl rfl (by kernel_rfl) Tryz.func4 (by kernel_rfl)
  (of_decide_eq_true (by kernel_rfl)) (by unfold Func.isWrapper; first|(rw [if_pos (by decide +kernel)]; kernel_rfl)|(rw [if_neg (by decide +kernel)]; exact ⟨rfl,rfl⟩))
  (fun os started H enc _ F=>by rw [OpenClaim.pre_eq_preRow]; exact answered_lifted os started H enc F)
theorem answered_plain (f : FuncId) (fn : Func) (hf : Tryz.pinned.checked.prog.funcNamed "quietus/quietuslaw44.DrawIsAnswered" = some f) (hfn : Tryz.pinned.checked.prog.funcs[f]? = some fn) :
 false=Tryz.pinned.checked.prog.looks []∧∀ (j:Nat) t,fn.params[j]?=some t→Tryz.pinned.checked.prog.wantsStandIn t=false:=by
 obtain rfl : f = 4 := Option.some.inj ((show Tryz.prog.funcNamed "quietus/quietuslaw44.DrawIsAnswered" = some 4 by kernel_rfl).symm.trans hf) |>.symm
 obtain rfl:fn=Tryz.f4:=(Option.some.inj (Tryz.func4.symm.trans hfn)).symm
 refine ⟨by kernel_rfl,fun j t ht=>?_⟩
 rw [Tryz.params4] at ht
 have h1:∀ t ∈ ([27,43,5]:List TypeId),Tryz.prog.wantsStandIn t=false:=by
  intro t ht
  simp only [List.mem_cons,List.not_mem_nil,or_false] at ht
  rcases ht with rfl|rfl|rfl<;>kernel_rfl
 exact h1 t (by have:=Array.mem_of_getElem? ht; simpa using this)
theorem answered_said:Rows.DrawIsAnsweredCardSaid :=
 Claim7.holds_tied_plain_at .later [] _ _ _ _ answered_said0 (fun _ h=>by cases h) (by kernel_rfl) (fun _ h=>by cases h) drawIsAnswered_row_tie rfl ⟨rfl,rfl⟩ (by kernel_rfl) rfl answered_plain (by kernel_rfl)
end Go.Proofs.YtclmdhceceacoaaGreatDoor
