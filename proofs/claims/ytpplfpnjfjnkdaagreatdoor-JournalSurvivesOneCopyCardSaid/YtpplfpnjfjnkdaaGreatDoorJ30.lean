/-
 Layer 23: the statement JournalSurvivesOneCopy.
 Conditions: none;the package-level tables that the statement lists.
-/
import Derived.Test.YtpplfpnjfjnkdaaGreatDoorJ25
namespace Go.Proofs.YtpplfpnjfjnkdaaGreatDoor
open Go Go.E2 CW CH
open Go.ChangeShapes Go.WideShapes Go.ChangeAt Go.RowKit
abbrev rU8:D→Prop:=fun x=>∃ c:UInt8,x=eB c
theorem rv5:zf5 Tryz.prog 5 rU8 :=
 zgd (zs4 (k:=.u8) (by kernel_rfl)) (by
  rintro d ⟨n,hn,rfl⟩
  have:=wf_u8 hn
  exact ⟨UInt8.ofNat n.toNat,by
   show D.int .u8 n=.int .u8 ((UInt8.ofNat n.toNat).toNat:Int)
   rw [UInt8.toNat_ofNat',Nat.mod_eq_of_lt (by omega)]
   congr 1
   omega⟩)
abbrev rStr:D→Prop:=fun x=>∃ s:List UInt8,x=.str s
theorem rd9:zgc Tryz.prog 9 false rStr:=zht (znp (by kernel_rfl)) (by rintro d ⟨s,_,rfl⟩;exact ⟨s,rfl⟩)
abbrev rSl:D→Prop:=fun d=>∃ l:List (List UInt8),l.length≤9223372036854775807∧d=.list (l.map D.str)
theorem rd32:zgc Tryz.prog 32 false rSl :=
 zht (zjm (e:=9) (sz:=1) (by kernel_rfl) (by kernel_rfl) (by decide) rd9) (by
  rintro d ⟨es,h,hl,_,rfl⟩
  obtain ⟨l,rfl⟩:=zq7 (f:=D.str) (fun d hd=>hd) h
  rw [List.length_map] at hl
  exact ⟨l,hl,rfl⟩)
abbrev rLs:D→Prop:=fun x=>∃ l0 l1:List (List UInt8),l0.length≤9223372036854775807∧l1.length≤9223372036854775807∧x=.agg [.list (l0.map D.str),.list (l1.map D.str)]
set_option maxRecDepth 100000 in
theorem rv42:zf5 Tryz.prog 42 rLs :=
 zgd (znt (n:=2) (e:=32) (by kernel_rfl) (zpy (Rs:=[rSl,rSl]) (n:=2) (e:=32) (by kernel_rfl) (show z9r Tryz.prog false 0 [(0 * Tryz.prog.cellsOf 32,32),(1 * Tryz.prog.cellsOf 32,32)] [rSl,rSl] from ⟨by kernel_rfl,rd32,by kernel_rfl,rd32,trivial⟩) (by kernel_rfl)) (by rintro d ⟨parts,_,rfl⟩;exact ⟨_,rfl⟩)) (by
  rintro d ⟨parts,hp,rfl⟩
  obtain ⟨_,_,rfl,⟨a,ha,rfl⟩,hp1⟩:=zd9 hp
  obtain ⟨_,_,rfl,⟨b,hb,rfl⟩,hp2⟩:=zd9 hp1
  obtain rfl:=zns hp2
  exact ⟨a,b,ha,hb,rfl⟩)
theorem z36 {n:Int} (h:(Lit.int .u16 n).wf=true):∃ m:Nat,n=m∧m<65536:=by
 have:0≤n∧n≤65535:=by simpa [Lit.wf,IntKind.min,IntKind.max,IntKind.signed,IntKind.bits] using h
 exact ⟨n.toNat,by omega,by omega⟩
abbrev rU16:D→Prop:=fun x=>∃ m:Nat,x=eU m∧m<65536
theorem rd52:zgc Tryz.prog 52 false rU16:=zht (zno (k:=.u16) (by kernel_rfl)) (by
 rintro d ⟨n,hn,rfl⟩
 obtain ⟨m,rfl,hm'⟩:=z36 hn
 exact ⟨m,rfl,hm'⟩)
theorem zq8 {es:List D} (h:∀ d∈es,rU16 d):∃ l:List Nat,es=l.map eU∧∀ x∈l,x<65536:=by
 induction es with
 | nil=>exact ⟨[],rfl,fun x hx=>by cases hx⟩
 | cons e es ih =>
  obtain ⟨l,hl,hb⟩:=ih fun d hd=>h d (List.mem_cons_of_mem _ hd)
  obtain ⟨a,ha,hlt⟩:=h e List.mem_cons_self
  exact ⟨a::l,by rw [List.map_cons,ha,hl],fun x hx=>by rcases List.mem_cons.1 hx with rfl|hx;exact hlt;exact hb x hx⟩
abbrev rHm:D→Prop:=fun x=>∃ l:List Nat,(∀ h∈l,h<65536)∧x=.list (l.map eU)
theorem rv43:zf5 Tryz.prog 43 rHm :=
 zgd (znr (e:=52) (sz:=1) (by kernel_rfl) (by kernel_rfl) (by decide) rd52) (by
  rintro d ⟨es,h,_,_,rfl⟩
  obtain ⟨l,rfl,hb⟩:=zq8 h
  exact ⟨l,hb,rfl⟩)
theorem zo9:z9s Tryz.prog [5,42,43] [rU8,rLs,rHm]:=⟨rv5,rv42,rv43,trivial⟩
theorem zmy:∀ xs,zku [rU8,rLs,rHm] xs→zn Tryz.prog f_zz0 xs (·=.d (.bool true)):=by
 intro xs hp
 obtain ⟨_,_,rfl,⟨c,rfl⟩,hp1⟩:=zd9 hp
 obtain ⟨_,_,rfl,⟨l0,l1,h0,h1,rfl⟩,hp2⟩:=zd9 hp1
 obtain ⟨_,_,rfl,⟨hm,hh,rfl⟩,hp3⟩:=zd9 hp2
 obtain rfl:=zns hp3
 exact zq6 c l0 l1 hm h0 h1 hh
set_option maxRecDepth 100000 in
theorem zic (H:Type) (enc:TypeId×Value→H) (W:World) (base:Nat) (args:Array Value) (ds gs:List (DataW H)) (before:List MemPlace)
 (hval:∀ (j:Nat) t v,Tryz.f4.params[j]?=some t→args[j]?=some v→Value.okWide Tryz.prog W .any base t v)
 (hW:DataW.Whole enc Tryz.prog Tryz.f4.params.toList Rows.journalSurvivesOneCopySpec.vars false W args.toList ds gs before) (hL:laidMetH Tryz.prog Rows.journalSurvivesOneCopyRow.laid W) :
 Calls Tryz.prog 4 args W fun e W'=>∃ v,e=.returned v∧Rows.journalSurvivesOneCopySpec.post enc Tryz.prog Tryz.f4 false true false false W args v W' :=
 znw (Rs:=[rU8,rLs,rHm]) (tb:=4) ⟨_,_,Tryz.func4,rfl,rfl⟩ rfl zo9 (by kernel_rfl) (by kernel_rfl)
  (fun H ds h=>by
    match ds,h with
    | [d1,d2,d3],_=>exact ⟨rfl,rfl,rfl⟩)
  zmy hval hW (zzx hL)
abbrev zdd:Array Value:=#[.int .u8 0,.agg #[.slice none 0 0,.slice none 0 0],.slice none 0 0]
theorem zpa (os:Os):laidMet Tryz.prog Rows.journalSurvivesOneCopyRow.laid ((laidWorld os).forCall (fun _ _=>0) ⟨#[],zdd,[]⟩).memory :=
 laidMet_of_run' 8 (by kernel_rfl) (by kernel_rfl)
theorem zk1 (os:Os) {H:Type} (enc:TypeId×Value→H):∃ places,DataW.whole enc Tryz.prog ((laidWorld os).forCall (fun _ _=>0) ⟨#[],zdd,[]⟩).memory Tryz.f4.params.toList Rows.journalSurvivesOneCopySpec.vars false zdd.toList 8 =
 some ([.lit (.int .u8 0),.agg [.nil,.nil],.nil],[],places):=⟨[],by kernel_rfl⟩
set_option maxRecDepth 100000 in
theorem zkg (os:Os) (started:os.Started) (H:Type) (enc:TypeId×Value→H) (F:Stop.Interp) :
 ReturnsInHanded {} Tryz.checked os 4 .any ((OpenSpec.ofChange Rows.journalSurvivesOneCopySpec).preRow enc Tryz.prog Tryz.f4 Rows.journalSurvivesOneCopyRow.domain false Rows.journalSurvivesOneCopyRow.laid) (((OpenSpec.ofChange Rows.journalSurvivesOneCopySpec).at F).post enc Tryz.prog Tryz.f4 false true false false):=by
 obtain ⟨places,hx⟩:=zk1 os enc
 refine returnsInHanded_of_row (C:=Tryz.checked) (s:=OpenSpec.ofChange Rows.journalSurvivesOneCopySpec) own started (by kernel_rfl) Tryz.func4
  (witness_row_at (enc:=enc) (C:=Tryz.checked) false (laidWorld os) zdd rfl (by kernel_rfl) (by kernel_rfl) (by kernel_rfl)
    (OpenSpec.preRow_of_cond 8 hx (by kernel_rfl) (fun k hk=>by cases hk) (by kernel_rfl) (zpa os))) ?_
 intro W base args ds gs before hval hW _ _ _ hL _ _
 exact zic H enc W base args ds gs before hval hW hL
theorem zk2:Rows.JournalSurvivesOneCopySaid :=
 OpenClaim.holds_of_cond 4 Tryz.f4 rfl rfl rfl rfl rfl rfl rfl ⟨rfl,rfl,rfl,rfl,rfl⟩ rfl rfl rfl rfl rfl (by kernel_rfl) Tryz.func4 (by kernel_rfl)
  (of_decide_eq_true (by kernel_rfl)) (by unfold Func.isWrapper;first|(rw [if_pos (by decide +kernel)];kernel_rfl)|(rw [if_neg (by decide +kernel)];exact ⟨rfl,rfl⟩))
  (fun os started H enc _ F=>by rw [OpenClaim.pre_eq_preRow];exact zkg os started H enc F)
theorem zk3 (f : FuncId) (fn : Func) (hf : Tryz.pinned.checked.prog.funcNamed "quietus/quietuslaw23.JournalSurvivesOneCopy" = some f) (hfn : Tryz.pinned.checked.prog.funcs[f]? = some fn) :
 false=Tryz.pinned.checked.prog.looks []∧∀ (j:Nat) t,fn.params[j]?=some t→Tryz.pinned.checked.prog.wantsStandIn t=false:=by
 obtain rfl : f = 4 := Option.some.inj ((show Tryz.prog.funcNamed "quietus/quietuslaw23.JournalSurvivesOneCopy" = some 4 by kernel_rfl).symm.trans hf) |>.symm
 obtain rfl:fn=Tryz.f4:=(Option.some.inj (Tryz.func4.symm.trans hfn)).symm
 refine ⟨by kernel_rfl,fun j t ht=>?_⟩
 rw [Tryz.params4] at ht
 have h1:∀ t∈([5,42,43]:List TypeId),Tryz.prog.wantsStandIn t=false:=by
  intro t ht
  simp only [List.mem_cons,List.not_mem_nil,or_false] at ht
  rcases ht with rfl|rfl|rfl<;>kernel_rfl
 exact h1 t (by have:=Array.mem_of_getElem? ht;simpa using this)
theorem survives_said:Rows.JournalSurvivesOneCopyCardSaid :=
 Claim7.holds_tied_plain_at .later [] _ _ _ _ zk2 (fun _ h=>by cases h) (by kernel_rfl) (fun _ h=>by cases h) journalSurvivesOneCopy_row_tie rfl ⟨rfl,rfl⟩ (by kernel_rfl) rfl zk3 (by kernel_rfl)
end Go.Proofs.YtpplfpnjfjnkdaaGreatDoor
