/-
 A range over a function: the statement,and a round of it.
 Conditions: none; laws.
-/
import Derived.Test.YtioojmlhmhgeeaaEM8
import Derived.RangeFuncLeaves
import Derived.RangeFuncRecord
namespace Go.E2
section
variable {P:Program} {S:Stb} {ms:List (Nat→Nat)} {ow:Nat→Option Nat} {base:Nat} {O:Nat→Prop} {ρ:Env} {L:Hp} {σ:List Hp} {G:Gh} {a:Act} {w:World}
theorem Evo.put {S:Stb} {l:Nat} (hO:l < base→O l) (obj:Obj) (hl:l < w.heap.size):Evo base O S w S (w.putObj l obj) :=
 ⟨by simp,fun b hb hn=>by rw [putObj_at hl,if_neg]; rintro rfl; exact hn (hO hb),fun _ _=>rfl,Sub.refl S,rfl,rfl,rfl⟩
theorem Rel.dropM (h:Rel S ms ow base O ρ L σ G a w) {l:Nat} {x:Obj} (hl:w.heap[l]?=some x) (hx:isM x=true) (obj:Obj):Rel S ms ow base O ρ L σ (G.setM l none) a (w.putObj l obj):=by
 have hlt:=(Array.getElem?_eq_some_iff.1 hl).1
 refine h.worldM rfl (fun b o hb=>?_) (by simp) (fun b o hb ho=>?_) (fun b o hb hlb=>?_)
 · simp only [Gh.setM_m,upd] at hb
   split at hb
   · cases hb
   · rename_i e; rw [putObj_at hlt,if_neg e]; exact h.h.x b o hb
 · rw [putObj_at hlt,if_neg]
   · exact hb
   · rintro rfl; rw [hl] at hb; cases hb; rw [hx] at ho; cases ho
 · simp only [Gh.setM_m,upd] at hb
   split at hb
   · cases hb
   · exact h.mold hb hlb
theorem enter_ok {rd:Option Nat} (h:Rel S ms ow base O ρ L σ G a w) (hrd:RdOk rd base O w) {gs:List Nat} {nt:Nat} {defs:List Oper} {ps:Array Tmp} {ca cb:Code} {c1 c2:ACode} (h1:cCode P gs nt defs ca=some c1) (h2:cCode P gs nt defs cb=some c2)
 (hps:∀ t ∈ ps.toList,t < nt) (hn:nt≤a.tmps.size) (fn:FuncId):∃ l mark w1,(Instr.enterLoop fn a.tmps ps ca cb rd).run P w=.ok (l,mark) w1∧G.m l=none ∧
   Rel S ms ow base O ρ L σ (G.setM l (some (.loop P ρ ps.toList c1 c2))) { a with defers:=mark ++ a.defers } w1∧Evo base O S w S w1∧base≤l:=by
 have rec_ok:∀ df:Nat,MOk S (some (Obj.loop { state:=.ready,pending:=none,fn,tmps:=a.tmps,params:=ps,assign:=ca,body:=cb,defers:=df })) (.loop P ρ ps.toList c1 c2):=fun df =>
  ⟨_,rfl,rfl,rfl,rfl,⟨gs,nt,defs,h1,h2,hn,hps⟩,fun i x hx=>(h.tmp i).data hx⟩
 cases rd with
 | none =>
  have hrel1:Rel S ms ow base O ρ L σ G a (w.alloc (.deferred (some []))):=h.worldM rfl (h.h.x.keep (Sub.refl S) rfl fun r o hr _=>(heap_push_old (Array.getElem?_eq_some_iff.1 hr).1).trans hr) (by rw [size_push]; omega)
   (fun b o hb _=>(heap_push_old (Array.getElem?_eq_some_iff.1 hb).1).trans hb) (fun b o hb hlb=>h.mold hb hlb)
  obtain ⟨k1,k2⟩:=hrel1.newM (rec_ok w.heap.size)
  refine ⟨(w.alloc (.deferred (some []))).heap.size,[{ target:=.collected w.heap.size,args:=#[] }],_,?_,hrel1.m_none,?_,(Evo.alloc h.bas _).trans k2,hrel1.bas⟩
  · simp [Instr.enterLoop,Result.andThen]
  · refine { k1 with dfs:=?_ }
    have hd:=k1.dfs
    refine ⟨?_,fun d hm=>?_⟩
    · simp only [List.singleton_append,List.map_cons,List.nodup_cons]
      refine ⟨fun hm=>?_,hd.1⟩
      obtain ⟨d,hd1,hd2⟩:=List.mem_map.1 hm
      obtain ⟨r,hr1,hr2,hr3⟩:=h.dfs.2 d hd1
      rw [hr1] at hd2
      simp only at hd2
      have:=(Array.getElem?_eq_some_iff.1 hr3).1
      omega
    · rcases List.mem_cons.1 hm with rfl|hm
      · refine ⟨w.heap.size,rfl,h.bas,?_⟩
        rw [heap_push_old (by rw [size_push]; omega),heap_push_new]
      · exact hd.2 d hm
 | some l0 =>
  obtain ⟨_,_,r0,hr0⟩:=hrd l0 rfl
  obtain ⟨k1,k2⟩:=h.newM (rec_ok r0.defers)
  refine ⟨w.heap.size,[],_,?_,h.m_none,k1,k2,h.bas⟩
  simp [Instr.enterLoop,Instr.getLoop,run_getObj_loop hr0,Result.andThen]
theorem target_ok {x:AV} {v:Value} (hv:VR S (L::σ) ms x v) {g:FuncId} {caps:List AV} (ht:target x=some (g,caps)) :
 ∃ cv:Array Value,v=.func (.func g) #[] cv∧cv.size=caps.length∧∀ (j:Nat) (x:AV),caps[j]?=some x→VR S (L::σ) ms x (cv.getD j undef):=by
 unfold target at ht
 split at ht
 · cases ht
   exact ⟨#[],VRD.fn_inv hv,rfl,fun j x hx=>by simp at hx⟩
 · rename_i g' ds
   cases ht
   obtain ⟨cv,h1,h2,_⟩:=VRD.clo_inv hv
   refine ⟨cv,h1,by have:=h2.1; simpa using this,fun j x hx=>?_⟩
   rw [List.getElem?_map] at hx
   cases hq:ds[j]? with
   | none=>rw [hq] at hx; cases hx
   | some y =>
    rw [hq] at hx
    cases hx
    obtain ⟨v,hv,hr⟩:=h2.get hq
    have hv':cv[j]?=some v:=by simpa using hv
    have:cv.getD j undef=v:=by simp [Array.getD_eq_getD_getElem?,hv']
    rw [this]; exact hr
 · rename_i g' cs
   cases ht
   obtain ⟨cv,h1,h2,h3⟩:=hv
   refine ⟨cv,h1,by simpa using h2,fun j x hx=>?_⟩
   rw [List.getElem?_map] at hx
   cases hq:cs[j]? with
   | none=>simp [hq] at hx
   | some q =>
    simp [hq] at hx
    subst hx
    have hlt:j < cv.size:=by rw [h2]; exact (List.getElem?_eq_some_iff.1 hq).1
    exact h3 j q (cv.getD j undef) hq (by simp [hlt])
 · cases ht
theorem SW.rangeF {κ:AExit→St→Prop} {st:St} {f:AO} {ps:List Nat} {c1 c2:ACode} {g:FuncId} {caps:List AV} (hcd:Called P g) (ht:target (ev st.1 f)=some (g,caps))
 (h:∀ l,st.2.2.2.m l=none→CallT P g (.d (.yld l)::caps.map sh) (st.2.1::st.2.2.1) (st.2.2.2.setM l (some (.loop P st.1 ps c1 c2))) fun _ lv G'=>lv=st.2.1::st.2.2.1 ∧
   ((∃ ρ',G'.m l=some (.loop P ρ' ps c1 c2)∧κ .normal (st.1,st.2.1,st.2.2.1,G'.setM l none))∨∃ e,G'.m l=some (.done e)∧e ≠ .normal∧κ e (st.1,st.2.1,st.2.2.1,G'.setM l none))):SW P (.rangeF f ps c1 c2) κ st:=by
 obtain ⟨ρ,L,σ,G⟩:=st
 intro hm rd gs nt defs code hc S ms ow base O a w hr hrd hn
 cases code with
 | rangeFunc f0 ps0 ca cb =>
  obtain ⟨f',x,y,e,hf,hx,hy,hps⟩:=cCode_rangeF hc
  cases e
  refine wpIn_rangeFunc fun fn _=>?_
  obtain ⟨l,mark,w1,hrun,hl0,hrel1,hevo1,hbl⟩:=enter_ok (P:=P) hr hrd hx hy hps hn fn
  have hfv:=operand_ok hr.tmpT hf
  obtain ⟨cv,hfe,hcvs,hcvr⟩:=target_ok hfv ht
  refine ⟨l,mark,w1,{ target:=.fn (.func g) cv,args:=#[.func (.yield l) #[] #[]] },w1,g,#[.func (.yield l) #[] #[]] ++ cv,w1,hrun,?_,fun _ _=>trivial,?_,fun e=>(by cases e),?_⟩
  · have:a.eval f0=.func (.func g) #[] cv:=hfe
    simp [resolve,this,Deferred.ofValue]
    rfl
  · have:=run_callFunc (P:=P) (w:=w1) (args:=#[.func (.yield l) #[] #[]] ++ cv) hcd
    simpa [invoke] using this
  · have hcall:=h l hl0 S ms w1 (#[.func (.yield l) #[] #[]] ++ cv) (fun _=>0) (by simp [hcvs]; omega) hrel1.h (fun i=>by
     cases i with
     | zero =>
      have e2:(#[Value.func (Fn.yield l) #[] #[]] ++ cv).getD 0 undef=.func (.yield l) #[] #[]:=by
       rw [Array.getD_eq_getD_getElem?,Array.getElem?_append_left (by simp)]; rfl
      rw [e2]
      exact VRD.yld l
     | succ i =>
      have e1:ofL (.d (.yld l)::caps.map sh) (i + 1)=ofL (caps.map sh) i:=by simp [ofL]
      have e2:(#[Value.func (.yield l) #[] #[]] ++ cv).getD (i + 1) undef=cv.getD i undef:=by
       simp [Array.getD_eq_getD_getElem?,Array.getElem?_append_right]
      rw [e1,e2]
      simp only [ofL,List.getD_eq_getElem?_getD,List.getElem?_map]
      cases hci:caps[i]? with
      | none=>trivial
      | some x=>exact (hcvr i x hci).sh _) (fun i sz es=>by
     cases i with
     | zero=>simp [ofL]
     | succ i =>
      have e1:ofL (.d (.yld l)::caps.map sh) (i + 1)=ofL (caps.map sh) i:=by simp [ofL]
      rw [e1]
      simp only [ofL,List.getD_eq_getElem?_getD,List.getElem?_map]
      cases caps[i]? with
      | none=>simp
      | some x=>exact sh_not_own sz es)
    rcases hcall with ⟨_,hcalls⟩|⟨v,w2,hx,_⟩
    · have hin:=(callsIn_wide (n:=0 - 1)).2 hcalls
      have hin':CallsIn (FW rd) (0 - 1) P g (#[.func (.yield l) #[] #[]] ++ cv) w1 _:=hin
      refine hin'.mono fun e w3 ⟨v,he,S',r,lv,G',⟨hlv,hQ⟩,hrelH,hevo,hsh,_,hG⟩=>?_
      subst he
      subst hlv
      obtain ⟨hr3,he3⟩:=hrel1.called hrelH hevo hsh hG
      obtain ⟨m,hmm⟩:=own_data hr
      have after:∀ obj,isM obj=true→∀ x:Obj,w3.heap[l]?=some x→isM x=true→After S ms base O σ a w (ρ,L,σ,G'.setM l none) { a with defers:=mark ++ a.defers } (w3.putObj l obj):=by
       intro obj _ x hx hi
       refine ⟨⟨S',m,ow,?_,(hevo1.trans he3).trans (Evo.put (fun hlt=>absurd hbl (by omega)) obj (Array.getElem?_eq_some_iff.1 hx).1)⟩,Shape.refl _,rfl⟩
       rw [← hmm]
       exact hr3.dropM hx hi obj
      rcases hQ with ⟨ρ',hm',hk⟩|⟨e,hm',hne,hk⟩
      · obtain ⟨rc,hrc,hst,hpd,_⟩:=hr3.h.x l _ hm'
        refine ⟨none,w3.putObj l (.loop { rc with state:=.exhausted }),?_,?_⟩
        · simp [Instr.endLoop,Instr.getLoop,run_getObj_loop hrc,Result.andThen,hst,hpd,run_setObj_loop _ hrc]
        · exact ⟨_,hk,after _ rfl _ hrc rfl⟩
      · obtain ⟨rc,hrc,hst,hpd⟩:=hr3.h.x l _ hm'
        refine ⟨some e.code,w3.putObj l (.loop { rc with state:=.exhausted }),?_,?_⟩
        · simp [Instr.endLoop,Instr.getLoop,run_getObj_loop hrc,Result.andThen,hst,hpd,run_setObj_loop _ hrc]
        · cases e with
          | normal=>exact absurd rfl hne
          | exit id=>exact wpIn_exit ⟨_,hk,after _ rfl _ hrc rfl⟩
          | ret=>exact wpIn_ret ⟨_,hk,after _ rfl _ hrc rfl⟩
    · rw [run_callFunc hcd] at hx
      cases hx
 | region id ops draw=>obtain ⟨_,_,e⟩:=cCode_region hc; cases e
 | seq a b=>obtain ⟨_,_,e,_⟩:=cCode_seq hc; cases e
 | cond c a b=>obtain ⟨_,_,_,e,_⟩:=cCode_cond hc; cases e
 | block id a=>obtain ⟨_,e,_⟩:=cCode_block hc; cases e
 | loop a=>obtain ⟨_,e,_⟩:=cCode_loop hc; cases e
 | scope a=>obtain ⟨_,e,_⟩:=cCode_scope hc; cases e
 | _=>simp [cCode] at hc
end
end Go.E2
