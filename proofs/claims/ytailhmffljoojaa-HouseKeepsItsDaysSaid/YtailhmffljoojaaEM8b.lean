/-
 A range zbe a function: the statement,and a round of it.
 Conditions: none;laws.
-/
import Derived.Test.YtailhmffljoojaaEM8
import Derived.RangeFuncLeaves
import Derived.RangeFuncRecord
namespace Go.E2
section
variable {P:Program} {S:Stb} {ms:List (Nat→Nat)} {ow:Nat→Option Nat} {base:Nat} {O:Nat→Prop} {ρ:Env} {L:Hp} {σ:List Hp} {G:Gh} {a:Act} {w:World}
theorem Evo.wider {O':Nat→Prop} {S':Stb} {w':World} (h:Evo base O S w S' w') (ho:∀ b,O b→O' b):Evo base O' S w S' w' :=
 ⟨h.sz,fun b hb hn=>h.keep b hb fun x=>hn (ho b x),h.st,h.sub,h.os,h.tape,h.out⟩
theorem Evo.put {S:Stb} {l:Nat} (hO:l<base→O l) (obj:Obj) (hl:l<w.heap.size):Evo base O S w S (w.putObj l obj) :=
 ⟨by simp,fun b hb hn=>by rw [zbh hl,if_neg];rintro rfl;exact hn (hO hb),fun _ _=>rfl,Sub.refl S,rfl,rfl,rfl⟩
theorem Rel.dropM (h:Rel S ms ow base O ρ L σ G a w) {l:Nat} {x:Obj} (hl:w.heap[l]?=some x) (hx:isM x=true) (obj:Obj):Rel S ms ow base O ρ L σ (G.setM l none) a (w.putObj l obj):=by
 have hlt:=(Array.getElem?_eq_some_iff.1 hl).1
 refine h.worldM rfl (fun b o hb=>?_) (by simp) (fun b o hb ho=>?_) (fun b o hb hlb=>?_)
 · simp only [Gh.setM_m,upd] at hb
   split at hb
   · cases hb
   · rename_i e;rw [zbh hlt,if_neg e];exact h.h.x b o hb
 · rw [zbh hlt,if_neg]
   · exact hb
   · rintro rfl;rw [hl] at hb;cases hb;rw [hx] at ho;cases ho
 · simp only [Gh.setM_m,upd] at hb
   split at hb
   · cases hb
   · exact h.mold hb hlb
theorem zqd (G:Gh) {l:Nat} (h:G.m l=none):G.setM l none=G:=by
 refine Gh.ext rfl ?_
 funext j
 simp only [Gh.setM_m,upd]
 split
 · rename_i e;subst e;exact h.symm
 · rfl
theorem zsp {rd:Option Nat} (h:Rel S ms ow base O ρ L σ G a w) (hrd:zsa rd base O w) {gs:List Nat} {nt:Nat} {defs:List Oper} {ps:Array Tmp} {ca cb:Code} {c1 c2:ACode} (h1:zae P gs nt defs ca=some c1) (h2:zae P gs nt defs cb=some c2)
 (hps:∀ t∈ps.toList,t<nt) (hn:nt≤a.tmps.size) (fn:FuncId):∃ l mark w1,(Instr.enterLoop fn a.tmps ps ca cb rd).run P w=.ok (l,mark) w1∧G.m l=none ∧
   Rel S ms ow base O ρ L σ (G.setM l (some (.loop P ρ ps.toList c1 c2))) { a with defers:=mark++a.defers } w1∧Evo base O S w S w1∧base≤l:=by
 have rec_ok:∀ df:Nat,MOk S (some (Obj.loop { state:=.ready,pending:=none,fn,tmps:=a.tmps,params:=ps,assign:=ca,body:=cb,defers:=df })) (.loop P ρ ps.toList c1 c2):=fun df =>
  ⟨_,rfl,rfl,rfl,rfl,⟨gs,nt,defs,h1,h2,hn,hps⟩,fun i x hx=>(h.tmp i).data hx⟩
 cases rd with
 | none =>
  have hrel1:Rel S ms ow base O ρ L σ G a (w.alloc (.deferred (some []))):=h.worldM rfl (h.h.x.keep (Sub.refl S) rfl fun r o hr _=>(zn (Array.getElem?_eq_some_iff.1 hr).1).trans hr) (by rw [zav];omega)
   (fun b o hb _=>(zn (Array.getElem?_eq_some_iff.1 hb).1).trans hb) (fun b o hb hlb=>h.mold hb hlb)
  obtain ⟨k1,k2⟩:=hrel1.newM (rec_ok w.heap.size)
  refine ⟨(w.alloc (.deferred (some []))).heap.size,[{ target:=.collected w.heap.size,args:=#[] }],_,?_,hrel1.m_none,?_,(Evo.alloc h.bas _).trans k2,hrel1.bas⟩
  · simp [Instr.enterLoop,Result.andThen]
  · refine { k1 with dfs:=?_ }
    have hd:=k1.dfs
    refine ⟨?_,fun d hm=>?_⟩
    · simp only [List.singleton_append,List.map_cons,List.nodup_cons]
      refine ⟨fun hm=>?_,hd.1⟩
      obtain ⟨d,hd1,hd2⟩:=List.mem_map.1 hm
      obtain ⟨r,hr1,hr2,hr3⟩:=h.dfs.2 d hd1
      rw [hr1] at hd2
      simp only at hd2
      have:=(Array.getElem?_eq_some_iff.1 hr3).1
      omega
    · rcases List.mem_cons.1 hm with rfl|hm
      · refine ⟨w.heap.size,rfl,h.bas,?_⟩
        rw [zn (by rw [zav];omega),z4]
      · exact hd.2 d hm
 | some l0 =>
  obtain ⟨_,_,r0,hr0⟩:=hrd l0 rfl
  obtain ⟨k1,k2⟩:=h.newM (rec_ok r0.defers)
  refine ⟨w.heap.size,[],_,?_,h.m_none,k1,k2,h.bas⟩
  simp [Instr.enterLoop,Instr.getLoop,run_getObj_loop hr0,Result.andThen]
theorem zqe {x:AV} {v:Value} (hv:VR S (L::σ) ms x v) {g:FuncId} {caps:List AV} (ht:target x=some (g,caps)) :
 ∃ cv:Array Value,v=.func (.func g) #[] cv∧cv.size=caps.length∧∀ (j:Nat) (x:AV),caps[j]?=some x→VR S (L::σ) ms x (cv.getD j undef):=by
 unfold target at ht
 split at ht
 · cases ht
   exact ⟨#[],VRD.fn_inv hv,rfl,fun j x hx=>by simp at hx⟩
 · rename_i g' ds
   cases ht
   obtain ⟨cv,h1,h2,_⟩:=VRD.clo_inv hv
   refine ⟨cv,h1,by have:=h2.1;simpa using this,fun j x hx=>?_⟩
   rw [List.getElem?_map] at hx
   cases hq:ds[j]? with
   | none=>rw [hq] at hx;cases hx
   | some y =>
    rw [hq] at hx
    cases hx
    obtain ⟨v,hv,hr⟩:=h2.get hq
    have hv':cv[j]?=some v:=by simpa using hv
    have:cv.getD j undef=v:=by simp [Array.getD_eq_getD_getElem?,hv']
    rw [this];exact hr
 · rename_i g' cs
   cases ht
   obtain ⟨cv,h1,h2,h3⟩:=hv
   refine ⟨cv,h1,by simpa using h2,fun j x hx=>?_⟩
   rw [List.getElem?_map] at hx
   cases hq:cs[j]? with
   | none=>simp [hq] at hx
   | some q =>
    simp [hq] at hx
    subst hx
    have hlt:j<cv.size:=by rw [h2];exact (List.getElem?_eq_some_iff.1 hq).1
    exact h3 j q (cv.getD j undef) hq (by simp [hlt])
 · cases ht
theorem SW.rangeF {κ:zbd→St→Prop} {st:St} {f:AO} {ps:List Nat} {c1 c2:ACode} {g:FuncId} {caps:List AV} (hcd:zha P g) (ht:target (ev st.1 f)=some (g,caps))
 (h:∀ l,st.2.2.2.m l=none→zam P g (.d (.yld l)::caps.map sh) (st.2.1::st.2.2.1) (st.2.2.2.setM l (some (.loop P st.1 ps c1 c2))) fun _ lv G'=>lv=st.2.1::st.2.2.1 ∧
   ((∃ ρ',G'.m l=some (.loop P ρ' ps c1 c2)∧κ .normal (st.1,st.2.1,st.2.2.1,G'.setM l none))∨∃ e,G'.m l=some (.done e)∧e≠.normal∧κ e (st.1,st.2.1,st.2.2.1,G'.setM l none))):SW P (.rangeF f ps c1 c2) κ st:=by
 obtain ⟨ρ,L,σ,G⟩:=st
 intro hm rd gs nt defs code hc S ms ow base O a w hr hrd hn
 cases code with
 | rangeFunc f0 ps0 ca cb =>
  obtain ⟨f',x,y,e,hf,hx,hy,hps⟩:=zal hc
  cases e
  refine wpIn_rangeFunc fun fn _=>?_
  obtain ⟨l,mark,w1,hrun,hl0,hrel1,hevo1,hbl⟩:=zsp (P:=P) hr hrd hx hy hps hn fn
  have hfv:=zb hr.tmpT hf
  obtain ⟨cv,hfe,hcvs,hcvr⟩:=zqe hfv ht
  refine ⟨l,mark,w1,{ target:=.fn (.func g) cv,args:=#[.func (.yield l) #[] #[]] },w1,g,#[.func (.yield l) #[] #[]]++cv,w1,hrun,?_,fun _ _=>trivial,?_,fun e=>(by cases e),?_⟩
  · have:a.eval f0=.func (.func g) #[] cv:=hfe
    simp [resolve,this,Deferred.ofValue]
    rfl
  · have:=zcm (P:=P) (w:=w1) (args:=#[.func (.yield l) #[] #[]]++cv) hcd
    simpa [invoke] using this
  · have hcall:=h l hl0 S ms w1 (#[.func (.yield l) #[] #[]]++cv) (fun _=>0) (by simp [hcvs];omega) hrel1.h (fun i=>by
     cases i with
     | zero =>
      have e2:(#[Value.func (Fn.yield l) #[] #[]]++cv).getD 0 undef=.func (.yield l) #[] #[]:=by
       rw [Array.getD_eq_getD_getElem?,Array.getElem?_append_left (by simp)];rfl
      rw [e2]
      exact VRD.yld l
     | succ i =>
      have e1:ofL (.d (.yld l)::caps.map sh) (i+1)=ofL (caps.map sh) i:=by simp [ofL]
      have e2:(#[Value.func (.yield l) #[] #[]]++cv).getD (i+1) undef=cv.getD i undef:=by
       simp [Array.getD_eq_getD_getElem?,Array.getElem?_append_right]
      rw [e1,e2]
      simp only [ofL,List.getD_eq_getElem?_getD,List.getElem?_map]
      cases hci:caps[i]? with
      | none=>trivial
      | some x=>exact (hcvr i x hci).sh _) (fun i sz es=>by
     cases i with
     | zero=>simp [ofL]
     | succ i =>
      have e1:ofL (.d (.yld l)::caps.map sh) (i+1)=ofL (caps.map sh) i:=by simp [ofL]
      rw [e1]
      simp only [ofL,List.getD_eq_getElem?_getD,List.getElem?_map]
      cases caps[i]? with
      | none=>simp
      | some x=>exact zjl sz es)
    rcases hcall with ⟨_,hcalls⟩|⟨v,w2,hx,_⟩
    · have hin:=(callsIn_wide (n:=0 - 1)).2 hcalls
      have hin':CallsIn (FW rd) (0 - 1) P g (#[.func (.yield l) #[] #[]]++cv) w1 _:=hin
      refine hin'.mono fun e w3 ⟨v,he,S',r,lv,G',⟨hlv,hQ⟩,hrelH,hevo,hsh,_,hG⟩=>?_
      subst he
      subst hlv
      obtain ⟨hr3,he3⟩:=hrel1.called hrelH hevo hsh hG
      obtain ⟨m,hmm⟩:=za0 hr
      have after:∀ obj,isM obj=true→∀ x:Obj,w3.heap[l]?=some x→isM x=true→zbx S ms base O σ a w (ρ,L,σ,G'.setM l none) { a with defers:=mark++a.defers } (w3.putObj l obj):=by
       intro obj _ x hx hi
       refine ⟨⟨S',m,ow,?_,(hevo1.trans he3).trans (Evo.put (fun hlt=>absurd hbl (by omega)) obj (Array.getElem?_eq_some_iff.1 hx).1)⟩,zab.refl _,rfl⟩
       rw [← hmm]
       exact hr3.dropM hx hi obj
      rcases hQ with ⟨ρ',hm',hk⟩|⟨e,hm',hne,hk⟩
      · obtain ⟨rc,hrc,hst,hpd,_⟩:=hr3.h.x l _ hm'
        refine ⟨none,w3.putObj l (.loop { rc with state:=.exhausted }),?_,?_⟩
        · simp [Instr.endLoop,Instr.getLoop,run_getObj_loop hrc,Result.andThen,hst,hpd,run_setObj_loop _ hrc]
        · exact ⟨_,hk,after _ rfl _ hrc rfl⟩
      · obtain ⟨rc,hrc,hst,hpd⟩:=hr3.h.x l _ hm'
        refine ⟨some e.code,w3.putObj l (.loop { rc with state:=.exhausted }),?_,?_⟩
        · simp [Instr.endLoop,Instr.getLoop,run_getObj_loop hrc,Result.andThen,hst,hpd,run_setObj_loop _ hrc]
        · cases e with
          | normal=>exact absurd rfl hne
          | exit id=>exact wpIn_exit ⟨_,hk,after _ rfl _ hrc rfl⟩
          | ret=>exact wpIn_ret ⟨_,hk,after _ rfl _ hrc rfl⟩
    · rw [zcm hcd] at hx
      cases hx
 | region id ops draw=>obtain ⟨_,_,e⟩:=zau hc;cases e
 | seq a b=>obtain ⟨_,_,e,_⟩:=zbp hc;cases e
 | cond c a b=>obtain ⟨_,_,_,e,_⟩:=za6 hc;cases e
 | block id a=>obtain ⟨_,e,_⟩:=zay hc;cases e
 | loop a=>obtain ⟨_,e,_⟩:=za7 hc;cases e
 | scope a=>obtain ⟨_,e,_⟩:=zaz hc;cases e
 | _=>simp [zae] at hc
def zc8 (ρ:Env):List Nat→List D→Env
 | p::ps,x::xs=>zc8 (upd ρ p (.d x)) ps xs
 | _,_=>ρ
def zcq (ρ:Env):Env:=fun i=>match (ρ i).data with|some x=>.d x|none=>.undef
def z4c (P:Program) (l:Nat) (ρ0:Env) (ps:List Nat) (c1 c2:ACode) (Q:AV→List Hp→Gh→Prop):zbd→St→Prop
 | .normal,st=>st.2.2.2.m l=none→Q (.d (.bool true)) st.2.2.1 (st.2.2.2.setM l (some (.loop P ρ0 ps c1 c2)))
 | e,st=>st.2.2.2.m l=none→Q (.d (.bool false)) st.2.2.1 (st.2.2.2.setM l (some (.done e)))
theorem zcr.tailH {m:List (Nat→Nat)} {lv:List Hp} {L:Hp} (h:zcr S m (L::lv) G w):zcr S m.tail lv G w:=by
 have live:∀ {k s b cs},zdc lv m.tail k s b cs→zdc (L::lv) m (k+1) s b cs:=by
  rintro k s b cs ⟨x,y,h1,h2,h3,h4⟩
  exact ⟨x,y,by simpa using h1,by simpa using h2,h3,h4⟩
 refine ⟨h.sub,by have:=h.len;simp at this ⊢;omega,fun hl=>h.box (live hl),fun hl=>h.nos (live hl),fun h1 h2=>?_,h.gbox,h.gnos,fun hb hl=>h.gnl hb (live hl),h.x,h.tab⟩
 have:=h.inj (live h1) (live h2)
 exact ⟨by omega,this.2⟩
theorem zcr.worldH {lv:List Hp} (h:zcr S ms lv G w) {G':Gh} {w':World} (hc:G'.c=G.c) (hx:zkp S G' w') (hw:∀ (b:Nat) (o:Obj),w.heap[b]?=some o→isM o=false→w'.heap[b]?=some o):zcr S ms lv G' w':=by
 have keepB:∀ {b cs},zd6 S w b cs→w'.heap[b]?=w.heap[b]?:=fun hb=>by
  obtain ⟨vs,e,h1⟩:=hb.heap
  rw [h1,hw _ _ h1 rfl]
 have at_:∀ {b cs},G' b=some cs→G b=some cs:=fun {b cs} hb=>by rw [hc] at hb;exact hb
 refine ⟨fun ad v hs=>?_,h.len,fun hl=>(h.box hl).mono (Sub.refl S) (keepB (h.box hl)),h.nos,h.inj,fun hb=>(h.gbox (at_ hb)).mono (Sub.refl S) (keepB (h.gbox (at_ hb))),fun hb=>h.gnos (at_ hb),fun hb=>h.gnl (at_ hb),hx,h.tab⟩
 have h1:=h.sub _ _ hs
 unfold World.cell? at h1 ⊢
 split at h1
 · rename_i c0 e0 f0 e1
   rw [hw _ _ e1 rfl]
   exact h1
 · cases h1
theorem zqf {lv:List Hp}:∀ (ps:List Nat) (xs:List D) (vs:List Value) (ρ:Env) (tmps:Array Value),zx S xs vs→(∀ t∈ps,t<tmps.size)→(∀ i,VR S lv ms (ρ i) (tmps.getD i undef))→(∀ i sz es,ρ i≠.own sz es) →
 ∀ i,VR S lv ms (zc8 ρ ps xs i) (((ps.zip vs).foldl (fun tmps (p:Nat×Value)=>tmps.setIfInBounds p.1 p.2) tmps).getD i undef)∧∀ sz es,zc8 ρ ps xs i≠.own sz es
 | [],xs,vs,ρ,tmps,_,_,h,ho,i=>by exact ⟨h i,ho i⟩
 | p::ps,[],vs,ρ,tmps,hv,_,h,ho,i=>by
   have:=hv.nil_inv
   subst this
   exact ⟨h i,ho i⟩
 | p::ps,x::xs,vs,ρ,tmps,hv,hp,h,ho,i=>by
   obtain ⟨v,vs',rfl,h1,h2⟩:=hv.cons_inv
   simp only [zc8,List.zip_cons_cons,List.foldl_cons]
   refine zqf ps xs vs' _ _ h2 (fun t ht=>by simpa using hp t (List.mem_cons_of_mem _ ht)) (fun j=>?_) (fun j sz es=>?_) i
   · simp only [upd]
     have hlt:=hp p List.mem_cons_self
     split
     · rename_i e
       subst e
       have:(tmps.setIfInBounds j v).getD j undef=v:=by simp [Array.getD_eq_getD_getElem?,hlt]
       rw [this];exact h1
     · rename_i e
       have:(tmps.setIfInBounds p v).getD j undef=tmps.getD j undef:=by
        simp [Array.getD_eq_getD_getElem?,Array.getElem?_setIfInBounds_ne (Ne.symm e)]
       rw [this];exact h j
   · simp only [upd]
     split
     · simp
     · exact ho j sz es
theorem zjs:∀ (l:List (Nat×Value)) (tmps:Array Value),(l.foldl (fun tmps (p:Nat×Value)=>tmps.setIfInBounds p.1 p.2) tmps).size=tmps.size
 | [],_=>rfl
 | p::l,tmps=>by simp only [List.foldl_cons];rw [zjs l];simp
theorem zmo (hm:P.follows .mixedOrders=true) {l:Nat} {ρ0:Env} {ps:List Nat} {c1 c2:ACode} {vs:List D} {Q:AV→List Hp→Gh→Prop} (hl:G.m l=some (.loop P ρ0 ps c1 c2)) (hlen:vs.length=ps.length)
 (h:SW P c1 (zbd.then (fun st'=>SW P c2 (z4c P l ρ0 ps c1 c2 Q) st') fun _ _=>False) (zc8 (zcq ρ0) ps vs,zmd,σ,G.setM l none)):zia P l vs σ G Q:=by
 intro S ms w args hrel hargs
 obtain ⟨rc,hrc,hst,hpd,hps,⟨gs,nt,defs,k1,k2,hnt,hpnt⟩,htm⟩:=hrel.x l _ hl
 have hlt:=hrel.x.lt hl
 have hasz:args.size=rc.params.size:=by
  have:=hargs.1
  have:rc.params.size=ps.length:=by rw [← hps];simp
  simp at *;omega
 let tmps:=(rc.params.zip args).foldl (fun tmps (t,a)=>tmps.setIfInBounds t a) rc.tmps
 have htl:tmps=(ps.zip args.toList).foldl (fun tmps (p:Nat×Value)=>tmps.setIfInBounds p.1 p.2) rc.tmps:=by
  simp only [tmps]
  rw [← Array.foldl_toList,Array.toList_zip,hps]
 refine ⟨rc.fn,tmps,rc.assign,rc.body,?_,?_⟩
 · simp [Instr.yield,Instr.getLoop,run_getObj_loop hrc,Result.andThen,hasz,tmps]
 have hno:∀ s:Nat,(zmd s).c=none:=fun s=>rfl
 have live0:∀ {m0:Nat→Nat} {k s b cs},zdc (zmd::σ) (m0::ms) k s b cs→∃ k',k=k'+1∧zdc σ ms k' s b cs:=by
  rintro m0 k s b cs ⟨x,y,h1,h2,h3,h4⟩
  cases k with
  | zero=>simp at h1;subst h1;rw [hno] at h3;cases h3
  | succ k=>exact ⟨k,rfl,x,y,by simpa using h1,by simpa using h2,h3,h4⟩
 have hdrop:∀ {b o},(G.setM l none).m b=some o→b≠l∧G.m b=some o:=fun {b o} hb=>by
  simp only [Gh.setM_m,upd] at hb
  split at hb
  · cases hb
  · rename_i e;exact ⟨e,hb⟩
 have htmps:∀ i,VR S (zmd::σ) ((fun _=>0)::ms) (zc8 (zcq ρ0) ps vs i) (tmps.getD i undef)∧∀ sz es,zc8 (zcq ρ0) ps vs i≠.own sz es:=fun i=>by
  rw [htl]
  refine zqf ps vs args.toList _ _ hargs (fun t ht=>Nat.lt_of_lt_of_le (hpnt t ht) hnt) (fun i=>?_) (fun i sz es=>?_) i
  · unfold zcq
    cases hd:(ρ0 i).data with
    | none=>trivial
    | some x=>exact htm i x hd
  · unfold zcq
    cases (ρ0 i).data<;>simp
 have hR0:Rel S ((fun _=>0)::ms) (fun _=>none) w.heap.size (zbs σ ms (G.setM l none)) (zc8 (zcq ρ0) ps vs) zmd σ (G.setM l none) { tmps:=tmps,defers:=[] } w:=by
  refine { h:=⟨hrel.sub,by simp [hrel.len],fun hl=>?_,fun hl=>?_,fun h1 h2=>?_,hrel.gbox,hrel.gnos,fun hb hl=>?_,fun b o hb=>hrel.x b o (hdrop hb).2,hrel.tab⟩,tmp:=fun i=>(htmps i).1,own:=fun {i sz es} hi=>absurd hi ((htmps i).2 sz es),ownI:=fun {i j sz es sz' es' g} hi _=>absurd hi ((htmps i).2 _ _),
           ownB:=fun {i sz es g} hi=>absurd hi ((htmps i).2 _ _),new:=fun {s b cs} hl=>?_,old:=fun {k s b cs} hl=>?_,gold:=fun {b cs} hb _=>.inr (.inl ⟨cs,hb⟩),mold:=fun {b o} hb _=>.inr (.inr ⟨o,hb⟩),dfs:=zhp.nil,bas:=Nat.le_refl _ }
  · obtain ⟨k',rfl,hl'⟩:=live0 hl;exact hrel.box hl'
  · obtain ⟨k',rfl,hl'⟩:=live0 hl;exact hrel.nos hl'
  · obtain ⟨k',rfl,hl'⟩:=live0 h1
    obtain ⟨k'',rfl,hl''⟩:=live0 h2
    have:=hrel.inj hl' hl''
    exact ⟨by omega,this.2⟩
  · obtain ⟨k',rfl,hl'⟩:=live0 hl;exact hrel.gnl hb hl'
  · obtain ⟨k',e,_⟩:=live0 hl;cases e
  · obtain ⟨k',e,hl'⟩:=live0 hl
    cases e
    exact ⟨hrel.block_lt hl',.inl ⟨k,s,cs,hl'⟩⟩
 have hlO:¬ zbs σ ms (G.setM l none) l:=by
  rintro (⟨k,s,cs,hl'⟩|⟨cs,hg⟩|⟨o,hm'⟩)
  · obtain ⟨vs',e,hv,_⟩:=hrel.box hl'
    rw [hrc] at hv;cases hv
  · obtain ⟨vs',e,hv,_⟩:=hrel.gbox hg
    rw [hrc] at hv;cases hv
  · exact (hdrop hm').1 rfl
 have hO2:∀ b,zbs σ ms (G.setM l none) b→zbs σ ms G b:=by
  rintro b (hl'|hg|⟨o,hm'⟩)
  · exact .inl hl'
  · exact .inr (.inl hg)
  · exact .inr (.inr ⟨o,(hdrop hm').2⟩)
 have hlO2:zbs σ ms G l:=.inr (.inr ⟨_,hl⟩)
 have hrd:zsa (some l) w.heap.size (zbs σ ms (G.setM l none)) w:=fun l' e=>by cases e;exact ⟨hlt,hlO,rc,hrc⟩
 have htsz:nt≤tmps.size:=by rw [htl,zjs];exact hnt
 refine roundIn_of_wpIn (F:=Fence.wide) (n:=0) trivial ?_
 refine wpIn_mono (h hm (some l) gs nt defs rc.assign k1 S _ _ _ _ _ w hR0 hrd htsz) fun e a1 w1 hq=>?_
 cases e with
 | normal =>
  obtain ⟨st1,hsw,ha1⟩:=hq
  have hz1:=ha1.sz
  obtain ⟨⟨S1,m1,ow1,hr1,he1⟩,hs1,_⟩:=ha1
  have hrc1:w1.heap[l]?=some (.loop rc):=by rw [he1.keep l hlt hlO];exact hrc
  have hnone1:st1.2.2.2.m l=none:=by
   cases hq:st1.2.2.2.m l with
   | none=>rfl
   | some o=>exact absurd (hr1.mold hq hlt) hlO
  have hbeg:(Instr.beginRound l).run P w1=.ok () (w1.putObj l (.loop { rc with state:=.busy })):=by
   simp [Instr.beginRound,Instr.getLoop,run_getObj_loop hrc1,Result.andThen,hst,run_setObj_loop _ hrc1]
  refine ⟨_,hbeg,?_⟩
  have hr2:=hr1.dropM hrc1 rfl (.loop { rc with state:=.busy })
  rw [zqd _ hnone1] at hr2
  have hlt1:=(Array.getElem?_eq_some_iff.1 hrc1).1
  have hrc2:(w1.putObj l (.loop { rc with state:=.busy })).heap[l]?=some (.loop { rc with state:=.busy }):=by rw [zbh hlt1,if_pos rfl]
  have hrd2:zsa (some l) w.heap.size (zbs σ ms (G.setM l none)) (w1.putObj l (.loop { rc with state:=.busy })):=fun l' e=>by cases e;exact ⟨hlt,hlO,_,hrc2⟩
  refine wpIn_mono (hsw hm (some l) gs nt defs rc.body k2 S1 _ _ _ _ a1 _ hr2 hrd2 (by rw [hz1];exact htsz)) fun e a3 w3 hq3=>?_
  -- the end of the round
  have fin:∀ (st3:St) (v:Bool) (o1:MO) (rc1:Loop),zbx S1 (m1::((fun _=>0)::ms).tail) w.heap.size (zbs σ ms (G.setM l none)) st1.2.2.1 a1 (w1.putObj l (.loop { rc with state:=.busy })) st3 a3 w3→(st3.2.2.2.m l=none→Q (.d (.bool v)) st3.2.2.1 (st3.2.2.2.setM l (some o1))) →
   (∀ S',Sub S S'→MOk S' (some (.loop rc1)) o1)→∃ v',Ending.returned (.bool v)=.returned v'∧zsj S ms w σ G Q v' (w3.putObj l (.loop rc1)):=by
   intro st3 v o1 rc1 ha3 hQ hmo
   obtain ⟨⟨S3,m3,ow3,hr3,he3⟩,hs3,_⟩:=ha3
   have hrc3:w3.heap[l]?=some (.loop { rc with state:=.busy }):=by rw [he3.keep l hlt hlO];exact hrc2
   have hlt3:=(Array.getElem?_eq_some_iff.1 hrc3).1
   have hsub3:Sub S S3:=he1.sub.trans he3.sub
   have hnone3:st3.2.2.2.m l=none:=by
    cases hq:st3.2.2.2.m l with
    | none=>rfl
    | some o=>exact absurd (hr3.mold hq hlt) hlO
   have hH3:=zcr.tailH hr3.h
   refine ⟨_,rfl,S3,.d (.bool v),st3.2.2.1,_,hQ hnone3,?_,?_,hs1.trans hs3,VRD.bool v,?_⟩
   · have hw:∀ (b:Nat) (o:Obj),w3.heap[b]?=some o→isM o=false→(w3.putObj l (.loop rc1)).heap[b]?=some o:=fun b o hb ho=>by
      rw [zbh hlt3,if_neg]
      · exact hb
      · rintro rfl;rw [hrc3] at hb;cases hb;cases ho
     exact zcr.worldH hH3 rfl (fun b o hb=>by
      simp only [Gh.setM_m,upd] at hb
      rw [zbh hlt3]
      split at hb
      · rename_i e;subst e;cases hb;rw [if_pos rfl];exact hmo S3 hsub3
      · rename_i e;rw [if_neg e];exact hr3.h.x b o hb) hw
   · have e1:Evo w.heap.size (zbs σ ms G) S w S1 w1:=he1.wider hO2
     have e2:Evo w.heap.size (zbs σ ms G) S1 w1 S1 (w1.putObj l (.loop { rc with state:=.busy })):=Evo.put (fun _=>hlO2) _ hlt1
     have e3:=he3.wider hO2
     have e4:Evo w.heap.size (zbs σ ms G) S3 w3 S3 (w3.putObj l (.loop rc1)):=Evo.put (fun _=>hlO2) _ hlt3
     exact ((e1.trans e2).trans e3).trans e4
   · have hsh:=hs1.trans hs3
     have back:∀ {b},zbs σ ms (G.setM l none) b→zbs σ ms G b:=fun hb=>hO2 _ hb
     refine ⟨fun b cs hb hlb=>?_,fun b o hb hlb=>?_⟩
     · rcases hr3.gold hb hlb with ⟨k,s,cs',hl'⟩|⟨cs0,hg⟩|⟨o,hm'⟩
       · exfalso
         obtain ⟨x,y,q1,q2,q3,q4⟩:=hl'
         obtain ⟨x',hx'⟩:=hsh.get q1
         have e:=(hsh.2 k x x' q1 hx' s).2
         cases hc:(x' s).c with
         | none=>rw [e.1 hc] at q3;cases q3
         | some c0=>exact hH3.gnl hb ⟨x',y,hx',q2,hc,q4⟩
       · exact .inl ⟨cs0,hg⟩
       · exact .inr ⟨o,(hdrop hm').2⟩
     · simp only [Gh.setM_m,upd] at hb
       split at hb
       · rename_i e;subst e;exact .inr (.inr ⟨_,hl⟩)
       · exact back (hr3.mold hb hlb)
  have hmend:∀ st3:St,zbx S1 (m1::((fun _=>0)::ms).tail) w.heap.size (zbs σ ms (G.setM l none)) st1.2.2.1 a1 (w1.putObj l (.loop { rc with state:=.busy })) st3 a3 w3→w3.heap[l]?=some (.loop { rc with state:=.busy }):=fun st3 ha3=>by
   obtain ⟨⟨S3,m3,ow3,hr3,he3⟩,_⟩:=ha3
   rw [he3.keep l hlt hlO];exact hrc2
  have zvr:∀ (jump:Option Code) st3,zbx S1 (m1::((fun _=>0)::ms).tail) w.heap.size (zbs σ ms (G.setM l none)) st1.2.2.1 a1 (w1.putObj l (.loop { rc with state:=.busy })) st3 a3 w3 →
   (Instr.endRound l jump).run P w3=.ok (.bool jump.isNone) (w3.putObj l (.loop { rc with state:=if jump.isNone then .ready else .done,pending:=jump })):=fun jump st3 ha3=>by
   have:=hmend st3 ha3
   simp [Instr.endRound,Instr.getLoop,run_getObj_loop this,Result.andThen,run_setObj_loop _ this]
  have stop:∀ (e:zbd),e≠.normal→∀ st3,z4c P l ρ0 ps c1 c2 Q e st3→zbx S1 (m1::((fun _=>0)::ms).tail) w.heap.size (zbs σ ms (G.setM l none)) st1.2.2.1 a1 (w1.putObj l (.loop { rc with state:=.busy })) st3 a3 w3 →
   ∃ v w',(Instr.endRound l (some e.code)).run P w3=.ok v w'∧∃ v',Ending.returned v=.returned v'∧zsj S ms w σ G Q v' w':=by
   intro e hne st3 hk ha3
   refine ⟨_,_,zvr (some e.code) st3 ha3,fin st3 false (.done e) _ ha3 ?_ fun S' _=>⟨_,rfl,rfl,rfl⟩⟩
   cases e with
   | normal=>exact absurd rfl hne
   | exit id=>exact hk
   | ret=>exact hk
  cases e with
  | normal =>
   obtain ⟨st3,hk,ha3⟩:=hq3
   refine ⟨_,_,zvr none st3 ha3,fin st3 true (.loop P ρ0 ps c1 c2) _ ha3 hk fun S' hS=>?_⟩
   have:({ rc with state:=.ready,pending:=none }:Loop)=rc:=by cases rc;simp only at hst hpd;subst hst;subst hpd;rfl
   simp only [Option.isNone_none,if_true]
   rw [this]
   exact ⟨rc,rfl,hst,hpd,hps,⟨gs,nt,defs,k1,k2,hnt,hpnt⟩,fun i x hx=>(htm i x hx).mono hS⟩
  | ret =>
   obtain ⟨st3,hk,ha3⟩:=hq3
   exact stop .ret (by simp) st3 hk ha3
  | exit id =>
   obtain ⟨st3,hk,ha3⟩:=hq3
   exact stop (.exit id) (by simp) st3 hk ha3
  | _=>exact hq3.elim
 | exit id=>obtain ⟨_,hq,_⟩:=hq;exact hq.elim
 | ret=>obtain ⟨_,hq,_⟩:=hq;exact hq.elim
 | _=>exact hq.elim
end
end Go.E2
