/-
 A region that draws its order: whatever order is drawn,the compiler's order serves.
 Conditions: none;laws.
-/
import Derived.Test.YtlejjdbmmdghmaaEM3
namespace Go.E2
inductive Dep (ops:Array Oper) (i:Nat):Nat→Prop
 | direct {j:Nat} {o:Oper} {e:Edge} (h:ops[j]?=some o) (he:e∈o.after) (hb:Region.binds .any e=true) (hi:e.on=i):Dep ops i j
 | step {j:Nat} {o:Oper} {e:Edge} (h:ops[j]?=some o) (he:e∈o.after) (hb:Region.binds .any e=true) (hd:Dep ops i e.on):Dep ops i j
theorem zqp {acc:List Nat} {i:Nat}:∀ (l:List Edge) (s:Nat),(l.foldl (fun s e=>if Region.binds .any e then s ||| 2 ^ e.on ||| acc.getD e.on 0 else s) s).testBit i=true →
 s.testBit i=true∨∃ e∈l,Region.binds .any e=true∧(e.on=i∨(acc.getD e.on 0).testBit i=true)
 | [],s,h=>.inl h
 | e::l,s,h=>by
   rcases zqp l _ h with h'|⟨e',he,hb,hx⟩
   · by_cases hb:Region.binds .any e=true
     · simp only [hb,if_true] at h'
       rw [Nat.testBit_or,Nat.testBit_or] at h'
       simp only [Bool.or_eq_true] at h'
       rcases h' with (h'|h')|h'
       · exact .inl h'
       · refine .inr ⟨e,List.mem_cons_self,hb,.inl ?_⟩
         rw [Nat.testBit_two_pow] at h'
         simpa using h'
       · exact .inr ⟨e,List.mem_cons_self,hb,.inr h'⟩
     · simp only [hb,if_false,Bool.false_eq_true] at h'
       exact .inl h'
   · exact .inr ⟨e',List.mem_cons_of_mem _ he,hb,hx⟩
theorem zqq {ops:Array Oper} {i:Nat}:∀ (os:List Oper) (acc:List Nat),os=ops.toList.drop acc.length→(∀ j,(acc.getD j 0).testBit i=true→Dep ops i j)→∀ j,((zoa os acc).getD j 0).testBit i=true→Dep ops i j
 | [],acc,_,hacc,j,h=>hacc j h
 | o::os,acc,ho,hacc,j,h=>by
   simp only [zoa] at h
   have h0:ops[acc.length]?=some o:=by
    have:=congrArg (fun l=>l[0]?) ho
    simp only [List.getElem?_cons_zero,List.getElem?_drop,Nat.add_zero] at this
    simpa using this.symm
   refine zqq os _ ?_ ?_ j h
   · have:=congrArg (List.drop 1) ho
     simp only [List.drop_succ_cons,List.drop_zero,List.drop_drop] at this
     simpa [Nat.add_comm] using this
   · intro k hk
     rcases Nat.lt_trichotomy k acc.length with hlt|heq|hgt
     · rw [List.getD_eq_getElem?_getD,List.getElem?_append_left hlt,← List.getD_eq_getElem?_getD] at hk
       exact hacc k hk
     · subst heq
       rw [List.getD_eq_getElem?_getD,List.getElem?_append_right (Nat.le_refl _)] at hk
       simp only [Nat.sub_self,List.getElem?_cons_zero,Option.getD_some] at hk
       rcases zqp _ _ hk with hz|⟨e,he,hb,hx⟩
       · simp at hz
       · rcases hx with hx|hx
         · exact .direct h0 (by simpa using he) hb hx
         · exact .step h0 (by simpa using he) hb (hacc _ hx)
     · rw [List.getD_eq_getElem?_getD,List.getElem?_eq_none (by simp;omega)] at hk
       simp at hk
def zxb (P:Program) (as:List AI) (ks:List (Nat×List Nat)):List Nat→St→(St→Prop)→Prop
 | [],st,K=>K st
 | i::R,st,K=>∃ ai,as[i]?=some ai∧zaf P (zs4 as (zm6 ks i) ai) st.1 st.2.1 st.2.2.1 st.2.2.2 fun st1=>zxb P as ks R st1 K
theorem zil {P:Program} {as:List AI} {ks:List (Nat×List Nat)}:∀ {R:List Nat} {l:List AI},zvi as ks R=some l→∀ {st:St} {K:St→Prop},zaq P l st.1 st.2.1 st.2.2.1 st.2.2.2 K→zxb P as ks R st K
 | [],l,h,st,K,hr=>by simp [zvi] at h;subst h;exact hr
 | i::R,l,h,st,K,hr=>by
   simp only [zvi] at h
   split at h
   · rename_i a l' ha hl
     cases h
     exact ⟨a,ha,zdg (fun st1 h1=>zil hl h1) hr⟩
   · cases h
theorem zxc {P:Program} {as:List AI} {l:List Nat} {a:AI} (ha:∀ ls op,a.op≠.kp ls op) {ρ:Env} {L:Hp} {σ:List Hp} {G:Gh} {K:St→Prop} (h:zaf P (zs4 as l a) ρ L σ G K):zaf P (a.kp (zgm as l)) ρ L σ G K:=by
 unfold zs4 at h
 split at h
 · rename_i e
   have:l=[]:=by simpa using e
   subst this
   exact ze5 ha h
 · exact h
theorem zsh {as:List AI} {l:List Nat} {p:Nat→Bool}:∀ r∈zgm as (l.filter p),r∈zgm as l:=by
 intro r hr
 simp only [zgm,List.mem_filterMap] at hr ⊢
 obtain ⟨i,hi,e⟩:=hr
 exact ⟨i,(List.mem_filter.1 hi).1,e⟩
theorem zt8 {as:List AI} {l pre:List Nat} {i:Nat}:∀ r∈zgm as (l.filter fun x=>pre.contains x),r∈zgm as (l.filter fun x=>(i::pre).contains x):=by
 intro r hr
 simp only [zgm,List.mem_filterMap] at hr ⊢
 obtain ⟨k,hk,e⟩:=hr
 obtain ⟨h1,h2⟩:=List.mem_filter.1 hk
 refine ⟨k,List.mem_filter.2 ⟨h1,?_⟩,e⟩
 simp only [List.contains_eq_mem,decide_eq_true_eq] at h2 ⊢
 exact List.mem_cons_of_mem _ h2
theorem zzd {P:Program} {ms:List Nat} {as:List AI} {ks:List (Nat×List Nat)} (hnk:∀ (i:Nat) (a:AI),as[i]?=some a→∀ (ls:List RL) (op:AOp),a.op≠.kp ls op) {K:St→Prop} {j:Nat}:∀ {pre R:List Nat},zc0 ms as ks pre R=true→j∈R→(∀ i∈R,i≠j→(ms.getD j 0).testBit i=false)→∀ {st:St},zxb P as ks R st K →
 ∃ aj,as[j]?=some aj∧zaf P (aj.kp (zgm as ((zm6 ks j).filter fun x=>pre.contains x))) st.1 st.2.1 st.2.2.1 st.2.2.2 fun st'=>zxb P as ks (R.erase j) st' K
 | pre,i::R,hg,hj,hn,st,⟨ai,hai,hs⟩=>by
   by_cases hij:i=j
   · subst hij
     refine ⟨ai,hai,?_⟩
     rw [List.erase_cons_head]
     exact zik zsh (zxc (hnk _ _ hai) hs)
   · have hjR:j∈R:=by
      rcases List.mem_cons.1 hj with h|h
      · exact absurd h.symm hij
      · exact h
     simp only [zc0,Bool.and_eq_true,List.all_eq_true] at hg
     have hp:=hg.1 j hjR
     simp only [zoc,hn i List.mem_cons_self hij,Bool.false_or,hai,Bool.and_eq_true] at hp
     obtain ⟨hki,hp⟩:=hp
     have hki':zm6 ks i=[]:=by simpa using hki
     have hsi:zaf P ai st.1 st.2.1 st.2.2.1 st.2.2.2 fun st1=>zxb P as ks R st1 K:=by
      rw [hki'] at hs
      simpa [zs4] using hs
     cases haj:as[j]? with
     | none=>simp [haj] at hp
     | some aj =>
      simp only [haj,Bool.or_eq_true,Bool.and_eq_true] at hp
      refine ⟨aj,rfl,?_⟩
      have h1:zaf P ai st.1 st.2.1 st.2.2.1 st.2.2.2 fun st1=>zaf P (aj.kp (zgm as ((zm6 ks j).filter fun x=>(i::pre).contains x))) st1.1 st1.2.1 st1.2.2.1 st1.2.2.2 fun st2=>zxb P as ks (R.erase j) st2 K :=
       zdg (fun st1 h1=>by
        obtain ⟨aj',e,h2⟩:=zzd hnk hg.2 hjR (fun i hi=>hn i (List.mem_cons_of_mem _ hi)) h1
        rw [haj] at e
        cases e
        exact h2) hsi
      rw [List.erase_cons_tail (by simpa using hij)]
      have done:(zaf P (aj.kp (zgm as ((zm6 ks j).filter fun x=>pre.contains x))) st.1 st.2.1 st.2.2.1 st.2.2.2 fun st3=>zaf P ai st3.1 st3.2.1 st3.2.2.1 st3.2.2.2 fun st2=>zxb P as ks (R.erase j) st2 K) →
       zaf P (aj.kp (zgm as ((zm6 ks j).filter fun x=>pre.contains x))) st.1 st.2.1 st.2.2.1 st.2.2.2 fun st'=>zxb P as ks (i::R.erase j) st' K:=fun h2 =>
       zdg (fun st3 h3=>⟨ai,hai,by rw [hki'];simpa [zs4] using h3⟩) h2
      refine done ?_
      rcases hp with ⟨⟨hda,hdj⟩,⟨hsep,hls⟩|⟨hin,hrace⟩⟩|⟨hkj,hnew⟩
      · have h1':=zdg (fun st1 h=>zik zt8 h) h1
        rcases hls with he|hu
        · have he':(zm6 ks j).filter (fun x=>pre.contains x)=[]:=by simpa using he
          rw [he'] at h1' ⊢
          exact ze5 (hnk _ _ haj) (zt3 (c:=⟨P,0,[],true,[],[],true⟩) hsep hda (zdg (fun st1 h=>ze4 (hnk _ _ haj) h) h1'))
        · exact zt5 hsep hda (by simpa using hu) hdj h1'
      · simp only [zvf,Bool.and_eq_true] at hrace
        obtain ⟨⟨⟨⟨⟨hr,hg2⟩,hsn⟩,hw1⟩,hw2⟩,hw3⟩:=hrace
        obtain ⟨r,hr⟩:=Option.isSome_iff_exists.1 hr
        have hsb:aj.sites=some ([],[]):=by
         unfold zob at hsn
         split at hsn
         · assumption
         · cases hsn
        have hgd:ai.guard=none∨ai.guard=aj.guard:=by
         simp only [Bool.or_eq_true] at hg2
         rcases hg2 with h|h
         · exact .inl (by simpa using h)
         · exact .inr (by simpa using h)
        rw [hr] at hw3
        refine zt7 hr hgd hsb hw1 hw2 (by simpa using hw3) ?_ zt8 hdj h1
        simp only [zgm,List.mem_filterMap]
        exact ⟨i,List.mem_filter.2 ⟨by simpa using hin,by simp⟩,by rw [hai];exact hr⟩
      · have hkj':zm6 ks j=[]:=by simpa using hkj
        rw [hkj'] at h1 ⊢
        simp only [List.filter_nil] at h1 ⊢
        exact ze5 (hnk _ _ haj) (zxa hnew (zdg (fun st1 h=>ze4 (hnk _ _ haj) h) h1))
theorem zsi {ms:List Nat} {as:List AI} {ks:List (Nat×List Nat)} {pre pre':List Nat} (hs:∀ x∈pre',x∈pre) {i j:Nat} (h:zoc ms as ks pre i j=true):zoc ms as ks pre' i j=true:=by
 unfold zoc at h ⊢
 simp only [Bool.or_eq_true,Bool.and_eq_true] at h ⊢
 rcases h with h|⟨h1,h2⟩
 · exact .inl h
 · refine .inr ⟨h1,?_⟩
   split at h2
   · rename_i a b ha hb
     simp only [Bool.or_eq_true,Bool.and_eq_true] at h2 ⊢
     rcases h2 with ⟨⟨hd,hj⟩,h3⟩|h4
     · left
       have sub:∀ x∈(zm6 ks j).filter (fun x=>pre'.contains x),x∈(zm6 ks j).filter (fun x=>pre.contains x):=by
        intro x hx
        obtain ⟨q1,q2⟩:=List.mem_filter.1 hx
        refine List.mem_filter.2 ⟨q1,?_⟩
        simp only [List.contains_eq_mem,decide_eq_true_eq] at q2 ⊢
        exact hs x q2
       refine ⟨⟨hd,zc6 hj (fun _ h=>h) fun t ht=>?_⟩,?_⟩
       · simp only [zfh,zgm,List.mem_flatMap,List.mem_filterMap] at ht ⊢
         obtain ⟨r,⟨k,hk,e⟩,ht⟩:=ht
         exact ⟨r,⟨k,sub k hk,e⟩,ht⟩
       · rcases h3 with ⟨q1,q2|q2⟩|q
         · refine .inl ⟨q1,.inl ?_⟩
           have e:(zm6 ks j).filter (fun x=>pre.contains x)=[]:=by simpa using q2
           rw [e] at sub
           have:(zm6 ks j).filter (fun x=>pre'.contains x)=[]:=List.eq_nil_iff_forall_not_mem.2 fun x hx=>by have:=sub x hx;simp at this
           rw [this];rfl
         · exact .inl ⟨q1,.inr q2⟩
         · exact .inr q
     · exact .inr h4
   · cases h2
theorem zjq {ms:List Nat} {as:List AI} {ks:List (Nat×List Nat)}:∀ {pre pre' R:List Nat},(∀ x∈pre',x∈pre)→zc0 ms as ks pre R=true→zc0 ms as ks pre' R=true
 | _,_,[],_,h=>h
 | pre,pre',i::R,hs,h=>by
   simp only [zc0,Bool.and_eq_true,List.all_eq_true] at h ⊢
   exact ⟨fun k hk=>zsi hs (h.1 k hk),zjq (fun x hx=>by rcases List.mem_cons.1 hx with rfl|hx;exact List.mem_cons_self;exact List.mem_cons_of_mem _ (hs x hx)) h.2⟩
theorem zg0 {ms:List Nat} {as:List AI} {ks:List (Nat×List Nat)} {j:Nat}:∀ {pre R:List Nat},zc0 ms as ks pre R=true→zc0 ms as ks pre (R.erase j)=true
 | _,[],h=>h
 | pre,i::R,h=>by
   simp only [zc0,Bool.and_eq_true,List.all_eq_true] at h
   by_cases hij:i=j
   · subst hij;rw [List.erase_cons_head];exact zjq (fun x hx=>List.mem_cons_of_mem _ hx) h.2
   · rw [List.erase_cons_tail (by simpa using hij)]
     simp only [zc0,Bool.and_eq_true,List.all_eq_true]
     exact ⟨fun k hk=>h.1 k (List.mem_of_mem_erase hk),zg0 h.2⟩
theorem zg1 {ops:Array Oper} {j:Nat}:∀ {R:List Nat},zfi ops R=true→zfi ops (R.erase j)=true
 | [],h=>h
 | i::R,h=>by
   simp only [zfi,Bool.and_eq_true] at h
   by_cases hij:i=j
   · subst hij;rw [List.erase_cons_head];exact h.2
   · rw [List.erase_cons_tail (by simpa using hij)]
     simp only [zfi,Bool.and_eq_true]
     refine ⟨?_,zg1 h.2⟩
     have h1:=h.1
     split at h1
     · rw [Array.all_eq_true] at h1 ⊢
       intro k hk
       have:=h1 k hk
       simp only [Bool.or_eq_true,Bool.and_eq_true,Bool.not_eq_true',List.contains_eq_mem,decide_eq_false_iff_not,List.mem_cons,not_or] at this ⊢
       rcases this with h|⟨h,h2,h3⟩
       · exact .inl h
       · exact .inr ⟨h,h2,fun hm=>h3 (List.mem_of_mem_erase hm)⟩
     · cases h1
end Go.E2
namespace Go.E2
section
variable {P:Program} {S:Stb} {ms:List (Nat→Nat)} {ow:Nat→Option Nat} {base:Nat} {O:Nat→Prop} {ρ:Env} {L:Hp} {σ:List Hp} {G:Gh} {a:Act} {w:World}
theorem zsj {ops:Array Oper} {listed:Array Bool} (hcl:∀ m o,ops[m]?=some o→listed.getD m true=true→∀ e∈o.after,Region.binds .any e=true→listed.getD e.on true=true) {i:Nat} (hi:listed.getD i true=false) {j:Nat} (hd:Dep ops i j) :
 (∀ o,ops[j]?=some o→∀ e∈o.after,Region.binds .any e=true→listed.getD e.on true=true)→False:=by
 induction hd with
 | direct h he hb hx =>
  intro hall
  have:=hall _ h _ he hb
  rw [hx,hi] at this;cases this
 | step h he hb hd ih =>
  intro hall
  have hl:=hall _ h _ he hb
  exact ih fun o ho e' he' hb'=>hcl _ o ho hl e' he' hb'
theorem zg2 {l:Array Bool} {i:Nat} (h:l.getD i false=true):l.getD i true=true:=by
 simp only [Array.getD_eq_getD_getElem?] at h ⊢
 cases hq:l[i]? with
 | none=>rfl
 | some b=>rw [hq] at h;exact h
theorem zsk {c:Ctx} {ops:Array Oper} {o:Oper} {ai:AI} (h:zpy c ops o=some ai):∀ (ls:List RL) (op:AOp),ai.op≠.kp ls op:=by
 intro ls op e
 obtain ⟨hop,_⟩:=zjl h
 rw [e] at hop
 rcases zej hop with hop|⟨_,e⟩|⟨e,_⟩
 · rcases zfp hop with ⟨_,_,e⟩|⟨_,_,e⟩<;>cases e
 · cases e
 · cases e
theorem zjr {c:Ctx} {ops:Array Oper} {as:List AI} (hc:zf8 c ops ops.toList=some as):∀ (i:Nat) (a:AI),as[i]?=some a→∀ (ls:List RL) (op:AOp),a.op≠.kp ls op:=by
 intro i a ha
 obtain ⟨hl,hg⟩:=zhq hc
 have hi:i<ops.toList.length:=by rw [← hl];exact (List.getElem?_eq_some_iff.1 ha).1
 obtain ⟨a',ha',hco⟩:=hg i ops.toList[i] (List.getElem?_eq_getElem hi)
 rw [ha] at ha'
 cases ha'
 exact zsk hco
theorem zqr [DD] {c:Ctx} {rd:Option Nat} {ops:Array Oper} {as:List AI} {ks:List (Nat×List Nat)} (hc:zf8 c ops ops.toList=some as) {Q:Exit→Act→World→Prop} {K':St→Prop}:∀ (n:Nat) (R:List Nat) (listed:Array Bool),R.length=n→R.Nodup→listed.size=ops.size →
 (∀ j,j<ops.size→(listed.getD j true=false↔j∈R))→(∀ j∈R,j<ops.size)→zc0 (zoa ops.toList []) as ks [] R=true→zfi ops R=true →
 (∀ m o,ops[m]?=some o→listed.getD m true=true→∀ e∈o.after,Region.binds .any e=true→listed.getD e.on true=true) →
 ∀ {S:Stb} {ms:List (Nat→Nat)} {ow:Nat→Option Nat} {a:Act} {w:World} {st:St},Rel S ms ow base O st.1 st.2.1 st.2.2.1 st.2.2.2 a w→c.nt≤a.tmps.size→zxb c.P as ks R st K' →
 (∀ st' a' w',K' st'→zbf S ms base O st.2.2.1 a w st' a' w'→Q .normal a' w')→wpAnyIn (FW rd) 0 c.P .any ops Q n listed a w
 | 0,R,listed,hlen,hnd,hsz,hun,hlt,hgo,hto,hcl,S,ms,ow,a,w,st,h,hnt,hr,hQ=>by
   have hR:R=[]:=List.eq_nil_of_length_eq_zero hlen
   subst hR
   refine ⟨?_,hQ _ _ _ hr (zbf.refl h)⟩
   apply List.eq_nil_iff_forall_not_mem.2
   intro j hj
   obtain ⟨hju,oj,hoj,_⟩:=mem_ready.1 hj
   have:=(hun j (Array.getElem?_eq_some_iff.1 hoj).1).1 hju
   simp at this
 | n+1,R,listed,hlen,hnd,hsz,hun,hlt,hgo,hto,hcl,S,ms,ow,a,w,st,h,hnt,hr,hQ=>by
   refine ⟨fun hnil=>?_,fun j hj=>?_⟩
   · -- the first of 'R' is ready
     exfalso
     cases R with
     | nil=>simp at hlen
     | cons i R =>
      have hilt:=hlt i List.mem_cons_self
      simp only [zfi,Bool.and_eq_true] at hto
      have h1:=hto.1
      have hoi:ops[i]?=some ops[i]:=by simp [hilt]
      rw [hoi] at h1
      simp only at h1
      rw [Array.all_eq_true] at h1
      have:i∈Region.ready .any ops listed:=by
       refine mem_ready.2 ⟨(hun i hilt).2 List.mem_cons_self,ops[i],hoi,fun e he hb=>?_⟩
       obtain ⟨k,hk,rfl⟩:=Array.mem_iff_getElem.1 he
       have h2:=h1 k hk
       simp only [hb,Bool.not_true,Bool.false_or,Bool.and_eq_true,decide_eq_true_eq,Bool.not_eq_true',List.contains_eq_mem,decide_eq_false_iff_not] at h2
       have h3:listed.getD (ops[i].after[k]).on true≠false:=fun hf=>h2.2 ((hun _ h2.1).1 hf)
       have hlt2:(ops[i].after[k]).on<listed.size:=by rw [hsz];exact h2.1
       simp only [Array.getD_eq_getD_getElem?,Array.getElem?_eq_getElem hlt2,Option.getD_some] at h3 ⊢
       simpa using h3
      rw [hnil] at this
      cases this
   · obtain ⟨hju,oj,hoj,hdeps⟩:=mem_ready.1 hj
     have hjlt:=(Array.getElem?_eq_some_iff.1 hoj).1
     have hjR:=(hun j hjlt).1 hju
     have hnot:∀ i∈R,i≠j→((zoa ops.toList []).getD j 0).testBit i=false:=by
      intro i hi _
      cases hb:((zoa ops.toList []).getD j 0).testBit i with
      | false=>rfl
      | true =>
       exfalso
       have hd:=zqq (ops:=ops) (i:=i) ops.toList [] rfl (fun k hk=>by simp at hk) j hb
       refine zsj hcl ((hun i (hlt i hi)).2 hi) hd fun o ho e he hbe=>?_
       rw [hoj] at ho
       cases ho
       exact zg2 (hdeps e he hbe)
     obtain ⟨aj,haj,hs⟩:=zzd (zjr hc) hgo hjR hnot hr
     have hs:=ze4 (zjr hc j aj haj) hs
     obtain ⟨hlen2,hget⟩:=zhq hc
     obtain ⟨aj',haj',hco⟩:=hget j oj (by simpa using hoj)
     rw [haj] at haj'
     cases haj'
     refine z3g h hoj hco hnt hs fun st1 a1 w1 hk1 ha1=>?_
     have hsz1:=ha1.sz
     have ha1':=ha1
     obtain ⟨⟨S',m',ow',hr1,he1⟩,hs1,hz1⟩:=ha1'
     have hjl:j<listed.size:=by rw [hsz];exact hjlt
     refine zqr hc n (R.erase j) (listed.setIfInBounds j true) (by rw [List.length_erase_of_mem hjR,hlen];rfl) (hnd.erase j) (by simpa using hsz) (fun k hk=>?_) (fun k hk=>hlt k (List.mem_of_mem_erase hk)) (zg0 hgo) (zg1 hto) (fun m o ho hm e he hb=>?_) hr1 (by rw [hsz1];exact hnt) hk1 fun st' a' w' hk' ha'=>?_
     · by_cases hkj:j=k
       · subst hkj
         constructor
         · intro hf
           simp [hjl] at hf
         · intro hm
           exact absurd hm (List.Nodup.not_mem_erase hnd)
       · rw [getD_set_ne true hkj,hun k hk]
         exact (List.mem_erase_of_ne (Ne.symm hkj)).symm
     · by_cases hej:j=e.on
       · rw [← hej];simp [hjl]
       · rw [getD_set_ne true hej]
         by_cases hmj:j=m
         · subst hmj
           rw [hoj] at ho
           cases ho
           exact zg2 (hdeps e he hb)
         · rw [getD_set_ne true hmj] at hm
           exact hcl m o ho hm e he hb
     · obtain ⟨⟨S'',m'',ow'',hr2,he2⟩,hs2,hz2⟩:=ha'
       exact hQ _ _ _ hk' ⟨⟨S'',m'',ow'',by simpa using hr2,he1.trans he2⟩,hs1.trans hs2,hz2.trans hz1⟩
theorem zt9 [DD] {rd:Option Nat} (hm:P.follows .mixedOrders=true) {gs:List Nat} {nt:Nat} {defs:List Oper} {id:Nat} {ops:Array Oper} {draw:Bool} {d:Bool} {as:List AI}
 (hc:zai P gs nt defs (.region id ops draw)=some (.reg d as)) (h:Rel S ms ow base O ρ L σ G a w) (hnt:nt≤a.tmps.size) {K':St→Prop} (hr:zaq P as ρ L σ G K') {Q:Exit→Act→World→Prop}
 (hQ:∀ st a' w',K' st→zbf S ms base O σ a w st a' w'→Q .normal a' w'):(Code.region id ops draw).wpIn (FW rd) 0 P Q a w:=by
 simp only [zai] at hc
 split at hc
 · rename_i as' hco
   cases draw with
   | false =>
    simp at hc
    obtain ⟨rfl,rfl⟩:=hc
    refine wpIn_region ?_
    have:=zy9 (rd:=rd) (Q:=Q) ops.toList as' 0 (fun j=>by simp) hco h hnt hr hQ
    rw [List.range_eq_range']
    simpa using this
   | true =>
    simp only [if_true] at hc
    split at hc
    · rename_i hok
      simp only [Option.map_eq_some_iff] at hc
      obtain ⟨l,hl,he⟩:=hc
      cases he
      simp only [z5k,Bool.and_eq_true,beq_iff_eq,decide_eq_true_eq,List.all_eq_true] at hok
      obtain ⟨⟨⟨⟨⟨⟨h1,h2⟩,h0⟩,h3⟩,_⟩,h5⟩,h6⟩:=hok
      have hperm:∀ j,j<ops.size→j∈zj9 ops as' ops.size (List.range ops.size):=fun j hj=>by
       have:=h0 j (List.mem_range.2 hj)
       simpa using this
      refine wpIn_region_any hm ?_
      refine zqr hco ops.size _ _ h1 h2 (by simp) (fun j hj=>⟨fun _=>hperm j hj,fun _=>by simp [hj]⟩) h3 h6 h5 (fun m o ho hmt e he hb=>?_) (h.drawn (w.drawn+1)) hnt (zil hl (st:=(ρ,L,σ,G)) hr) fun st a' w' hk ha=>hQ _ _ _ hk ?_
      · have hml:=(Array.getElem?_eq_some_iff.1 ho).1
        simp [hml] at hmt
      · obtain ⟨⟨S',m',ow',hr1,he1⟩,hs1,hz1⟩:=ha
        exact ⟨⟨S',m',ow',hr1,he1.drawn _⟩,hs1,hz1⟩
    · cases hc
 · cases hc
end
end Go.E2
