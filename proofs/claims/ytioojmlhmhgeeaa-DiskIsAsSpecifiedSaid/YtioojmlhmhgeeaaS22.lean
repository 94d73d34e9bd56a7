/-
 Layer 21 (disk): what a disk is and does,as plain mathematics: of no program.
 Conditions: of each law as it says.
-/
import Init
namespace C22
abbrev Sec:={l:List UInt8 // l.length=64}
def z0:Sec:=⟨List.replicate 64 0,by simp⟩
structure Cel where
 s:Sec
 bad:Bool
 op:List Sec
 deriving DecidableEq
structure Dk where
 cs:List Cel
 steps:Int
 after:Int
 dead:Bool
 deriving DecidableEq
def freshC:Cel:=⟨z0,false,[]⟩
def fresh (n:Nat):Dk:=⟨List.replicate n freshC,0,-1,false⟩
structure Okd (d:Dk):Prop where
 pos:1≤d.cs.length
 most:d.cs.length≤65536
 rot:∀ c ∈ d.cs,c.bad=true→c.s=z0
 st:0≤d.steps∧d.steps≤2000000000
 few:∀ c ∈ d.cs,(c.op.length:Int)≤d.steps
 aft:-1≤d.after∧d.after≤9223372036854775807
def opAt (d:Dk) (i:Int):List Sec:=if i < 0 then [] else ((d.cs[i.toNat]?).map (·.op)).getD []
def chk (d:Dk) (i:Int):Int:=if d.dead=true then 12 else if i < 0∨(d.cs.length:Int)≤i then 1 else 0
def celRd (c:Cel):Sec × Int:=match c.op.getLast? with|some s=>(s,0)|none=>if c.bad=true then (z0,14) else (c.s,0)
def rd (d:Dk) (i:Int):Sec × Int:=if chk d i ≠ 0 then (z0,chk d i) else match d.cs[i.toNat]? with|some c=>celRd c|none=>(z0,0)
def stp (d:Dk):Dk × Int:=if d.after=0 then ({ d with dead:=true },12) else ({ d with after:=if 0 < d.after then d.after - 1 else d.after,steps:=d.steps + 1 },0)
def wr (d:Dk) (i:Int) (s:Sec):Dk × Int :=
 if chk d i ≠ 0 then (d,chk d i) else
 if (stp d).2 ≠ 0 then stp d else
 ({ (stp d).1 with cs:=d.cs.modify i.toNat fun c=>{ c with op:=c.op ++ [s] } },0)
def syC (c:Cel):Cel:=match c.op.getLast? with|some s=>⟨s,false,[]⟩|none=>c
def sy (d:Dk):Dk × Int :=
 if d.dead=true then (d,12) else
 if (stp d).2 ≠ 0 then stp d else
 ({ (stp d).1 with cs:=d.cs.map syC },0)
def arm (d:Dk) (n:Int):Dk:={ d with after:=max n (-1) }
def torn (before out:Sec):Sec:=⟨out.1.take 32 ++ before.1.drop 32,by simp [out.2,before.2]⟩
def remOf (n:Nat) (x:Int):Int:=(x.tmod (n + 3) + n + 3).tmod (n + 3)
def kept (c:Cel) (x:Int):Cel :=
 if remOf c.op.length x=0 then ⟨c.s,c.bad,[]⟩ else
 if remOf c.op.length x≤c.op.length then ⟨(c.op[(remOf c.op.length x).toNat - 1]?).getD z0,false,[]⟩ else
 if remOf c.op.length x=c.op.length + 1 then ⟨z0,true,[]⟩ else
 ⟨torn (if 1 < c.op.length then (c.op[c.op.length - 2]?).getD z0 else c.s) ((c.op[c.op.length - 1]?).getD z0),false,[]⟩
def keepAt (keep:List Int) (n:Nat):Int:=if keep=[] then 0 else (keep[n % keep.length]?).getD 0
def crashL (keep:List Int):List Cel→Nat→List Cel
 | [],_=>[]
 | c::l,n=>if c.op=[] then c::crashL keep l n else kept c (keepAt keep n)::crashL keep l (n + 1)
def crash (d:Dk) (keep:List Int):Dk:=⟨crashL keep d.cs 0,0,-1,false⟩
def flipS (s:Sec) (bit:Nat):Sec:=⟨s.1.modify (bit / 8) fun b=>b ^^^ (1 <<< UInt8.ofNat (bit % 8)),by simp [s.2]⟩
def flp (d:Dk) (i bit:Int):Dk × Int :=
 if chk d i ≠ 0 then (d,chk d i) else
 if bit < 0∨512≤bit then (d,1) else
 ({ d with cs:=d.cs.modify i.toNat fun c=>if c.bad=true then c else { c with s:=flipS c.s bit.toNat } },0)
def rot (d:Dk) (i:Int):Dk × Int :=
 if chk d i ≠ 0 then (d,chk d i) else
 ({ d with cs:=d.cs.modify i.toNat fun c=>{ c with s:=z0,bad:=true } },0)
def openL (d:Dk):List Int:=(List.range d.cs.length).flatMap fun (i:Nat)=>List.replicate (opAt d (i:Int)).length (i:Int)
def opened (d:Dk):List Int:=((List.range d.cs.length).filter fun (i:Nat)=>decide (opAt d (i:Int) ≠ [])).map fun (i:Nat)=>(i:Int)
theorem okd_fresh {n:Nat} (h1:1≤n) (h2:n≤65536):Okd (fresh n):=by
 refine ⟨by simpa [fresh] using h1,by simpa [fresh] using h2,fun c hc=>?_,by simp [fresh],fun c hc=>?_,by simp [fresh]⟩
 · obtain rfl:=(List.mem_replicate.1 hc).2; simp [freshC]
 · obtain rfl:=(List.mem_replicate.1 hc).2; simp [freshC,fresh]
theorem mem_modify {α:Type} {l:List α} {k:Nat} {f:α→α} {x:α} (h:x ∈ l.modify k f):x ∈ l∨∃ y ∈ l,x=f y:=by
 obtain ⟨i,hi,rfl⟩:=List.getElem_of_mem h
 rw [List.length_modify] at hi
 rw [List.getElem_modify]
 split
 · exact .inr ⟨_,List.getElem_mem hi,rfl⟩
 · exact .inl (List.getElem_mem hi)
theorem chk_zero {d:Dk} {i:Int} (h:chk d i=0):d.dead=false∧0≤i∧i < d.cs.length:=by
 unfold chk at h
 split at h
 · cases h
 · split at h
   · cases h
   · rename_i h1 h2; exact ⟨by simpa using h1,by omega,by omega⟩
theorem stp_ok {d:Dk} (h:Okd d) (hn:d.steps≤1000000000):Okd (stp d).1∧(stp d).1.steps≤d.steps + 1∧d.steps≤(stp d).1.steps∧(stp d).1.cs=d.cs:=by
 unfold stp
 split
 · exact ⟨⟨h.pos,h.most,h.rot,h.st,h.few,h.aft⟩,by simp; omega,by simp,rfl⟩
 · refine ⟨⟨h.pos,h.most,h.rot,by have:=h.st; simp; omega,fun c hc=>by have:=h.few c hc; simp; omega,?_⟩,by simp,by simp; omega,rfl⟩
   have:=h.aft
   simp only
   split<;>omega
theorem wr_ok {d:Dk} (h:Okd d) (hn:d.steps≤1000000000) (i:Int) (s:Sec):Okd (wr d i s).1∧(wr d i s).1.steps≤d.steps + 1:=by
 unfold wr
 obtain ⟨h1,h2,h3,h4⟩:=stp_ok h hn
 split
 · exact ⟨h,by simp; omega⟩
 · split
   · exact ⟨h1,h2⟩
   · rename_i hs
     have hst:(stp d).1.steps=d.steps + 1:=by
      revert hs; unfold stp; split
      · simp
      · simp
     refine ⟨⟨by simpa using h.pos,by simpa using h.most,fun c hc=>?_,h1.st,fun c hc=>?_,h1.aft⟩,h2⟩
     · rcases mem_modify hc with hc|⟨y,hy,rfl⟩
       · exact h.rot c hc
       · exact h.rot y hy
     · simp only [hst]
       rcases mem_modify hc with hc|⟨y,hy,rfl⟩
       · have:=h.few c hc; omega
       · have:=h.few y hy; simp; omega
theorem sy_ok {d:Dk} (h:Okd d) (hn:d.steps≤1000000000):Okd (sy d).1∧(sy d).1.steps≤d.steps + 1:=by
 unfold sy
 obtain ⟨h1,h2,h3,h4⟩:=stp_ok h hn
 split
 · exact ⟨h,by simp; omega⟩
 · split
   · exact ⟨h1,h2⟩
   · refine ⟨⟨by simpa using h.pos,by simpa using h.most,fun c hc=>?_,h1.st,fun c hc=>?_,h1.aft⟩,h2⟩
     · obtain ⟨y,hy,rfl⟩:=List.mem_map.1 hc
       unfold syC; split
       · simp
       · exact h.rot y hy
     · obtain ⟨y,hy,rfl⟩:=List.mem_map.1 hc
       have:=h.few y hy
       have:=h1.st
       unfold syC; split
       · simpa using h1.st.1
       · rename_i hn
         rw [List.getLast?_eq_none_iff] at hn
         simp only [hn,List.length_nil]
         exact h1.st.1
theorem arm_ok {d:Dk} (h:Okd d) {n:Int} (hn:n≤9223372036854775807):Okd (arm d n) :=
 ⟨h.pos,h.most,h.rot,h.st,h.few,by simp only [arm]; omega⟩
theorem kept_ok {c:Cel} (h:c.bad=true→c.s=z0) (x:Int):((kept c x).bad=true→(kept c x).s=z0)∧(kept c x).op=[]:=by
 unfold kept
 split
 · exact ⟨h,rfl⟩
 · split
   · exact ⟨by simp,rfl⟩
   · split
     · exact ⟨by simp,rfl⟩
     · exact ⟨by simp,rfl⟩
theorem crashL_len (keep:List Int):∀ (l:List Cel) (n:Nat),(crashL keep l n).length=l.length
 | [],_=>rfl
 | c::l,n=>by unfold crashL; split<;>simp [crashL_len keep l]
theorem crashL_mem {keep:List Int}:∀ {l:List Cel} {n:Nat},(∀ c ∈ l,c.bad=true→c.s=z0)→∀ c ∈ crashL keep l n,(c.bad=true→c.s=z0)∧c.op=[]
 | [],_,_,c,hc=>by simp [crashL] at hc
 | a::l,n,h,c,hc=>by
   unfold crashL at hc
   split at hc
   · rename_i e
     rcases List.mem_cons.1 hc with rfl|hc
     · exact ⟨h _ List.mem_cons_self,e⟩
     · exact crashL_mem (fun c hc=>h c (List.mem_cons_of_mem _ hc)) c hc
   · rcases List.mem_cons.1 hc with rfl|hc
     · exact kept_ok (h a List.mem_cons_self) _
     · exact crashL_mem (fun c hc=>h c (List.mem_cons_of_mem _ hc)) c hc
theorem crash_ok {d:Dk} (h:Okd d) (keep:List Int):Okd (crash d keep)∧∀ c ∈ (crash d keep).cs,c.op=[] :=
 ⟨⟨by simp only [crash,crashL_len]; exact h.pos,by simp only [crash,crashL_len]; exact h.most,fun c hc=>(crashL_mem h.rot c hc).1,by simp [crash],fun c hc=>by rw [(crashL_mem h.rot c hc).2]; simp [crash],by simp [crash]⟩,
   fun c hc=>(crashL_mem h.rot c hc).2⟩
theorem flp_ok {d:Dk} (h:Okd d) (i bit:Int):Okd (flp d i bit).1∧(flp d i bit).1.steps=d.steps:=by
 unfold flp
 split
 · exact ⟨h,rfl⟩
 · split
   · exact ⟨h,rfl⟩
   · refine ⟨⟨by simpa using h.pos,by simpa using h.most,fun c hc=>?_,h.st,fun c hc=>?_,h.aft⟩,rfl⟩
     · rcases mem_modify hc with hc|⟨y,hy,rfl⟩
       · exact h.rot c hc
       · by_cases hb:y.bad=true
         · rw [if_pos hb]; exact h.rot y hy
         · rw [if_neg hb]; intro e; exact absurd e hb
     · rcases mem_modify hc with hc|⟨y,hy,rfl⟩
       · exact h.few c hc
       · have:=h.few y hy
         split<;>simpa using this
theorem rot_ok {d:Dk} (h:Okd d) (i:Int):Okd (rot d i).1∧(rot d i).1.steps=d.steps:=by
 unfold rot
 split
 · exact ⟨h,rfl⟩
 · refine ⟨⟨by simpa using h.pos,by simpa using h.most,fun c hc=>?_,h.st,fun c hc=>?_,h.aft⟩,rfl⟩
   · rcases mem_modify hc with hc|⟨y,hy,rfl⟩
     · exact h.rot c hc
     · simp
   · rcases mem_modify hc with hc|⟨y,hy,rfl⟩
     · exact h.few c hc
     · have:=h.few y hy; simpa using this
theorem opAt_get {d:Dk} {i:Nat} (h:i < d.cs.length):opAt d i=d.cs[i].op:=by
 unfold opAt
 rw [if_neg (by omega)]
 simp [h]
theorem opAt_out {d:Dk} {i:Int} (h:i < 0∨(d.cs.length:Int)≤i):opAt d i=[]:=by
 unfold opAt
 split
 · rfl
 · rw [List.getElem?_eq_none (by omega)]; rfl
theorem opAt_in {d:Dk} {i:Int} (h:opAt d i ≠ []):0≤i∧i < d.cs.length:=by
 apply Classical.byContradiction
 intro hn
 exact h (opAt_out (by omega))
end C22
/-
 Layer 21 (disk): a failure,sector by sector,as plain mathematics.
 Conditions: of each law as it says.
-/
namespace C22
theorem filter_idx (p:Nat→Bool):∀ (n t i:Nat),((List.range n).filter p)[t]?=some i↔i < n∧p i=true∧t=((List.range i).filter p).length
 | 0,t,i=>by simp
 | n + 1,t,i=>by
   have ih:=filter_idx p n t i
   rw [List.range_succ,List.filter_append,List.getElem?_append]
   split
   · rename_i h
     rw [ih]
     constructor
     · rintro ⟨h1,h2,h3⟩; exact ⟨by omega,h2,h3⟩
     · rintro ⟨h1,h2,h3⟩
       refine ⟨?_,h2,h3⟩
       rcases Nat.lt_or_ge i n with h4|h4
       · exact h4
       · have:i=n:=by omega
         subst this; omega
   · rename_i h
     by_cases hp:p n=true
     · rw [List.filter_cons_of_pos hp,List.filter_nil]
       constructor
       · intro he
         obtain ⟨h1,h2⟩:=List.getElem?_eq_some_iff.1 he
         simp only [List.length_cons,List.length_nil] at h1
         have h3:t - ((List.range n).filter p).length=0:=by omega
         simp only [h3,List.getElem_cons_zero] at h2
         subst h2
         exact ⟨by omega,hp,by omega⟩
       · rintro ⟨h1,h2,h3⟩
         have hin:i=n:=by
          rcases Nat.lt_or_ge i n with h4|h4
          · exfalso
            have:=(filter_idx p n t i).2 ⟨h4,h2,h3⟩
            have:=(List.getElem?_eq_some_iff.1 this).1
            omega
          · omega
         subst hin
         rw [h3]; simp
     · rw [List.filter_cons_of_neg hp,List.filter_nil]
       constructor
       · intro he; simp at he
       · rintro ⟨h1,h2,h3⟩
         exfalso
         rcases Nat.lt_or_ge i n with h4|h4
         · have:=(filter_idx p n t i).2 ⟨h4,h2,h3⟩
           have:=(List.getElem?_eq_some_iff.1 this).1
           omega
         · have:i=n:=by omega
           subst this; exact hp h2
def isOpen (d:Dk) (k:Nat):Bool:=decide (opAt d (k:Int) ≠ [])
def rankO (d:Dk) (i:Nat):Nat:=((List.range i).filter (isOpen d)).length
def celAt (d:Dk) (i:Nat):Cel:=(d.cs[i]?).getD freshC
def resC (d:Dk) (keep:List Int) (j i:Nat):Cel:=if opAt d i ≠ []∧rankO d i < j then kept (celAt d i) (keepAt keep (rankO d i)) else ⟨(celAt d i).s,(celAt d i).bad,[]⟩
def resL (d:Dk) (keep:List Int) (j:Nat):List Cel:=(List.range d.cs.length).map (resC d keep j)
theorem resL_len (d:Dk) (keep:List Int) (j:Nat):(resL d keep j).length=d.cs.length:=by simp [resL]
theorem celAt_get {d:Dk} {i:Nat} (h:i < d.cs.length):celAt d i=d.cs[i]:=by simp [celAt,h]
theorem opened_get {d:Dk} {j:Nat} {i:Int} (h:(opened d)[j]?=some i):∃ k:Nat,i=k∧k < d.cs.length∧opAt d k ≠ []∧j=rankO d k:=by
 unfold opened at h
 rw [List.getElem?_map,Option.map_eq_some_iff] at h
 obtain ⟨k,hk,rfl⟩:=h
 obtain ⟨h1,h2,h3⟩:=(filter_idx _ _ _ _).1 hk
 exact ⟨k,rfl,h1,by simpa using h2,h3⟩
theorem opened_rank {d:Dk} {k:Nat} (hk:k < d.cs.length) (h:opAt d k ≠ []):(opened d)[rankO d k]?=some (k:Int):=by
 unfold opened
 rw [List.getElem?_map,Option.map_eq_some_iff]
 exact ⟨k,(filter_idx _ _ _ _).2 ⟨hk,by simpa [isOpen] using h,rfl⟩,rfl⟩
theorem resL_zero (d:Dk) (keep:List Int):resL d keep 0=d.cs.map fun c=>⟨c.s,c.bad,[]⟩:=by
 apply List.ext_getElem
 · simp [resL]
 · intro i h1 h2
   have h:i < d.cs.length:=by simpa [resL] using h1
   simp [resL,resC,celAt_get h]
theorem resL_succ {d:Dk} {keep:List Int} {j k:Nat} (h:(opened d)[j]?=some (k:Int)):resL d keep (j + 1)=(resL d keep j).set k (kept (celAt d k) (keepAt keep j)):=by
 obtain ⟨k',e,hk,ho,hj⟩:=opened_get h
 have:k'=k:=by omega
 subst this
 apply List.ext_getElem
 · simp [resL]
 · intro i h1 h2
   have hi:i < d.cs.length:=by simpa [resL] using h1
   rw [List.getElem_set]
   simp only [resL,List.getElem_map,List.getElem_range]
   split
   · rename_i e2
     subst e2
     unfold resC
     rw [if_pos ⟨ho,by omega⟩,← hj]
   · rename_i e2
     unfold resC
     by_cases hoi:opAt d i ≠ []
     · have hne:rankO d i ≠ j:=by
        intro e3
        have:=opened_rank hi hoi
        rw [e3,h] at this
        simp only [Option.some.injEq] at this
        exact e2 (by omega)
       by_cases hl:rankO d i < j
       · rw [if_pos ⟨hoi,by omega⟩,if_pos ⟨hoi,hl⟩]
       · rw [if_neg (fun hh=>by have:=hh.2; omega),if_neg (fun hh=>hl hh.2)]
     · rw [if_neg (fun hh=>hoi hh.1),if_neg (fun hh=>hoi hh.1)]
theorem crashL_get {keep:List Int}:∀ {l:List Cel} {n i:Nat} (h:i < l.length),(crashL keep l n)[i]?=some (if l[i].op=[] then l[i] else kept l[i] (keepAt keep (n + ((l.take i).filter fun c=>decide (c.op ≠ [])).length)))
 | c::l,n,0,_=>by
   unfold crashL
   split
   · rename_i e; simp [e]
   · rename_i e; simp [e]
 | c::l,n,i + 1,h=>by
   have hi:i < l.length:=by simpa using h
   unfold crashL
   split
   · rename_i e
     rw [List.getElem?_cons_succ,crashL_get hi]
     simp [e]
   · rename_i e
     rw [List.getElem?_cons_succ,crashL_get hi]
     simp only [List.getElem_cons_succ,List.take_succ_cons]
     rw [List.filter_cons_of_pos (by simpa using e)]
     simp only [List.length_cons]
     congr 3
     congr 1
     omega
theorem rank_take (d:Dk):∀ i,i≤d.cs.length→rankO d i=((d.cs.take i).filter fun c=>decide (c.op ≠ [])).length
 | 0,_=>rfl
 | i + 1,h=>by
   have ih:=rank_take d i (by omega)
   have hi:i < d.cs.length:=by omega
   unfold rankO at ih ⊢
   rw [List.range_succ,List.filter_append,List.take_succ_eq_append_getElem hi,List.filter_append,List.length_append,List.length_append,ih]
   congr 1
   by_cases ho:d.cs[i].op=[]
   · rw [List.filter_cons_of_neg (by simp [isOpen,opAt_get hi,ho]),List.filter_cons_of_neg (by simp [ho])]; rfl
   · rw [List.filter_cons_of_pos (by simp [isOpen,opAt_get hi,ho]),List.filter_cons_of_pos (by simp [ho])]; rfl
theorem resL_end (d:Dk) (keep:List Int):resL d keep (opened d).length=crashL keep d.cs 0:=by
 apply List.ext_getElem?
 intro i
 rcases Nat.lt_or_ge i d.cs.length with h|h
 · rw [crashL_get h]
   simp only [resL,List.getElem?_map,List.getElem?_range h,Option.map_some,Option.some.injEq]
   unfold resC
   rw [celAt_get h,opAt_get h]
   by_cases ho:d.cs[i].op=[]
   · rw [if_neg (by simp [ho]),if_pos ho,← ho]
   · have hr:=opened_rank h (by rw [opAt_get h]; exact ho)
     have:=(List.getElem?_eq_some_iff.1 hr).1
     rw [if_pos ⟨ho,this⟩,if_neg ho,Nat.zero_add,rank_take d i (by omega)]
 · rw [List.getElem?_eq_none (by rw [resL_len]; exact h),List.getElem?_eq_none (by rw [crashL_len]; exact h)]
theorem resL_ok {d:Dk} (h:Okd d) (keep:List Int) (j:Nat):Okd ⟨resL d keep j,0,-1,false⟩∧∀ i,opAt ⟨resL d keep j,0,-1,false⟩ i=[]:=by
 have key:∀ c ∈ resL d keep j,(c.bad=true→c.s=z0)∧c.op=[]:=by
  intro c hc
  obtain ⟨i,hi,rfl⟩:=List.mem_map.1 hc
  have hil:=List.mem_range.1 hi
  unfold resC
  rw [celAt_get hil]
  split
  · exact kept_ok (h.rot _ (List.getElem_mem hil)) _
  · exact ⟨fun hb=>h.rot d.cs[i] (List.getElem_mem hil) hb,rfl⟩
 refine ⟨⟨by simp only [resL_len]; exact h.pos,by simp only [resL_len]; exact h.most,fun c hc=>(key c hc).1,by simp,fun c hc=>by rw [(key c hc).2]; simp,by simp⟩,fun i=>?_⟩
 unfold opAt
 split
 · rfl
 · cases hg:(resL d keep j)[i.toNat]? with
   | none=>rfl
   | some c=>exact (key c (List.mem_of_getElem? hg)).2
end C22
