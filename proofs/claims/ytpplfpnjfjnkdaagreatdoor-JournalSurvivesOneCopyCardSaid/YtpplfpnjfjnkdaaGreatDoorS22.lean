/-
 Layer 21 (disk): what a disk is and does,as plain mathematics: of no program.
 Conditions: of each law as it says.
-/
import Init
import Derived.Test.YtpplfpnjfjnkdaaGreatDoorS01
namespace C22
abbrev Str:=List UInt8
abbrev Sec:={l:List UInt8 // l.length=64}
def z0:Sec:=⟨List.replicate 64 0,by simp⟩
structure Cel where
 s:Sec
 bad:Bool
 op:List Sec
 deriving DecidableEq
structure Dk where
 cs:List Cel
 steps:Int
 after:Int
 dead:Bool
 deriving DecidableEq
def zlz:Cel:=⟨z0,false,[]⟩
def fresh (n:Nat):Dk:=⟨List.replicate n zlz,0,-1,false⟩
structure Okd (d:Dk):Prop where
 pos:1≤d.cs.length
 most:d.cs.length≤65536
 rot:∀ c∈d.cs,c.bad=true→c.s=z0
 st:0≤d.steps∧d.steps≤2000000000
 few:∀ c∈d.cs,(c.op.length:Int)≤d.steps
 aft:-1≤d.after∧d.after≤9223372036854775807
def zcl (d:Dk) (i:Int):List Sec:=if i<0 then [] else ((d.cs[i.toNat]?).map (·.op)).getD []
def chk (d:Dk) (i:Int):Int:=if d.dead=true then 12 else if i<0∨(d.cs.length:Int)≤i then 1 else 0
def celRd (c:Cel):Sec×Int:=match c.op.getLast? with|some s=>(s,0)|none=>if c.bad=true then (z0,14) else (c.s,0)
def rd (d:Dk) (i:Int):Sec×Int:=if chk d i≠0 then (z0,chk d i) else match d.cs[i.toNat]? with|some c=>celRd c|none=>(z0,0)
def stp (d:Dk):Dk×Int:=if d.after=0 then ({ d with dead:=true },12) else ({ d with after:=if 0<d.after then d.after - 1 else d.after,steps:=d.steps+1 },0)
def wr (d:Dk) (i:Int) (s:Sec):Dk×Int :=
 if chk d i≠0 then (d,chk d i) else
 if (stp d).2≠0 then stp d else
 ({ (stp d).1 with cs:=d.cs.modify i.toNat fun c=>{ c with op:=c.op++[s] } },0)
def syC (c:Cel):Cel:=match c.op.getLast? with|some s=>⟨s,false,[]⟩|none=>c
def sy (d:Dk):Dk×Int :=
 if d.dead=true then (d,12) else
 if (stp d).2≠0 then stp d else
 ({ (stp d).1 with cs:=d.cs.map syC },0)
def z9b (before out:Sec):Sec:=⟨out.1.take 32++before.1.drop 32,by simp [out.2,before.2]⟩
def remOf (n:Nat) (x:Int):Int:=(x.tmod (n+3)+n+3).tmod (n+3)
def kept (c:Cel) (x:Int):Cel :=
 if remOf c.op.length x=0 then ⟨c.s,c.bad,[]⟩ else
 if remOf c.op.length x≤c.op.length then ⟨(c.op[(remOf c.op.length x).toNat - 1]?).getD z0,false,[]⟩ else
 if remOf c.op.length x=c.op.length+1 then ⟨z0,true,[]⟩ else
 ⟨z9b (if 1<c.op.length then (c.op[c.op.length - 2]?).getD z0 else c.s) ((c.op[c.op.length - 1]?).getD z0),false,[]⟩
def keepAt (keep:List Int) (n:Nat):Int:=if keep=[] then 0 else (keep[n % keep.length]?).getD 0
def zek (keep:List Int):List Cel→Nat→List Cel
 | [],_=>[]
 | c::l,n=>if c.op=[] then c::zek keep l n else kept c (keepAt keep n)::zek keep l (n+1)
def zie (d:Dk) (keep:List Int):Dk:=⟨zek keep d.cs 0,0,-1,false⟩
def zk4 (s:Sec) (bit:Nat):Sec:=⟨s.1.modify (bit / 8) fun b=>b ^^^ (1 <<< UInt8.ofNat (bit % 8)),by simp [s.2]⟩
def flp (d:Dk) (i bit:Int):Dk×Int :=
 if chk d i≠0 then (d,chk d i) else
 if bit<0∨512≤bit then (d,1) else
 ({ d with cs:=d.cs.modify i.toNat fun c=>if c.bad=true then c else { c with s:=zk4 c.s bit.toNat } },0)
def rot (d:Dk) (i:Int):Dk×Int :=
 if chk d i≠0 then (d,chk d i) else
 ({ d with cs:=d.cs.modify i.toNat fun c=>{ c with s:=z0,bad:=true } },0)
def zbi (d:Dk):List Int:=((List.range d.cs.length).filter fun (i:Nat)=>decide (zcl d (i:Int)≠[])).map fun (i:Nat)=>(i:Int)
theorem okd_fresh {n:Nat} (h1:1≤n) (h2:n≤65536):Okd (fresh n):=by
 refine ⟨by simpa [fresh] using h1,by simpa [fresh] using h2,fun c hc=>?_,by simp [fresh],fun c hc=>?_,by simp [fresh]⟩
 · obtain rfl:=(List.mem_replicate.1 hc).2;simp [zlz]
 · obtain rfl:=(List.mem_replicate.1 hc).2;simp [zlz,fresh]
theorem mem_modify {α:Type} {l:List α} {k:Nat} {f:α→α} {x:α} (h:x∈l.modify k f):x∈l∨∃ y∈l,x=f y:=by
 obtain ⟨i,hi,rfl⟩:=List.getElem_of_mem h
 rw [List.length_modify] at hi
 rw [List.getElem_modify]
 split
 · exact .inr ⟨_,List.getElem_mem hi,rfl⟩
 · exact .inl (List.getElem_mem hi)
theorem zjd {d:Dk} {i:Int} (h:chk d i=0):d.dead=false∧0≤i∧i<d.cs.length:=by
 unfold chk at h
 split at h
 · cases h
 · split at h
   · cases h
   · rename_i h1 h2;exact ⟨by simpa using h1,by omega,by omega⟩
theorem zxe {d:Dk} (h:Okd d) (hn:d.steps≤1000000000):Okd (stp d).1∧(stp d).1.steps≤d.steps+1∧d.steps≤(stp d).1.steps∧(stp d).1.cs=d.cs:=by
 unfold stp
 split
 · exact ⟨⟨h.pos,h.most,h.rot,h.st,h.few,h.aft⟩,by simp;omega,by simp,rfl⟩
 · refine ⟨⟨h.pos,h.most,h.rot,by have:=h.st;simp;omega,fun c hc=>by have:=h.few c hc;simp;omega,?_⟩,by simp,by simp;omega,rfl⟩
   have:=h.aft
   simp only
   split<;>omega
theorem wr_ok {d:Dk} (h:Okd d) (hn:d.steps≤1000000000) (i:Int) (s:Sec):Okd (wr d i s).1∧(wr d i s).1.steps≤d.steps+1:=by
 unfold wr
 obtain ⟨h1,h2,h3,h4⟩:=zxe h hn
 split
 · exact ⟨h,by simp;omega⟩
 · split
   · exact ⟨h1,h2⟩
   · rename_i hs
     have hst:(stp d).1.steps=d.steps+1:=by
      revert hs;unfold stp;split
      · simp
      · simp
     refine ⟨⟨by simpa using h.pos,by simpa using h.most,fun c hc=>?_,h1.st,fun c hc=>?_,h1.aft⟩,h2⟩
     · rcases mem_modify hc with hc|⟨y,hy,rfl⟩
       · exact h.rot c hc
       · exact h.rot y hy
     · simp only [hst]
       rcases mem_modify hc with hc|⟨y,hy,rfl⟩
       · have:=h.few c hc;omega
       · have:=h.few y hy;simp;omega
theorem z9c {d:Dk} (h:Okd d) (hn:d.steps≤1000000000):Okd (sy d).1∧(sy d).1.steps≤d.steps+1:=by
 unfold sy
 obtain ⟨h1,h2,h3,h4⟩:=zxe h hn
 split
 · exact ⟨h,by simp;omega⟩
 · split
   · exact ⟨h1,h2⟩
   · refine ⟨⟨by simpa using h.pos,by simpa using h.most,fun c hc=>?_,h1.st,fun c hc=>?_,h1.aft⟩,h2⟩
     · obtain ⟨y,hy,rfl⟩:=List.mem_map.1 hc
       unfold syC;split
       · simp
       · exact h.rot y hy
     · obtain ⟨y,hy,rfl⟩:=List.mem_map.1 hc
       have:=h.few y hy
       have:=h1.st
       unfold syC;split
       · simpa using h1.st.1
       · rename_i hn
         rw [List.getLast?_eq_none_iff] at hn
         simp only [hn,List.length_nil]
         exact h1.st.1
theorem z4b {c:Cel} (h:c.bad=true→c.s=z0) (x:Int):((kept c x).bad=true→(kept c x).s=z0)∧(kept c x).op=[]:=by
 unfold kept
 split
 · exact ⟨h,rfl⟩
 · split
   · exact ⟨by simp,rfl⟩
   · split
     · exact ⟨by simp,rfl⟩
     · exact ⟨by simp,rfl⟩
theorem zl0 (keep:List Int):∀ (l:List Cel) (n:Nat),(zek keep l n).length=l.length
 | [],_=>rfl
 | c::l,n=>by unfold zek;split<;>simp [zl0 keep l]
theorem zxf {d:Dk} (h:Okd d) (i bit:Int):Okd (flp d i bit).1∧(flp d i bit).1.steps=d.steps:=by
 unfold flp
 split
 · exact ⟨h,rfl⟩
 · split
   · exact ⟨h,rfl⟩
   · refine ⟨⟨by simpa using h.pos,by simpa using h.most,fun c hc=>?_,h.st,fun c hc=>?_,h.aft⟩,rfl⟩
     · rcases mem_modify hc with hc|⟨y,hy,rfl⟩
       · exact h.rot c hc
       · by_cases hb:y.bad=true
         · rw [if_pos hb];exact h.rot y hy
         · rw [if_neg hb];intro e;exact absurd e hb
     · rcases mem_modify hc with hc|⟨y,hy,rfl⟩
       · exact h.few c hc
       · have:=h.few y hy
         split<;>simpa using this
theorem zpb {d:Dk} (h:Okd d) (i:Int):Okd (rot d i).1∧(rot d i).1.steps=d.steps:=by
 unfold rot
 split
 · exact ⟨h,rfl⟩
 · refine ⟨⟨by simpa using h.pos,by simpa using h.most,fun c hc=>?_,h.st,fun c hc=>?_,h.aft⟩,rfl⟩
   · rcases mem_modify hc with hc|⟨y,hy,rfl⟩
     · exact h.rot c hc
     · simp
   · rcases mem_modify hc with hc|⟨y,hy,rfl⟩
     · exact h.few c hc
     · have:=h.few y hy;simpa using this
theorem zdf {d:Dk} {i:Nat} (h:i<d.cs.length):zcl d i=d.cs[i].op:=by
 unfold zcl
 rw [if_neg (by omega)]
 simp [h]
theorem zz2 {d:Dk} {i:Int} (h:i<0∨(d.cs.length:Int)≤i):zcl d i=[]:=by
 unfold zcl
 split
 · rfl
 · rw [List.getElem?_eq_none (by omega)];rfl
theorem zm3 {d:Dk} {i:Int} (h:zcl d i≠[]):0≤i∧i<d.cs.length:=by
 apply Classical.byContradiction
 intro hn
 exact h (zz2 (by omega))
end C22
namespace C22
theorem zel (p:Nat→Bool):∀ (n t i:Nat),((List.range n).filter p)[t]?=some i↔i<n∧p i=true∧t=((List.range i).filter p).length
 | 0,t,i=>by simp
 | n+1,t,i=>by
   have ih:=zel p n t i
   rw [List.range_succ,List.filter_append,List.getElem?_append]
   split
   · rename_i h
     rw [ih]
     constructor
     · rintro ⟨h1,h2,h3⟩;exact ⟨by omega,h2,h3⟩
     · rintro ⟨h1,h2,h3⟩
       refine ⟨?_,h2,h3⟩
       rcases Nat.lt_or_ge i n with h4|h4
       · exact h4
       · have:i=n:=by omega
         subst this;omega
   · rename_i h
     by_cases hp:p n=true
     · rw [List.filter_cons_of_pos hp,List.filter_nil]
       constructor
       · intro he
         obtain ⟨h1,h2⟩:=List.getElem?_eq_some_iff.1 he
         simp only [List.length_cons,List.length_nil] at h1
         have h3:t - ((List.range n).filter p).length=0:=by omega
         simp only [h3,List.getElem_cons_zero] at h2
         subst h2
         exact ⟨by omega,hp,by omega⟩
       · rintro ⟨h1,h2,h3⟩
         have hin:i=n:=by
          rcases Nat.lt_or_ge i n with h4|h4
          · exfalso
            have:=(zel p n t i).2 ⟨h4,h2,h3⟩
            have:=(List.getElem?_eq_some_iff.1 this).1
            omega
          · omega
         subst hin
         rw [h3];simp
     · rw [List.filter_cons_of_neg hp,List.filter_nil]
       constructor
       · intro he;simp at he
       · rintro ⟨h1,h2,h3⟩
         exfalso
         rcases Nat.lt_or_ge i n with h4|h4
         · have:=(zel p n t i).2 ⟨h4,h2,h3⟩
           have:=(List.getElem?_eq_some_iff.1 this).1
           omega
         · have:i=n:=by omega
           subst this;exact hp h2
def zsp (d:Dk) (k:Nat):Bool:=decide (zcl d (k:Int)≠[])
def zpc (d:Dk) (i:Nat):Nat:=((List.range i).filter (zsp d)).length
def zrd (d:Dk) (i:Nat):Cel:=(d.cs[i]?).getD zlz
def z5t (d:Dk) (keep:List Int) (j i:Nat):Cel:=if zcl d i≠[]∧zpc d i<j then kept (zrd d i) (keepAt keep (zpc d i)) else ⟨(zrd d i).s,(zrd d i).bad,[]⟩
def zif (d:Dk) (keep:List Int) (j:Nat):List Cel:=(List.range d.cs.length).map (z5t d keep j)
theorem zbe (d:Dk) (keep:List Int) (j:Nat):(zif d keep j).length=d.cs.length:=by simp [zif]
theorem zhk {d:Dk} {i:Nat} (h:i<d.cs.length):zrd d i=d.cs[i]:=by simp [zrd,h]
theorem zl1 {d:Dk} {j:Nat} {i:Int} (h:(zbi d)[j]?=some i):∃ k:Nat,i=k∧k<d.cs.length∧zcl d k≠[]∧j=zpc d k:=by
 unfold zbi at h
 rw [List.getElem?_map,Option.map_eq_some_iff] at h
 obtain ⟨k,hk,rfl⟩:=h
 obtain ⟨h1,h2,h3⟩:=(zel _ _ _ _).1 hk
 exact ⟨k,rfl,h1,by simpa using h2,h3⟩
theorem zkj {d:Dk} {k:Nat} (hk:k<d.cs.length) (h:zcl d k≠[]):(zbi d)[zpc d k]?=some (k:Int):=by
 unfold zbi
 rw [List.getElem?_map,Option.map_eq_some_iff]
 exact ⟨k,(zel _ _ _ _).2 ⟨hk,by simpa [zsp] using h,rfl⟩,rfl⟩
theorem zxg (d:Dk) (keep:List Int):zif d keep 0=d.cs.map fun c=>⟨c.s,c.bad,[]⟩:=by
 apply List.ext_getElem
 · simp [zif]
 · intro i h1 h2
   have h:i<d.cs.length:=by simpa [zif] using h1
   simp [zif,z5t,zhk h]
theorem zpd {d:Dk} {keep:List Int} {j k:Nat} (h:(zbi d)[j]?=some (k:Int)):zif d keep (j+1)=(zif d keep j).set k (kept (zrd d k) (keepAt keep j)):=by
 obtain ⟨k',e,hk,ho,hj⟩:=zl1 h
 have:k'=k:=by omega
 subst this
 apply List.ext_getElem
 · simp [zif]
 · intro i h1 h2
   have hi:i<d.cs.length:=by simpa [zif] using h1
   rw [List.getElem_set]
   simp only [zif,List.getElem_map,List.getElem_range]
   split
   · rename_i e2
     subst e2
     unfold z5t
     rw [if_pos ⟨ho,by omega⟩,← hj]
   · rename_i e2
     unfold z5t
     by_cases hoi:zcl d i≠[]
     · have hne:zpc d i≠j:=by
        intro e3
        have:=zkj hi hoi
        rw [e3,h] at this
        simp only [Option.some.injEq] at this
        exact e2 (by omega)
       by_cases hl:zpc d i<j
       · rw [if_pos ⟨hoi,by omega⟩,if_pos ⟨hoi,hl⟩]
       · rw [if_neg (fun hh=>by have:=hh.2;omega),if_neg (fun hh=>hl hh.2)]
     · rw [if_neg (fun hh=>hoi hh.1),if_neg (fun hh=>hoi hh.1)]
theorem zih {keep:List Int}:∀ {l:List Cel} {n i:Nat} (h:i<l.length),(zek keep l n)[i]?=some (if l[i].op=[] then l[i] else kept l[i] (keepAt keep (n+((l.take i).filter fun c=>decide (c.op≠[])).length)))
 | c::l,n,0,_=>by
   unfold zek
   split
   · rename_i e;simp [e]
   · rename_i e;simp [e]
 | c::l,n,i+1,h=>by
   have hi:i<l.length:=by simpa using h
   unfold zek
   split
   · rename_i e
     rw [List.getElem?_cons_succ,zih hi]
     simp [e]
   · rename_i e
     rw [List.getElem?_cons_succ,zih hi]
     simp only [List.getElem_cons_succ,List.take_succ_cons]
     rw [List.filter_cons_of_pos (by simpa using e)]
     simp only [List.length_cons]
     congr 3
     congr 1
     omega
theorem zpe (d:Dk):∀ i,i≤d.cs.length→zpc d i=((d.cs.take i).filter fun c=>decide (c.op≠[])).length
 | 0,_=>rfl
 | i+1,h=>by
   have ih:=zpe d i (by omega)
   have hi:i<d.cs.length:=by omega
   unfold zpc at ih ⊢
   rw [List.range_succ,List.filter_append,List.take_succ_eq_append_getElem hi,List.filter_append,List.length_append,List.length_append,ih]
   congr 1
   by_cases ho:d.cs[i].op=[]
   · rw [List.filter_cons_of_neg (by simp [zsp,zdf hi,ho]),List.filter_cons_of_neg (by simp [ho])];rfl
   · rw [List.filter_cons_of_pos (by simp [zsp,zdf hi,ho]),List.filter_cons_of_pos (by simp [ho])];rfl
theorem zz3 (d:Dk) (keep:List Int):zif d keep (zbi d).length=zek keep d.cs 0:=by
 apply List.ext_getElem?
 intro i
 rcases Nat.lt_or_ge i d.cs.length with h|h
 · rw [zih h]
   simp only [zif,List.getElem?_map,List.getElem?_range h,Option.map_some,Option.some.injEq]
   unfold z5t
   rw [zhk h,zdf h]
   by_cases ho:d.cs[i].op=[]
   · rw [if_neg (by simp [ho]),if_pos ho,← ho]
   · have hr:=zkj h (by rw [zdf h];exact ho)
     have:=(List.getElem?_eq_some_iff.1 hr).1
     rw [if_pos ⟨ho,this⟩,if_neg ho,Nat.zero_add,zpe d i (by omega)]
 · rw [List.getElem?_eq_none (by rw [zbe];exact h),List.getElem?_eq_none (by rw [zl0];exact h)]
theorem zkk {d:Dk} (h:Okd d) (keep:List Int) (j:Nat):Okd ⟨zif d keep j,0,-1,false⟩∧∀ i,zcl ⟨zif d keep j,0,-1,false⟩ i=[]:=by
 have key:∀ c∈zif d keep j,(c.bad=true→c.s=z0)∧c.op=[]:=by
  intro c hc
  obtain ⟨i,hi,rfl⟩:=List.mem_map.1 hc
  have hil:=List.mem_range.1 hi
  unfold z5t
  rw [zhk hil]
  split
  · exact z4b (h.rot _ (List.getElem_mem hil)) _
  · exact ⟨fun hb=>h.rot d.cs[i] (List.getElem_mem hil) hb,rfl⟩
 refine ⟨⟨by simp only [zbe];exact h.pos,by simp only [zbe];exact h.most,fun c hc=>(key c hc).1,by simp,fun c hc=>by rw [(key c hc).2];simp,by simp⟩,fun i=>?_⟩
 unfold zcl
 split
 · rfl
 · cases hg:(zif d keep j)[i.toNat]? with
   | none=>rfl
   | some c=>exact (key c (List.mem_of_getElem? hg)).2
end C22
namespace C23
open C22 (Sec Dk rd wr sy)
abbrev Str:=List UInt8
def zm4 (l:Str):Sec:=⟨(l++List.replicate 64 0).take 64,by simp [List.length_take]⟩
theorem zm5 {l:Str} (h:l.length=64):(zm4 l).1=l:=by
 show (l++List.replicate 64 0).take 64=l
 rw [List.take_left' h]
def tx (s:Sec) (a b:Nat):Str:=(s.1.take b).drop a
theorem zav (s:Sec) {a b:Nat} (h:b≤64):(tx s a b).length=b - a:=by
 rw [tx,List.length_drop,List.length_take,s.2,Nat.min_eq_left h]
def zhl:Str:=[81,85,73,69,84,74,78,76]
def be (b:Str):Nat:=b.foldl (fun n x=>n * 256+x.toNat) 0
theorem z4c (l:Str) (b:UInt8):be (l++[b])=be l * 256+b.toNat:=by rw [be,List.foldl_append];rfl
theorem z9d:∀ (l:Str) (n:Nat),l.foldl (fun n x=>n * 256+x.toNat) n<(n+1) * 256 ^ l.length
 | [],n=>by simp
 | b::l,n=>by
   have h:=z9d l (n * 256+b.toNat)
   have hb:=UInt8.toNat_lt b
   rw [List.foldl_cons,List.length_cons,Nat.pow_succ,Nat.mul_comm (256 ^ l.length),← Nat.mul_assoc]
   exact Nat.lt_of_lt_of_le h (Nat.mul_le_mul_right _ (by omega))
theorem z9e (l:Str):be l<256 ^ l.length:=by have:=z9d l 0;rwa [Nat.zero_add,Nat.one_mul] at this
def zey (n:Nat):Str:=[UInt8.ofNat (n / 16777216),UInt8.ofNat (n / 65536),UInt8.ofNat (n / 256),UInt8.ofNat n]
theorem zm6 {n:Nat} (h:n<4294967296):be (zey n)=n:=by
 simp only [be,zey,List.foldl_cons,List.foldl_nil,UInt8.toNat_ofNat']
 omega
def hdB (g n:Nat):Str:=zhl++zey g++zey n++List.replicate 32 0
def zhm (b:Str) (side:Nat):Str:=CH.dig 129 [b,CW.intB (side:Int)]
def zdz (b:Str) (side slot:Nat):Str:=CH.dig 130 [b,CW.intB (side:Int),CW.intB (slot:Int)]
def mkH (g n side:Nat):Sec:=zm4 (hdB g n++zhm (hdB g n) side)
def frA (g n:Nat) (ch:Str):Str:=zey g++zey n++ch.take 8
def frE (fl:Nat) (c:Str):Str:=[UInt8.ofNat fl,UInt8.ofNat c.length]++c++List.replicate (30 - c.length) 0
def mkF (g n:Nat) (ch:Str) (fl:Nat) (c:Str) (side slot:Nat):Sec :=
 zm4 (frA g n ch++(zdz (frA g n ch++frE fl c) side slot).take 8++frE fl c++(zdz (frA g n ch++frE fl c) side slot).drop 8)
def isH (s:Sec) (side:Nat):Bool:=decide (tx s 0 8=zhl) && decide (tx s 48 64=zhm (tx s 0 48) side)
def z9f (s:Sec):Str:=tx s 16 24++tx s 56 64
def isF (s:Sec) (side slot:Nat):Bool:=decide (z9f s=zdz (tx s 0 16++tx s 24 56) side slot)
theorem zhn (b:Str) (side:Nat):(zhm b side).length=16:=CH.dig_len _ _
theorem zdu (b:Str) (side slot:Nat):(zdz b side slot).length=16:=CH.dig_len _ _
theorem z4d (g n:Nat):(hdB g n).length=48:=rfl
theorem zre (g n:Nat) {ch:Str} (h:8≤ch.length):(frA g n ch).length=16:=by
 simp only [frA,zey,List.length_append,List.length_cons,List.length_nil,List.length_take];omega
theorem zxh (fl:Nat) {c:Str} (h:c.length≤30):(frE fl c).length=32:=by
 simp only [frE,List.length_append,List.length_cons,List.length_nil,List.length_replicate];omega
theorem zxi (g n side:Nat):(mkH g n side).1=hdB g n++zhm (hdB g n) side:=zm5 (by rw [List.length_append,z4d,zhn])
theorem z4e (g n:Nat) {ch:Str} (fl:Nat) {c:Str} (side slot:Nat) (h:8≤ch.length) (hc:c.length≤30):(mkF g n ch fl c side slot).1 =
 frA g n ch++(zdz (frA g n ch++frE fl c) side slot).take 8++frE fl c++(zdz (frA g n ch++frE fl c) side slot).drop 8 :=
 zm5 (by simp only [List.length_append,zre _ _ h,zxh _ hc,List.length_take,List.length_drop,zdu];rfl)
theorem z1l {a b c d l:Str} (h:l=a++b++c++d):(l.take a.length).drop 0=a∧(l.take (a.length+b.length)).drop a.length=b∧(l.take (a.length+b.length+c.length)).drop (a.length+b.length)=c ∧
 (l.take (a.length+b.length+c.length+d.length)).drop (a.length+b.length+c.length)=d:=by
 subst h
 refine ⟨?_,?_,?_,?_⟩
 · rw [List.append_assoc,List.append_assoc,List.take_left,List.drop_zero]
 · rw [List.append_assoc,List.append_assoc,List.take_append,List.take_of_length_le (by omega),Nat.add_sub_cancel_left,List.take_left,List.drop_left]
 · rw [List.append_assoc (a++b),List.take_append,List.take_of_length_le (by rw [List.length_append];omega),List.length_append,Nat.add_sub_cancel_left,List.take_left,← List.length_append,List.drop_left]
 · rw [List.take_of_length_le (by simp only [List.length_append];omega),← List.length_append,← List.length_append,List.drop_left]
theorem z1m (g n side:Nat):tx (mkH g n side) 0 48=hdB g n∧tx (mkH g n side) 48 64=zhm (hdB g n) side:=by
 have h:=z1l (a:=hdB g n) (b:=zhm (hdB g n) side) (c:=[]) (d:=[]) (l:=(mkH g n side).1) (by rw [zxi];simp)
 have e1:(hdB g n).length=48:=rfl
 have e2:=zhn (hdB g n) side
 rw [e1,e2] at h
 exact ⟨h.1,h.2.1⟩
theorem ztw (s:Sec) {a b c:Nat} (h:b≤c):tx s a b=((tx s 0 c).take b).drop a:=by
 unfold tx;rw [List.drop_zero,List.take_take,Nat.min_eq_left h]
theorem zxj (g n side:Nat):isH (mkH g n side) side=true:=by
 obtain ⟨h1,h2⟩:=z1m g n side
 unfold isH
 rw [ztw (c:=48) (mkH g n side) (by decide),h1,h2]
 simp [hdB,zhl]
theorem zho {g n:Nat} (hg:g<4294967296) (hn:n<4294967296) (side:Nat):be (tx (mkH g n side) 8 12)=g∧be (tx (mkH g n side) 12 16)=n:=by
 obtain ⟨h1,_⟩:=z1m g n side
 rw [ztw (c:=48) (mkH g n side) (by decide),ztw (a:=12) (b:=16) (c:=48) (mkH g n side) (by decide),h1]
 exact ⟨zm6 hg,zm6 hn⟩
theorem zxk (g n:Nat) {ch:Str} (fl:Nat) {c:Str} (side slot:Nat) (h:8≤ch.length) (hc:c.length≤30) :
 tx (mkF g n ch fl c side slot) 0 16=frA g n ch∧tx (mkF g n ch fl c side slot) 16 24=(zdz (frA g n ch++frE fl c) side slot).take 8 ∧
 tx (mkF g n ch fl c side slot) 24 56=frE fl c∧tx (mkF g n ch fl c side slot) 56 64=(zdz (frA g n ch++frE fl c) side slot).drop 8:=by
 have hp:=z1l (z4e g n fl side slot h hc)
 have hd:=zdu (frA g n ch++frE fl c) side slot
 rw [zre _ _ h,zxh _ hc,List.length_take,List.length_drop,hd] at hp
 exact hp
theorem z9g (g n:Nat) {ch:Str} (fl:Nat) {c:Str} (side slot:Nat) (h:8≤ch.length) (hc:c.length≤30):isF (mkF g n ch fl c side slot) side slot=true:=by
 obtain ⟨h1,h2,h3,h4⟩:=zxk g n fl side slot h hc
 unfold isF z9f
 rw [h1,h2,h3,h4,List.take_append_drop]
 exact decide_eq_true rfl
theorem zpf {g n:Nat} {ch:Str} {fl:Nat} {c:Str} (side slot:Nat) (hg:g<4294967296) (hn:n<4294967296) (h:8≤ch.length) (hc:c.length≤30) :
 be (tx (mkF g n ch fl c side slot) 0 4)=g∧be (tx (mkF g n ch fl c side slot) 4 8)=n∧tx (mkF g n ch fl c side slot) 8 16=ch.take 8 ∧
 tx (mkF g n ch fl c side slot) 24 26=[UInt8.ofNat fl,UInt8.ofNat c.length]∧tx (mkF g n ch fl c side slot) 26 (26+c.length)=c:=by
 obtain ⟨h1,h2,h3,h4⟩:=zxk g n fl side slot h hc
 have ht:(ch.take 8).length=8:=by rw [List.length_take];omega
 refine ⟨?_,?_,?_,?_,?_⟩
 · rw [ztw (c:=16) _ (by decide),h1];exact zm6 hg
 · rw [ztw (c:=16) _ (by decide),h1];exact zm6 hn
 · rw [ztw (c:=16) _ (by decide),h1,List.take_of_length_le (by rw [zre _ _ h];exact Nat.le_refl _)];rfl
 · have e:tx (mkF g n ch fl c side slot) 24 26=(tx (mkF g n ch fl c side slot) 24 56).take 2:=by
    unfold tx;rw [List.take_drop,List.take_take];rfl
   rw [e,h3];rfl
 · have e:tx (mkF g n ch fl c side slot) 26 (26+c.length)=((tx (mkF g n ch fl c side slot) 24 56).take (2+c.length)).drop 2:=by
    unfold tx
    rw [List.take_drop,List.take_take,List.drop_drop]
    congr 2
    omega
   rw [e,h3,frE,List.append_assoc]
   show (([UInt8.ofNat fl,UInt8.ofNat c.length]++(c++List.replicate (30 - c.length) 0)).take (2+c.length)).drop 2=c
   rw [List.take_append,List.take_of_length_le (by simp)]
   show List.take (2+c.length - 2) (c++_)=c
   rw [Nat.add_sub_cancel_left,List.take_left]
def sb (s:Sec) (i:Nat):UInt8:=(s.1[i]?).getD 0
theorem z1n (s:Sec) {i:Nat} (h:i<64):s.1[i]?=some (sb s i):=by
 have:i<s.1.length:=by rw [s.2];exact h
 unfold sb
 rw [List.getElem?_eq_getElem this];rfl
theorem z9h (s:Sec) {a b i:Nat} (h:a+i<b):(tx s a b)[i]?=s.1[a+i]?:=by
 unfold tx
 rw [List.getElem?_drop,List.getElem?_take_of_lt h]
structure Fr where
 g:Nat
 n:Nat
 lk:Str
 fl:UInt8
 ln:UInt8
 pc:Str
def zaj (s:Sec):Fr:=⟨be (tx s 0 4),be (tx s 4 8),tx s 8 16,sb s 24,sb s 25,tx s 26 56⟩
def Fr.begins (f:Fr):Bool:=decide (f.fl=1) || decide (f.fl=3)
def Fr.ends (f:Fr):Bool:=decide (f.fl=2) || decide (f.fl=3)
def Fr.content (f:Fr):Str:=f.pc.take f.ln.toNat
def frP (f:Fr):Str:=zey f.g++zey f.n++f.lk
def frS (f:Fr) (side slot:Nat):Sec:=zm4 (frP f++(zdz (frP f++([f.fl,f.ln]++f.pc)) side slot).take 8++([f.fl,f.ln]++f.pc)++(zdz (frP f++([f.fl,f.ln]++f.pc)) side slot).drop 8)
def zsq (g n:Nat) (lk:Str) (fl:Nat) (c:Str):Fr:=⟨g,n,lk,UInt8.ofNat fl,UInt8.ofNat c.length,c++List.replicate (30 - c.length) 0⟩
theorem z9i (g n:Nat) (ch:Str) (fl:Nat) (c:Str) (side slot:Nat):frS (zsq g n (ch.take 8) fl c) side slot=mkF g n ch fl c side slot:=by
 simp only [frS,mkF,frP,zsq,frA,frE,List.append_assoc,List.cons_append,List.nil_append]
def np (s:Str):Nat:=max 1 ((s.length+29) / 30)
def pc (s:Str) (k:Nat):Str:=(s.drop (30 * k)).take 30
def ztx (s:Str):List Str:=(List.range (np s)).map (pc s)
theorem zje (s:Str):(ztx s).length=np s:=by simp [ztx]
theorem zl2 (s:Str) (k:Nat):(pc s k).length≤30:=by rw [pc,List.length_take];omega
def zpo (d:Dk) (at_:Int):List Sec:=(if (rd d at_).2=0 then [(rd d at_).1] else [])++(if (rd d (at_+1)).2=0 then [(rd d (at_+1)).1] else [])
structure Hd where
 g:Nat
 n:Nat
 deriving DecidableEq
def zk5 (s:Sec):Hd:=⟨be (tx s 8 12),be (tx s 12 16)⟩
def Hd.lt (a b:Hd):Bool:=decide (a.g<b.g) || (decide (a.g=b.g) && decide (a.n<b.n))
def zem (o:Option Hd) (h:Hd):Option Hd:=match o with|none=>some h|some p=>if p.lt h=true then some h else some p
def hds (d:Dk) (at_:Int) (side:Nat):List Hd:=((zpo d at_).filter fun s=>isH s side).map zk5
def zbc (l:List Hd):Option Hd:=l.foldl zem none
def fns (d:Dk) (at_:Int) (side slot:Nat):List Nat:=((zpo d at_).filter fun s=>isF s side slot).map fun s=>be (tx s 4 8)
def most (l:List Nat):Nat:=l.foldl max 0
def zpp (d:Dk) (at_:Int) (side:Nat):Nat→Nat
 | 0=>0
 | k+1=>max (zpp d at_ side k) (most (fns d (at_+2+2 * (k:Int)) side k))
def zao (d:Dk) (first:Int) (half:Nat):Nat :=
 max (max (most ((hds d first 0).map (·.n))) (zpp d first 0 (half / 2 - 1))) (max (most ((hds d (first+half) 1).map (·.n))) (zpp d (first+half) 1 (half / 2 - 1)))+1
def zrf (d:Dk) (at_:Int):Nat→List Sec
 | 0=>[]
 | k+1=>zrf d at_ k++(if (rd d (at_+(k:Int))).2=0 then [(rd d (at_+(k:Int))).1] else [])
theorem zkl (d:Dk) (at_:Int):zrf d at_ 2=zpo d at_:=by
 simp only [zrf,zpo,List.nil_append]
 rw [show at_+((0:Nat):Int)=at_ from by omega,show at_+((1:Nat):Int)=at_+1 from by omega]
def zhp (d:Dk) (at_:Int) (T:Sec→Bool) (k:Nat):List Sec:=(zrf d at_ k).filter T
theorem zii {d:Dk} {at_:Int} {T:Sec→Bool} {k:Nat} (h:¬ ((rd d (at_+(k:Int))).2=0∧T (rd d (at_+(k:Int))).1=true)):zhp d at_ T (k+1)=zhp d at_ T k:=by
 unfold zhp
 simp only [zrf,List.filter_append]
 by_cases e:(rd d (at_+(k:Int))).2=0
 · have:T (rd d (at_+(k:Int))).1=false:=by
    cases ht:T (rd d (at_+(k:Int))).1 with
    | false=>rfl
    | true=>exact absurd ⟨e,ht⟩ h
   simp [e,this]
 · simp [e]
theorem zij {d:Dk} {at_:Int} {T:Sec→Bool} {k:Nat} (h1:(rd d (at_+(k:Int))).2=0) (h2:T (rd d (at_+(k:Int))).1=true):zhp d at_ T (k+1)=zhp d at_ T k++[(rd d (at_+(k:Int))).1]:=by
 unfold zhp
 simp only [zrf,List.filter_append,if_pos h1]
 simp [h2]
theorem zpg (l:List Nat) (n:Nat):most (l++[n])=max (most l) n:=by rw [most,List.foldl_append];rfl
theorem zxl (l:List Hd) (h:Hd):zbc (l++[h])=zem (zbc l) h:=by rw [zbc,List.foldl_append];rfl
theorem zsr (s:Sec) {a b:Nat} (h:b≤64) (hab:b=a+4):be (tx s a b)<4294967296:=by
 subst hab
 have:=z9e (tx s a (a+4))
 rw [zav s h,Nat.add_sub_cancel_left] at this
 exact this
theorem zxm:∀ (l:List Nat) (m B:Nat),m<B→(∀ x∈l,x<B)→l.foldl max m<B
 | [],_,_,h,_=>h
 | x::l,m,B,h,hl=>zxm l (max m x) B (Nat.max_lt.2 ⟨h,hl x List.mem_cons_self⟩) fun y hy=>hl y (List.mem_cons_of_mem _ hy)
theorem zm7 {l:List Nat} {B:Nat} (hB:0<B) (h:∀ x∈l,x<B):most l<B:=zxm l 0 B hB h
theorem z1o (d:Dk) (at_:Int) (side:Nat):most ((hds d at_ side).map (·.n))<4294967296:=by
 refine zm7 (by decide) fun x hx=>?_
 obtain ⟨y,hy,rfl⟩:=List.mem_map.1 hx
 obtain ⟨s,_,rfl⟩:=List.mem_map.1 hy
 exact zsr s (by decide) rfl
theorem zrg (d:Dk) (at_:Int) (side:Nat):∀ k,zpp d at_ side k<4294967296
 | 0=>Nat.zero_lt_succ _
 | k+1=>by
   refine Nat.max_lt.2 ⟨zrg d at_ side k,zm7 (by decide) fun x hx=>?_⟩
   obtain ⟨s,_,rfl⟩:=List.mem_map.1 hx
   exact zsr s (by decide) rfl
theorem zph (d:Dk) (first:Int) (half:Nat):zao d first half≤4294967296 :=
 Nat.max_lt.2 ⟨Nat.max_lt.2 ⟨z1o _ _ _,zrg _ _ _ _⟩,Nat.max_lt.2 ⟨z1o _ _ _,zrg _ _ _ _⟩⟩
def zdg (d:Dk) (first n:Int):Int:=if n<8∨first<0∨(d.cs.length:Int)<first∨(d.cs.length:Int) - first<n then 1 else if d.dead=true then 12 else 0
def wr2 (d:Dk) (at_:Int) (s:Sec):Dk×Int:=if (wr d at_ s).2≠0 then wr d at_ s else wr (wr d at_ s).1 (at_+1) s
def fmt (d:Dk) (first n:Int):Dk×Int :=
 if zdg d first n≠0 then (d,zdg d first n) else
 if 4294967295<zao d first (n / 2).toNat then (d,2) else
 if (wr2 d first (mkH 1 (zao d first (n / 2).toNat) 0)).2≠0 then ((wr2 d first (mkH 1 (zao d first (n / 2).toNat) 0)).1,12) else
 if (wr2 (wr2 d first (mkH 1 (zao d first (n / 2).toNat) 0)).1 (first+n / 2) C22.z0).2≠0 then ((wr2 (wr2 d first (mkH 1 (zao d first (n / 2).toNat) 0)).1 (first+n / 2) C22.z0).1,12) else
 sy (wr2 (wr2 d first (mkH 1 (zao d first (n / 2).toNat) 0)).1 (first+n / 2) C22.z0).1
theorem zss {d:Dk} {first n:Int} (h:zdg d first n=0):8≤n∧0≤first∧first+n≤d.cs.length∧d.dead=false:=by
 unfold zdg at h
 split at h
 · omega
 · split at h
   · omega
   · rename_i h1 h2
     refine ⟨by omega,by omega,by omega,by simpa using h2⟩
theorem z1p {d:Dk} (h:C22.Okd d) (hn:d.steps≤999999000) (at_:Int) (s:Sec):C22.Okd (wr2 d at_ s).1∧(wr2 d at_ s).1.steps≤d.steps+2:=by
 have h1:=C22.wr_ok h (by omega) at_ s
 unfold wr2
 split
 · exact ⟨h1.1,by omega⟩
 · have h2:=C22.wr_ok h1.1 (by omega) (at_+1) s
   exact ⟨h2.1,by omega⟩
def fit (side slot g:Nat) (lk:Str) (first:Bool) (s:Sec):Bool :=
 isF s side slot && decide ((zaj s).g=g) && decide ((zaj s).lk=lk) && decide ((zaj s).ln.toNat≤30) && ((zaj s).begins == first)
def zd6 (o:Option Sec) (s:Sec):Option Sec:=match o with|none=>some s|some b=>if (zaj b).n<(zaj s).n then some s else some b
def zk6 (l:List Sec):Option Sec:=l.foldl zd6 none
theorem zty (l:List Sec) (s:Sec):zk6 (l++[s])=zd6 (zk6 l) s:=by rw [zk6,List.foldl_append];rfl
def zc3 (d:Dk) (at_:Int) (side slot g:Nat) (lk:Str) (first:Bool):Option Sec:=zk6 ((zpo d (at_+2+2 * (slot:Int))).filter (fit side slot g lk first))
def chS (d:Dk) (at_:Int) (side g:Nat) (lk:Str):Nat→Option (Str×Bool)
 | 0=>some (lk,true)
 | k+1=>match chS d at_ side g lk k with
   | none=>none
   | some (l,f)=>(zc3 d at_ side k g l f).map fun b=>(tx b 16 24,(zaj b).ends)
theorem zst:∀ (l:List Sec) (o:Option Sec) (b:Sec),l.foldl zd6 o=some b→b∈l∨o=some b
 | [],o,b,h=>.inr h
 | s::l,o,b,h=>by
   rcases zst l (zd6 o s) b h with h|h
   · exact .inl (List.mem_cons_of_mem _ h)
   · cases o with
     | none=>cases h;exact .inl List.mem_cons_self
     | some c =>
      simp only [zd6] at h
      split at h
      · cases h;exact .inl List.mem_cons_self
      · exact .inr h
theorem zpi {l:List Sec} {b:Sec} (h:zk6 l=some b):b∈l:=(zst l none b h).resolve_right (by simp)
theorem zxn {d:Dk} {at_:Int} {side slot g:Nat} {lk:Str} {first:Bool} {b:Sec} (h:zc3 d at_ side slot g lk first=some b):b∈zpo d (at_+2+2 * (slot:Int))∧fit side slot g lk first b=true:=List.mem_filter.1 (zpi h)
structure Sc where
 txt:Str
 k:Nat
 used:Nat
 recs:List Str
 el:Str
def scB (s:Sc) (b:Sec):Sc :=
 ⟨(if (zaj b).begins=true then [] else s.txt)++(zaj b).content,s.k+1,if (zaj b).ends=true then s.k+1 else s.used,
  if (zaj b).ends=true then s.recs++[(if (zaj b).begins=true then [] else s.txt)++(zaj b).content] else s.recs,if (zaj b).ends=true then tx b 16 24 else s.el⟩
def scS (d:Dk) (at_:Int) (side g:Nat) (lk:Str):Nat→Sc
 | 0=>⟨[],0,0,[],lk⟩
 | k+1=>match chS d at_ side g lk k with
   | none=>scS d at_ side g lk k
   | some (l,f)=>match zc3 d at_ side k g l f with
     | none=>scS d at_ side g lk k
     | some b=>scB (scS d at_ side g lk k) b
theorem zm8 {d:Dk} {at_:Int} {side g:Nat} {lk:Str} {k:Nat} {l:Str} {f:Bool} {b:Sec} (h1:chS d at_ side g lk k=some (l,f)) (h2:zc3 d at_ side k g l f=some b):scS d at_ side g lk (k+1)=scB (scS d at_ side g lk k) b:=by
 show (match chS d at_ side g lk k with|none=>scS d at_ side g lk k|some (l,f)=>match zc3 d at_ side k g l f with|none=>scS d at_ side g lk k|some b=>scB (scS d at_ side g lk k) b)=_
 rw [h1]
 show (match zc3 d at_ side k g l f with|none=>scS d at_ side g lk k|some b=>scB (scS d at_ side g lk k) b)=_
 rw [h2]
theorem zsu {d:Dk} {at_:Int} {side g:Nat} {lk:Str} {m:Nat} (h:chS d at_ side g lk (m+1)=none):∀ i,m≤i→scS d at_ side g lk i=scS d at_ side g lk m:=by
 have hn:∀ i,m+1≤i→chS d at_ side g lk i=none:=by
  intro i hi
  induction i with
  | zero=>omega
  | succ i ih =>
   by_cases e:i=m
   · rw [e];exact h
   · have:=ih (by omega)
     show (match chS d at_ side g lk i with|none=>none|some (l,f)=>(zc3 d at_ side i g l f).map fun b=>(tx b 16 24,(zaj b).ends))=_
     rw [this]
 intro i hi
 induction i with
 | zero =>
  obtain rfl:m=0:=by omega
  rfl
 | succ i ih =>
  by_cases e:i+1=m
  · rw [e]
  · rw [← ih (by omega)]
    show (match chS d at_ side g lk i with|none=>scS d at_ side g lk i|some (l,f)=>match zc3 d at_ side i g l f with|none=>scS d at_ side g lk i|some b=>scB (scS d at_ side g lk i) b)=_
    by_cases e2:i=m
    · subst e2
      have h':(match chS d at_ side g lk i with|none=>none|some (l,f)=>(zc3 d at_ side i g l f).map fun b=>(tx b 16 24,(zaj b).ends))=none:=h
      cases hc:chS d at_ side g lk i with
      | none=>rfl
      | some x =>
       obtain ⟨l,f⟩:=x
       rw [hc] at h'
       cases hf:zc3 d at_ side i g l f with
       | none=>simp only [hf]
       | some b =>
        simp only [hf] at h'
        cases h'
    · rw [hn i (by omega)]
theorem z9j {d:Dk} {at_:Int} {side g:Nat} {lk:Str}:∀ k,(chS d at_ side g lk k).isSome=true→(scS d at_ side g lk k).k=k
 | 0,_=>rfl
 | k+1,h=>by
   have h':(match chS d at_ side g lk k with|none=>none|some (l,f)=>(zc3 d at_ side k g l f).map fun b=>(tx b 16 24,(zaj b).ends)).isSome=true:=h
   cases hc:chS d at_ side g lk k with
   | none=>rw [hc] at h';cases h'
   | some x =>
    obtain ⟨l,f⟩:=x
    rw [hc] at h'
    cases hf:zc3 d at_ side k g l f with
    | none=>simp only [hf] at h';cases h'
    | some b =>
     rw [zm8 hc hf]
     show (scS d at_ side g lk k).k+1=k+1
     rw [z9j k (by rw [hc];rfl)]
theorem z4f {s:Sc} {b:Sec} {n:Nat} (h:s.txt.length≤n):(scB s b).txt.length≤n+30:=by
 have hc:(zaj b).content.length≤30:=by
  show ((tx b 26 56).take _).length≤30
  rw [List.length_take,zav b (by decide)];omega
 show ((if (zaj b).begins=true then [] else s.txt)++(zaj b).content).length≤n+30
 rw [List.length_append]
 split
 · simp only [List.length_nil];omega
 · omega
theorem zxo {d:Dk} {at_:Int} {side g:Nat} {lk:Str}:∀ k,(scS d at_ side g lk k).txt.length≤30 * k
 | 0=>Nat.le_refl _
 | k+1=>by
   have ih:=zxo (d:=d) (at_:=at_) (side:=side) (g:=g) (lk:=lk) k
   show (match chS d at_ side g lk k with|none=>scS d at_ side g lk k|some (l,f)=>match zc3 d at_ side k g l f with|none=>scS d at_ side g lk k|some b=>scB (scS d at_ side g lk k) b).txt.length≤_
   split
   · omega
   · split
     · omega
     · exact Nat.le_trans (z4f ih) (by omega)
theorem zsv {d:Dk} {at_:Int} {side g:Nat} {lk:Str}:∀ k,(scS d at_ side g lk k).recs.length≤k
 | 0=>Nat.le_refl _
 | k+1=>by
   have ih:=zsv (d:=d) (at_:=at_) (side:=side) (g:=g) (lk:=lk) k
   show (match chS d at_ side g lk k with|none=>scS d at_ side g lk k|some (l,f)=>match zc3 d at_ side k g l f with|none=>scS d at_ side g lk k|some b=>scB (scS d at_ side g lk k) b).recs.length≤_
   split
   · omega
   · split
     · omega
     · show (if _ then _ else _:List Str).length≤_
       split
       · rw [List.length_append];simp only [List.length_cons,List.length_nil];omega
       · omega
theorem zkm {d:Dk} {at_:Int} {side g:Nat} {lk:Str} (h:lk.length=8):∀ k,(scS d at_ side g lk k).el.length=8
 | 0=>h
 | k+1=>by
   have ih:=zkm (d:=d) (at_:=at_) (side:=side) (g:=g) h k
   show (match chS d at_ side g lk k with|none=>scS d at_ side g lk k|some (l,f)=>match zc3 d at_ side k g l f with|none=>scS d at_ side g lk k|some b=>scB (scS d at_ side g lk k) b).el.length=_
   split
   · exact ih
   · split
     · exact ih
     · rename_i b _
       show (if _ then tx b 16 24 else _:Str).length=8
       split
       · exact zav b (by decide)
       · exact ih
structure Jn where
 g:Nat
 ses:Nat
 side:Nat
 used:Nat
 lk:Str
 recs:List Str
def zi0 (a b:Option Hd):Nat:=if a.isSome=false∨b.isSome=true∧(a.getD ⟨0,0⟩).g<(b.getD ⟨0,0⟩).g then 1 else 0
def zkn (a b:Option Hd):Hd:=(if zi0 a b=1 then b else a).getD ⟨0,0⟩
def z1q (d:Dk) (first:Int) (half ses side:Nat) (h:Hd):Jn :=
 ⟨h.g,ses,side,(scS d (first+side * half) side h.g (tx (mkH h.g h.n side) 48 56) (half / 2 - 1)).used,
  (scS d (first+side * half) side h.g (tx (mkH h.g h.n side) 48 56) (half / 2 - 1)).el,(scS d (first+side * half) side h.g (tx (mkH h.g h.n side) 48 56) (half / 2 - 1)).recs⟩
def z1r (d:Dk) (first n:Int):Int :=
 if zdg d first n≠0 then zdg d first n else
 if zbc (hds d first 0)=none∧zbc (hds d (first+(n / 2).toNat) 1)=none then 14 else
 if 4294967295<zao d first (n / 2).toNat then 2 else 0
def zxp (d:Dk) (first:Int) (half:Nat):Jn :=
 z1q d first half (zao d first half) (zi0 (zbc (hds d first 0)) (zbc (hds d (first+half) 1))) (zkn (zbc (hds d first 0)) (zbc (hds d (first+half) 1)))
theorem zxq (d:Dk) (at_:Int) (side:Nat):((zbc (hds d at_ side)).getD ⟨0,0⟩).g<4294967296∧((zbc (hds d at_ side)).getD ⟨0,0⟩).n<4294967296:=by
 have go:∀ (l:List Hd) (o:Option Hd),(∀ x∈l,x.g<4294967296∧x.n<4294967296)→(o.getD ⟨0,0⟩).g<4294967296∧(o.getD ⟨0,0⟩).n<4294967296→((l.foldl zem o).getD ⟨0,0⟩).g<4294967296∧((l.foldl zem o).getD ⟨0,0⟩).n<4294967296:=by
  intro l
  induction l with
  | nil=>intro o _ h;exact h
  | cons x l ih =>
   intro o hl h
   refine ih (zem o x) (fun y hy=>hl y (List.mem_cons_of_mem _ hy)) ?_
   have hx:=hl x List.mem_cons_self
   cases o with
   | none=>exact hx
   | some q =>
    have eb:zem (some q) x=if q.lt x=true then some x else some q:=rfl
    rw [eb]
    by_cases e:q.lt x=true
    · rw [if_pos e];exact hx
    · rw [if_neg e];exact h
 refine go _ none (fun x hx=>?_) (by decide)
 obtain ⟨s,_,rfl⟩:=List.mem_map.1 hx
 exact ⟨zsr s (by decide) rfl,zsr s (by decide) rfl⟩
end C23
namespace C22
theorem stp_lv {d:Dk} (h:d.after=-1):stp d=({ d with steps:=d.steps+1 },0):=by
 unfold stp
 rw [if_neg (by omega),if_neg (by omega)]
theorem rd_lv {d:Dk} (hd:d.dead=false) {i:Nat} {c:Cel} (h:d.cs[i]?=some c):rd d i=celRd c:=by
 have hl:=(List.getElem?_eq_some_iff.1 h).1
 have hk:chk d i=0:=by unfold chk;rw [if_neg (by rw [hd];simp),if_neg (by omega)]
 unfold rd
 rw [if_neg (by rw [hk];simp),Int.toNat_natCast,h]
structure Lv (d:Dk) (n:Int):Prop where
 ok:Okd d
 live:d.dead=false
 aft:d.after=-1
 good:∀ c∈d.cs,c.bad=false
 st:d.steps≤n
def topS (c:Cel):Sec:=(c.op.getLast?).getD c.s
def zbt (d:Dk) (i:Nat):Sec:=topS ((d.cs[i]?).getD zlz)
section
variable {d:Dk} {n:Int}
theorem Lv.mono (h:Lv d n) {m:Int} (hm:n≤m):Lv d m:=⟨h.ok,h.live,h.aft,h.good,by have:=h.st;omega⟩
theorem Lv.rd (h:Lv d n) {i:Nat} (hi:i<d.cs.length):rd d i=(zbt d i,0):=by
 rw [rd_lv h.live (List.getElem?_eq_getElem hi)]
 have hg:=h.good _ (List.getElem_mem hi)
 unfold zbt topS celRd
 rw [List.getElem?_eq_getElem hi]
 simp only [Option.getD_some]
 cases d.cs[i].op.getLast? with
 | some s=>rfl
 | none=>simp [hg]
theorem Lv.chk (h:Lv d n) {i:Nat} (hi:i<d.cs.length):chk d i=0:=by
 unfold C22.chk
 rw [if_neg (by rw [h.live];simp),if_neg (by omega)]
theorem Lv.wr (h:Lv d n) (hn:n≤900000000) {a:Nat} (ha:a<d.cs.length) (s:Sec) :
 (wr d a s).2=0∧Lv (wr d a s).1 (n+1)∧(wr d a s).1.cs.length=d.cs.length∧∀ i,zbt (wr d a s).1 i=if i=a then s else zbt d i:=by
 have hs:=h.st
 have ho:=(wr_ok h.ok (by omega) a s).1
 have e:C22.wr d a s=({ d with steps:=d.steps+1,cs:=d.cs.modify a fun c=>{ c with op:=c.op++[s] } },0):=by
  unfold C22.wr
  rw [if_neg (by rw [h.chk ha];simp),stp_lv h.aft,if_neg (by simp),Int.toNat_natCast]
 rw [e] at ho ⊢
 refine ⟨rfl,⟨ho,h.live,h.aft,fun c hc=>?_,by simp only;omega⟩,by simp,fun i=>?_⟩
 · rcases mem_modify hc with hc|⟨y,hy,rfl⟩
   · exact h.good c hc
   · exact h.good y hy
 · unfold zbt
   simp only [List.getElem?_modify]
   by_cases e1:i=a
   · subst e1
     rw [if_pos rfl,List.getElem?_eq_getElem ha]
     simp [topS]
   · rw [if_neg e1]
     cases hx:d.cs[i]? with
     | none=>rfl
     | some c=>simp [Ne.symm e1]
theorem Lv.sy (h:Lv d n) (hn:n≤900000000) :
 (sy d).2=0∧Lv (sy d).1 (n+1)∧(sy d).1.cs.length=d.cs.length∧∀ i,zbt (sy d).1 i=zbt d i:=by
 have hs:=h.st
 have ho:=(z9c h.ok (by omega)).1
 have e:C22.sy d=({ d with steps:=d.steps+1,cs:=d.cs.map syC },0):=by
  unfold C22.sy
  rw [if_neg (by rw [h.live];simp),stp_lv h.aft,if_neg (by simp)]
 rw [e] at ho ⊢
 refine ⟨rfl,⟨ho,h.live,h.aft,fun c hc=>?_,by simp only;omega⟩,by simp,fun i=>?_⟩
 · obtain ⟨y,hy,rfl⟩:=List.mem_map.1 hc
   unfold syC
   split
   · rfl
   · exact h.good y hy
 · unfold zbt
   simp only [List.getElem?_map]
   cases hx:d.cs[i]? with
   | none=>rfl
   | some c =>
    simp only [Option.map_some,Option.getD_some,topS,syC]
    cases hl:c.op.getLast? with
    | none=>simp [hl]
    | some s=>rfl
end
end C22
namespace C23
open C22 (Sec Dk rd wr sy Lv zbt z0)
theorem zl3 {d:Dk} {n:Int} (h:Lv d n) (hn:n≤800000000) {a:Nat} (ha:a+1<d.cs.length) (s:Sec) :
 (wr2 d a s).2=0∧Lv (wr2 d a s).1 (n+2)∧(wr2 d a s).1.cs.length=d.cs.length∧∀ i,zbt (wr2 d a s).1 i=if i=a∨i=a+1 then s else zbt d i:=by
 obtain ⟨a1,a2,a3,a4⟩:=h.wr (by omega) (show a<d.cs.length by omega) s
 obtain ⟨b1,b2,b3,b4⟩:=a2.wr (by omega) (show a+1<(wr d a s).1.cs.length by omega) s
 have e:wr2 d a s=wr (wr d a s).1 ((a+1:Nat):Int) s:=if_neg (fun h=>h a1)
 rw [e]
 refine ⟨b1,b2.mono (by omega),by omega,fun i=>?_⟩
 rw [b4,a4]
 by_cases e1:i=a+1
 · rw [if_pos e1,if_pos (.inr e1)]
 · rw [if_neg e1]
   by_cases e2:i=a
   · rw [if_pos e2,if_pos (.inl e2)]
   · rw [if_neg e2,if_neg (by omega)]
def flg (s:Str) (k:Nat):Nat:=(if k=0 then 1 else 0)+if k+1=np s then 2 else 0
def pcs (s:Str):List (Nat×Str):=(List.range (np s)).map fun k=>(flg s k,pc s k)
theorem zko (s:Str):(pcs s).length=np s:=by simp [pcs]
def frs (g ses side:Nat):Str→Nat→List (Nat×Str)→List Sec
 | _,_,[]=>[]
 | lk,u,(f,c)::l=>mkF g ses lk f c side u::frs g ses side (tx (mkF g ses lk f c side u) 16 24) (u+1) l
def lkE (g ses side:Nat):Str→Nat→List (Nat×Str)→Str
 | lk,_,[]=>lk
 | lk,u,(f,c)::l=>lkE g ses side (tx (mkF g ses lk f c side u) 16 24) (u+1) l
def zgr (at_ g ses side:Nat):Dk→Str→Nat→List (Nat×Str)→Dk
 | d,_,_,[]=>d
 | d,lk,u,(f,c)::l=>zgr at_ g ses side (wr2 d ((at_+2+2 * u:Nat):Int) (mkF g ses lk f c side u)).1 (tx (mkF g ses lk f c side u) 16 24) (u+1) l
theorem zdv (g ses side:Nat):∀ (l:List (Nat×Str)) (lk:Str) (u:Nat),(frs g ses side lk u l).length=l.length
 | [],_,_=>rfl
 | (f,c)::l,lk,u=>by rw [frs,List.length_cons,zdv g ses side l,List.length_cons]
theorem zik (g ses side:Nat):∀ (l m:List (Nat×Str)) (lk:Str) (u:Nat),frs g ses side lk u (l++m)=frs g ses side lk u l++frs g ses side (lkE g ses side lk u l) (u+l.length) m
 | [],m,lk,u=>rfl
 | (f,c)::l,m,lk,u=>by
   rw [List.cons_append,frs,frs,List.cons_append,zik g ses side l m,lkE,List.length_cons,show u+(l.length+1)=u+1+l.length by omega]
theorem zgs (g ses side:Nat):∀ (l m:List (Nat×Str)) (lk:Str) (u:Nat),lkE g ses side lk u (l++m)=lkE g ses side (lkE g ses side lk u l) (u+l.length) m
 | [],m,lk,u=>rfl
 | (f,c)::l,m,lk,u=>by
   rw [List.cons_append,lkE,zgs g ses side l m,lkE,List.length_cons,show u+(l.length+1)=u+1+l.length by omega]
theorem zm9 (at_ g ses side:Nat):∀ (l m:List (Nat×Str)) (d:Dk) (lk:Str) (u:Nat),zgr at_ g ses side d lk u (l++m)=zgr at_ g ses side (zgr at_ g ses side d lk u l) (lkE g ses side lk u l) (u+l.length) m
 | [],m,d,lk,u=>rfl
 | (f,c)::l,m,d,lk,u=>by
   rw [List.cons_append,zgr,zm9 at_ g ses side l m,lkE,zgr,List.length_cons,show u+(l.length+1)=u+1+l.length by omega]
theorem zbp {g ses side:Nat}:∀ (l:List (Nat×Str)) {lk:Str} (u:Nat),lk.length=8→(lkE g ses side lk u l).length=8
 | [],lk,u,h=>h
 | (f,c)::l,lk,u,h=>zbp l (u+1) (zav _ (by decide))
theorem zil {at_ g ses side:Nat}:∀ (l:List (Nat×Str)) {d:Dk} {n:Int} (lk:Str) (u:Nat),Lv d n→n+2 * l.length≤800000000→at_+2+2 * (u+l.length)≤d.cs.length →
 Lv (zgr at_ g ses side d lk u l) (n+2 * l.length)∧(zgr at_ g ses side d lk u l).cs.length=d.cs.length ∧
 ∀ i,zbt (zgr at_ g ses side d lk u l) i=if at_+2+2 * u≤i∧i<at_+2+2 * (u+l.length) then ((frs g ses side lk u l)[(i - (at_+2+2 * u)) / 2]?).getD z0 else zbt d i
 | [],d,n,lk,u,h,_,_=>by
   refine ⟨h.mono (by simp),rfl,fun i=>?_⟩
   rw [if_neg (by simp only [List.length_nil];omega)];rfl
 | (f,c)::l,d,n,lk,u,h,hn,hl=>by
   rw [List.length_cons] at hn hl
   obtain ⟨a1,a2,a3,a4⟩:=zl3 h (by omega) (a:=at_+2+2 * u) (by omega) (mkF g ses lk f c side u)
   obtain ⟨b1,b2,b3⟩:=zil (at_:=at_) (g:=g) (ses:=ses) (side:=side) l (tx (mkF g ses lk f c side u) 16 24) (u+1) a2 (by omega) (by rw [a3];omega)
   refine ⟨b1.mono (by rw [List.length_cons];omega),b2.trans a3,fun i=>?_⟩
   rw [zgr,b3,a4,frs,List.length_cons]
   by_cases e1:at_+2+2 * u≤i∧i<at_+2+2 * (u+(l.length+1))
   · rw [if_pos e1]
     by_cases e2:i<at_+2+2 * (u+1)
     · rw [if_neg (by omega),if_pos (by omega),show (i - (at_+2+2 * u)) / 2=0 by omega];rfl
     · rw [if_pos (by omega),show (i - (at_+2+2 * u)) / 2=(i - (at_+2+2 * (u+1))) / 2+1 by omega,List.getElem?_cons_succ]
   · rw [if_neg e1,if_neg (by omega),if_neg (by omega)]
def zbs (recs:List Str):List (Nat×Str):=recs.flatMap pcs
theorem zkp (recs:List Str) (s:Str):zbs (recs++[s])=zbs recs++pcs s:=by simp [zbs]
theorem zxr (s:Str):1≤np s:=Nat.le_max_left _ _
def npL (recs:List Str):Nat:=(recs.map np).sum
theorem zdh:∀ recs:List Str,(zbs recs).length=npL recs
 | []=>rfl
 | s::l=>by
   have:=zdh l
   unfold zbs npL at *
   rw [List.flatMap_cons,List.length_append,zko,this];rfl
end C23
namespace C23
open C22 (Sec Dk rd wr sy Lv zbt z0)
def zcp (d:Dk) (a:Int) (T:Sec→Bool) (x:Sec):Prop:=x∈zpo d a∧∀ s∈zpo d a,T s=true→s=x
theorem zfp:∀ (l:List Sec) (b:Sec),∃ c,l.foldl zd6 (some b)=some c
 | [],b=>⟨b,rfl⟩
 | s::l,b=>by
   have e:zd6 (some b) s=if (zaj b).n<(zaj s).n then some s else some b:=rfl
   rw [List.foldl_cons,e]
   split
   · exact zfp l s
   · exact zfp l b
theorem zxs {l:List Sec} {x:Sec} (h1:x∈l) (h2:∀ s∈l,s=x):zk6 l=some x:=by
 cases hb:zk6 l with
 | none =>
  cases l with
  | nil=>cases h1
  | cons s l =>
   obtain ⟨c,hc⟩:=zfp l s
   have:zk6 (s::l)=some c:=hc
   rw [hb] at this;cases this
 | some b=>rw [h2 b (zpi hb)]
theorem ztz {d:Dk} {at_:Int} {side k g:Nat} {lk:Str} {fst:Bool} {x:Sec} (h:zcp d (at_+2+2 * (k:Int)) (fun s=>isF s side k) x) (hf:fit side k g lk fst x=true):zc3 d at_ side k g lk fst=some x:=by
 refine zxs (List.mem_filter.2 ⟨h.1,hf⟩) fun s hs=>?_
 obtain ⟨h1,h2⟩:=List.mem_filter.1 hs
 refine h.2 s h1 ?_
 unfold fit at h2
 simp only [Bool.and_eq_true] at h2
 exact h2.1.1.1.1
theorem zt0 {d:Dk} {at_:Int} {side k g:Nat} {lk:Str} {fst:Bool} {x:Sec} (h:zcp d (at_+2+2 * (k:Int)) (fun s=>isF s side k) x) (hf:fit side k g lk fst x=false):zc3 d at_ side k g lk fst=none:=by
 have e:(zpo d (at_+2+2 * (k:Int))).filter (fit side k g lk fst)=[]:=by
  refine List.filter_eq_nil_iff.2 fun s hs h2=>?_
  have h3:=h2
  unfold fit at h2
  simp only [Bool.and_eq_true] at h2
  rw [h.2 s hs h2.1.1.1.1,hf] at h3
  cases h3
 unfold zc3
 rw [e];rfl
theorem z9k {s:Sec} {a b i:Nat} {l:Str} (h:tx s a b=l) (hi:a+i<b) (_hb:b≤64) (x:UInt8) (hx:l[i]?=some x):sb s (a+i)=x:=by
 have:=z9h s hi
 rw [h,hx] at this
 unfold sb
 rw [← this];rfl
theorem zrh {g n:Nat} {ch:Str} {fl:Nat} {c:Str} (side slot:Nat) (hg:g<4294967296) (hn:n<4294967296) (h:8≤ch.length) (hc:c.length≤30):zaj (mkF g n ch fl c side slot)=zsq g n (ch.take 8) fl c:=by
 obtain ⟨h1,h2,h3,h4,_⟩:=zpf (fl:=fl) side slot hg hn h hc
 obtain ⟨_,_,h5,_⟩:=zxk g n fl side slot h hc
 have e:tx (mkF g n ch fl c side slot) 26 56=(tx (mkF g n ch fl c side slot) 24 56).drop 2:=by unfold tx;rw [List.drop_drop]
 have e2:tx (mkF g n ch fl c side slot) 26 56=c++List.replicate (30 - c.length) 0:=by rw [e,h5];rfl
 unfold zaj zsq
 rw [h1,h2,h3,e2,show sb (mkF g n ch fl c side slot) 24=UInt8.ofNat fl from z9k (i:=0) h4 (by decide) (by decide) _ rfl,
  show sb (mkF g n ch fl c side slot) 25=UInt8.ofNat c.length from z9k (i:=1) h4 (by decide) (by decide) _ rfl]
def bgn (f:Nat):Bool:=decide (f=1) || decide (f=3)
def fin (f:Nat):Bool:=decide (f=2) || decide (f=3)
theorem zjf {g n:Nat} {lk:Str} {fl:Nat} {c:Str} (h:fl<256):(zsq g n lk fl c).begins=bgn fl∧(zsq g n lk fl c).ends=fin fl:=by
 have key:∀ k:Nat,k<256→decide (UInt8.ofNat fl=UInt8.ofNat k)=decide (fl=k):=by
  intro k hk
  by_cases e:fl=k
  · rw [e];simp
  · have:UInt8.ofNat fl≠UInt8.ofNat k:=by
     intro e2
     have:=congrArg UInt8.toNat e2
     simp only [UInt8.toNat_ofNat'] at this
     omega
    rw [decide_eq_false e,decide_eq_false this]
 unfold Fr.begins Fr.ends bgn fin zsq
 have k1:=key 1 (by decide)
 have k2:=key 2 (by decide)
 have k3:=key 3 (by decide)
 rw [← k1,← k2,← k3]
 exact ⟨rfl,rfl⟩
theorem zz4 {g n:Nat} {lk:Str} {fl:Nat} {c:Str} (h:c.length≤30):(zsq g n lk fl c).content=c:=by
 unfold Fr.content zsq
 simp only
 rw [UInt8.toNat_ofNat',Nat.mod_eq_of_lt (by omega),List.take_left' rfl]
theorem z9l {g n:Nat} {ch:Str} {fl:Nat} {c:Str} (side slot:Nat) (hg:g<4294967296) (hn:n<4294967296) (h:ch.length=8) (hc:c.length≤30) (hf:fl<256):fit side slot g ch (bgn fl) (mkF g n ch fl c side slot)=true:=by
 unfold fit
 rw [zrh side slot hg hn (by omega) hc,z9g g n fl side slot (by omega) hc,(zjf hf).1]
 have:ch.take 8=ch:=List.take_of_length_le (by omega)
 simp only [zsq,this,UInt8.toNat_ofNat',Bool.true_and,decide_true,beq_self_eq_true,Bool.and_true,decide_eq_true_eq]
 omega
theorem z9m {side slot g:Nat} {lk:Str} {fst:Bool} (hg:1≤g):fit side slot g lk fst z0=false:=by
 have:(zaj z0).g=0:=rfl
 unfold fit
 rw [this,decide_eq_false (show ¬ 0=g by omega)]
 simp
def Wp:Bool→List (Nat×Str)→Prop
 | _,[]=>True
 | b,(f,c)::l=>bgn f=b∧f<256∧c.length≤30∧Wp (fin f) l
def enE:Bool→List (Nat×Str)→Bool
 | b,[]=>b
 | _,(f,_)::l=>enE (fin f) l
theorem zpj:∀ (l m:List (Nat×Str)) (b:Bool),Wp b (l++m)↔Wp b l∧Wp (enE b l) m
 | [],m,b=>by simp [Wp,enE]
 | (f,c)::l,m,b=>by
   rw [List.cons_append,Wp,Wp,zpj l m,enE]
   constructor
   · rintro ⟨a,b,c,d,e⟩;exact ⟨⟨a,b,c,d⟩,e⟩
   · rintro ⟨⟨a,b,c,d⟩,e⟩;exact ⟨a,b,c,d,e⟩
theorem zna:∀ (l m:List (Nat×Str)) (b:Bool),enE b (l++m)=enE (enE b l) m
 | [],m,b=>rfl
 | (f,c)::l,m,b=>by rw [List.cons_append,enE,zna l m,enE]
theorem z1s (g ses side:Nat) (l:List (Nat×Str)) (lk:Str) (u k:Nat) (f:Nat) (c:Str) (h:l[k]?=some (f,c)):(frs g ses side lk u l)[k]?=some (mkF g ses (lkE g ses side lk u (l.take k)) f c side (u+k)):=by
 have hk:=(List.getElem?_eq_some_iff.1 h).1
 have e:l=l.take k++(f,c)::l.drop (k+1):=by
  rw [← (List.getElem?_eq_some_iff.1 h).2,List.getElem_cons_drop,List.take_append_drop]
 have hl:(l.take k).length=k:=by rw [List.length_take];omega
 conv=>lhs;rw [e]
 rw [zik,List.getElem?_append_right (by rw [zdv,hl];exact Nat.le_refl _),zdv,hl,Nat.sub_self]
 rfl
theorem zxt {l:List (Nat×Str)} {k:Nat} {x:Nat×Str} (h:l[k]?=some x):l.take (k+1)=l.take k++[x]:=by
 rw [List.take_add_one,h];rfl
def sc0 (lk:Str):Sc:=⟨[],0,0,[],lk⟩
theorem zpk {d:Dk} {at_:Int} {side g ses:Nat} {lk0:Str} {l:List (Nat×Str)} (hlk:lk0.length=8) (hg:g<4294967296) (hn:ses<4294967296) (hw:Wp true l)
 (hs:∀ (k:Nat) x,(frs g ses side lk0 0 l)[k]?=some x→zcp d (at_+2+2 * (k:Int)) (fun s=>isF s side k) x) :
 ∀ k,k≤l.length→chS d at_ side g lk0 k=some (lkE g ses side lk0 0 (l.take k),enE true (l.take k))∧scS d at_ side g lk0 k=(frs g ses side lk0 0 (l.take k)).foldl scB (sc0 lk0)
 | 0,_=>⟨rfl,rfl⟩
 | k+1,hk=>by
   obtain ⟨h1,h2⟩:=zpk hlk hg hn hw hs k (by omega)
   obtain ⟨⟨f,c⟩,hfc⟩:∃ x,l[k]?=some x:=⟨_,List.getElem?_eq_getElem (by omega)⟩
   have hx:=z1s g ses side l lk0 0 k f c hfc
   rw [Nat.zero_add] at hx
   have hl:(l.take k).length=k:=by rw [List.length_take];omega
   have e:l=l.take k++(f,c)::l.drop (k+1):=by
    rw [← (List.getElem?_eq_some_iff.1 hfc).2,List.getElem_cons_drop,List.take_append_drop]
   have hw2:Wp (enE true (l.take k)) ((f,c)::l.drop (k+1)):=by
    rw [e] at hw;exact ((zpj _ _ _).1 hw).2
   obtain ⟨w1,w2,w3,_⟩:=hw2
   have hfit:zc3 d at_ side k g (lkE g ses side lk0 0 (l.take k)) (enE true (l.take k))=some (mkF g ses (lkE g ses side lk0 0 (l.take k)) f c side k):=by
    refine ztz (hs k _ hx) ?_
    rw [← w1]
    exact z9l side k hg hn (zbp _ _ hlk) w3 w2
   have hfr:=zrh (fl:=f) (c:=c) side k hg hn (show 8≤(lkE g ses side lk0 0 (l.take k)).length by rw [zbp _ _ hlk];exact Nat.le_refl _) w3
   rw [zxt hfc]
   constructor
   · show (match chS d at_ side g lk0 k with|none=>none|some (l,f)=>(zc3 d at_ side k g l f).map fun b=>(tx b 16 24,(zaj b).ends))=_
     rw [h1]
     show ((zc3 d at_ side k g (lkE g ses side lk0 0 (l.take k)) (enE true (l.take k))).map fun b=>(tx b 16 24,(zaj b).ends))=_
     rw [hfit,zgs,zna,hl,Nat.zero_add]
     show some (tx (mkF g ses (lkE g ses side lk0 0 (l.take k)) f c side k) 16 24,(zaj (mkF g ses (lkE g ses side lk0 0 (l.take k)) f c side k)).ends)=some (tx (mkF g ses (lkE g ses side lk0 0 (l.take k)) f c side k) 16 24,fin f)
     rw [hfr,(zjf w2).2]
   · rw [zm8 h1 hfit,h2,zik,List.foldl_append,hl,Nat.zero_add]
     rfl
theorem zxu (s:Str) (k:Nat):flg s k<256:=by unfold flg;split<;>split<;>decide
theorem zxv (s:Str) (k:Nat):bgn (flg s k)=decide (k=0):=by
 unfold bgn flg
 by_cases h:k=0
 · rw [if_pos h,decide_eq_true h]
   split<;>rfl
 · rw [if_neg h,decide_eq_false h]
   split<;>rfl
theorem zxw (s:Str) (k:Nat):fin (flg s k)=decide (k+1=np s):=by
 unfold fin flg
 by_cases h:k=0
 · subst h
   by_cases h2:0+1=np s
   · rw [if_pos rfl,if_pos h2,decide_eq_true h2];rfl
   · rw [if_pos rfl,if_neg h2,decide_eq_false h2];rfl
 · by_cases h2:k+1=np s
   · rw [if_neg h,if_pos h2,decide_eq_true h2];rfl
   · rw [if_neg h,if_neg h2,decide_eq_false h2];rfl
theorem np_30 (s:Str):s.length≤30 * np s:=by unfold np;omega
def rng (s:Str) (j:Nat):List (Nat×Str):=(List.range j).map fun k=>(flg s k,pc s k)
theorem zjg (s:Str) (j:Nat):rng s (j+1)=rng s j++[(flg s j,pc s j)]:=by simp [rng,List.range_succ]
theorem zgt (s:Str) (j:Nat):(rng s j).length=j:=by simp [rng]
theorem z1t (s:Str):∀ j,j≤np s→Wp true (rng s j)∧enE true (rng s j)=if j=0 then true else decide (j=np s)
 | 0,_=>⟨trivial,rfl⟩
 | j+1,hj=>by
   obtain ⟨h1,h2⟩:=z1t s j (by omega)
   rw [zjg,zpj,zna]
   have e:enE (enE true (rng s j)) [(flg s j,pc s j)]=fin (flg s j):=rfl
   refine ⟨⟨h1,?_,zxu s j,zl2 s j,trivial⟩,by rw [e,zxw,if_neg (by omega)]⟩
   rw [h2,zxv]
   by_cases e:j=0
   · rw [if_pos e,decide_eq_true e]
   · rw [if_neg e,decide_eq_false e,decide_eq_false (by omega)]
theorem z9n (s:Str):Wp true (pcs s)∧enE true (pcs s)=true:=by
 obtain ⟨h1,h2⟩:=z1t s (np s) (Nat.le_refl _)
 have:=zxr s
 exact ⟨h1,by rw [show pcs s=rng s (np s) from rfl,h2,if_neg (by omega),decide_eq_true rfl]⟩
theorem zim:∀ recs:List Str,Wp true (zbs recs)∧enE true (zbs recs)=true
 | []=>⟨trivial,rfl⟩
 | s::l=>by
   obtain ⟨h1,h2⟩:=z9n s
   obtain ⟨h3,h4⟩:=zim l
   have e:zbs (s::l)=pcs s++zbs l:=by simp [zbs]
   rw [e,zpj,zna,h2]
   exact ⟨⟨h1,h3⟩,h4⟩
theorem zsw {g ses side:Nat} (hg:g<4294967296) (hn:ses<4294967296) (s:Str) (S:Sc) (u:Nat) (hu:S.k=u) {lk:Str} (hlk:lk.length=8):∀ j,j≤np s →
 (frs g ses side lk u (rng s j)).foldl scB S=if j=np s then ⟨s,u+j,u+j,S.recs++[s],lkE g ses side lk u (rng s j)⟩ else ⟨if j=0 then S.txt else s.take (30 * j),u+j,S.used,S.recs,S.el⟩
 | 0,_=>by
   have:=zxr s
   rw [if_neg (by omega),if_pos rfl,← hu];rfl
 | j+1,hj=>by
   rw [zjg,zik,List.foldl_append,zsw hg hn s S u hu hlk j (by omega),if_neg (by omega),zgt,zgs,zgt]
   have hfr:=zrh (fl:=flg s j) (c:=pc s j) side (u+j) hg hn (show 8≤(lkE g ses side lk u (rng s j)).length by rw [zbp _ _ hlk];exact Nat.le_refl _) (zl2 s j)
   show scB _ (mkF g ses (lkE g ses side lk u (rng s j)) (flg s j) (pc s j) side (u+j))=_
   unfold scB
   rw [hfr,(zjf (zxu s j)).1,(zjf (zxu s j)).2,zz4 (zl2 s j),zxv,zxw]
   have ht:(if decide (j=0)=true then [] else if j=0 then S.txt else s.take (30 * j))++pc s j=s.take (30 * (j+1)):=by
    by_cases e:j=0
    · subst e
      rw [if_pos (decide_eq_true rfl)];simp [pc]
    · rw [if_neg (by simp [e]),if_neg e,pc,show 30 * (j+1)=30 * j+30 by omega,List.take_add]
   simp only [ht]
   by_cases e:j+1=np s
   · have hf:s.take (30 * (j+1))=s:=List.take_of_length_le (by rw [e];exact np_30 s)
     rw [hf,if_pos (decide_eq_true e),if_pos (decide_eq_true e),if_pos (decide_eq_true e),if_pos e]
     rfl
   · rw [if_neg (by simp [e]),if_neg (by simp [e]),if_neg (by simp [e]),if_neg e,if_neg (by omega)]
     rfl
theorem zl4 {g ses side:Nat} (hg:g<4294967296) (hn:ses<4294967296):∀ (recs:List Str) {lk:Str} (u:Nat) (S:Sc),lk.length=8→S.k=u→S.used=u→S.el=lk→∃ t,
 (frs g ses side lk u (zbs recs)).foldl scB S=⟨t,u+npL recs,u+npL recs,S.recs++recs,lkE g ses side lk u (zbs recs)⟩
 | [],lk,u,S,hlk,h1,h2,h3=>by
   obtain ⟨a,b,c,d,e⟩:=S
   obtain rfl:b=u:=h1
   obtain rfl:c=b:=h2
   obtain rfl:e=lk:=h3
   exact ⟨a,by rw [List.append_nil];rfl⟩
 | s::l,lk,u,S,hlk,h1,h2,h3=>by
   have h:=zsw (side:=side) hg hn s S u h1 hlk (np s) (Nat.le_refl _)
   rw [if_pos rfl] at h
   have hp:rng s (np s)=pcs s:=rfl
   rw [hp] at h
   obtain ⟨t,ht⟩:=zl4 (side:=side) hg hn l (u+np s) ⟨s,u+np s,u+np s,S.recs++[s],lkE g ses side lk u (pcs s)⟩ (zbp (g:=g) (ses:=ses) (side:=side) (pcs s) u hlk) rfl rfl rfl
   have e:zbs (s::l)=pcs s++zbs l:=by simp [zbs]
   have e2:npL (s::l)=np s+npL l:=by simp [npL]
   refine ⟨t,?_⟩
   rw [e,zik,List.foldl_append,h,zgs,zko,ht,e2,Nat.add_assoc]
   simp
theorem zxx {g ses side:Nat} (hg:g<4294967296) (hn:ses<4294967296) {lk:Str} (hlk:lk.length=8) (recs:List Str):∃ t,
 (frs g ses side lk 0 (zbs recs)).foldl scB (sc0 lk)=⟨t,npL recs,npL recs,recs,lkE g ses side lk 0 (zbs recs)⟩:=by
 obtain ⟨t,h⟩:=zl4 (side:=side) hg hn recs 0 (sc0 lk) hlk rfl rfl rfl
 exact ⟨t,by rw [h,Nat.zero_add];rfl⟩
theorem zpl {d:Dk} {at_:Int} {side g ses q:Nat} {lk:Str} {recs:List Str} (hlk:lk.length=8) (hg:g<4294967296) (hg1:1≤g) (hn:ses<4294967296) (hq:npL recs≤q)
 (hs:∀ k:Nat,k<q→zcp d (at_+2+2 * (k:Int)) (fun s=>isF s side k) (((frs g ses side lk 0 (zbs recs))[k]?).getD z0)) :
 ∃ t,scS d at_ side g lk q=⟨t,npL recs,npL recs,recs,lkE g ses side lk 0 (zbs recs)⟩:=by
 obtain ⟨t,ht⟩:=zxx (side:=side) hg hn hlk recs
 have hl:=zdh recs
 have hc:=zpk (d:=d) (at_:=at_) (side:=side) (g:=g) (ses:=ses) (l:=zbs recs) hlk hg hn (zim recs).1 (fun k x hx=>by
  have hk:=(List.getElem?_eq_some_iff.1 hx).1
  rw [zdv,hl] at hk
  have:=hs k (by omega)
  rwa [hx] at this) (npL recs) (by omega)
 rw [List.take_of_length_le (by omega)] at hc
 refine ⟨t,?_⟩
 rw [← ht,← hc.2]
 by_cases e:npL recs=q
 · rw [e]
 · refine zsu ?_ q hq
   show (match chS d at_ side g lk (npL recs) with|none=>none|some (l,f)=>(zc3 d at_ side (npL recs) g l f).map fun b=>(tx b 16 24,(zaj b).ends))=none
   rw [hc.1]
   show ((zc3 d at_ side (npL recs) g (lkE g ses side lk 0 (zbs recs)) (enE true (zbs recs))).map fun b=>(tx b 16 24,(zaj b).ends))=none
   have hp:=hs (npL recs) (by omega)
   rw [List.getElem?_eq_none (by rw [zdv,hl];exact Nat.le_refl _)] at hp
   rw [zt0 hp (z9m hg1)];rfl
theorem zsx:∀ (l:List Hd) (h:Hd),(∀ x∈l,x=h)→l.foldl zem (some h)=some h
 | [],h,_=>rfl
 | x::l,h,hl=>by
   obtain rfl:=hl x List.mem_cons_self
   rw [List.foldl_cons]
   have e:zem (some x) x=if x.lt x=true then some x else some x:=rfl
   rw [e,ite_self]
   exact zsx l x fun y hy=>hl y (List.mem_cons_of_mem _ hy)
theorem zhq {d:Dk} {at_:Int} {side:Nat} {x:Sec} (h:zcp d at_ (fun s=>isH s side) x):zbc (hds d at_ side)=if isH x side=true then some (zk5 x) else none:=by
 have hall:∀ y∈hds d at_ side,y=zk5 x:=by
  intro y hy
  obtain ⟨s,hs,rfl⟩:=List.mem_map.1 hy
  obtain ⟨h1,h2⟩:=List.mem_filter.1 hs
  rw [h.2 s h1 h2]
 by_cases e:isH x side=true
 · rw [if_pos e]
   have hm:zk5 x∈hds d at_ side:=List.mem_map.2 ⟨x,List.mem_filter.2 ⟨h.1,e⟩,rfl⟩
   cases hl:hds d at_ side with
   | nil=>rw [hl] at hm;cases hm
   | cons y l =>
    rw [hl] at hall
    obtain rfl:=hall y List.mem_cons_self
    exact zsx l _ fun z hz=>hall z (List.mem_cons_of_mem _ hz)
 · rw [if_neg e]
   cases hl:hds d at_ side with
   | nil=>rfl
   | cons y l =>
    have hy:y∈hds d at_ side:=by rw [hl];exact List.mem_cons_self
    obtain ⟨s,hs,_⟩:=List.mem_map.1 hy
    obtain ⟨h1,h2⟩:=List.mem_filter.1 hs
    rw [h.2 s h1 h2] at h2
    exact absurd h2 e
structure zew (d:Dk) (at_:Int) (side q:Nat) (hx:Sec) (X:Nat→Sec):Prop where
 head:zcp d at_ (fun s=>isH s side) hx
 slot:∀ k:Nat,k<q→zcp d (at_+2+2 * (k:Int)) (fun s=>isF s side k) (X k)
theorem zew.hdn {d:Dk} {at_:Int} {side q:Nat} {hx:Sec} {X:Nat→Sec} (h:zew d at_ side q hx X) {B:Nat} (hB:0<B) (h1:isH hx side=true→(zk5 hx).n<B):most ((hds d at_ side).map (·.n))<B:=by
 refine zm7 hB fun y hy=>?_
 obtain ⟨z,hz,rfl⟩:=List.mem_map.1 hy
 obtain ⟨s,hs,rfl⟩:=List.mem_map.1 hz
 obtain ⟨h3,h4⟩:=List.mem_filter.1 hs
 have:=h.head.2 s h3 h4
 subst this
 exact h1 h4
theorem zew.fse {d:Dk} {at_:Int} {side q:Nat} {hx:Sec} {X:Nat→Sec} (h:zew d at_ side q hx X) {B:Nat} (hB:0<B) (h1:∀ k,k<q→be (tx (X k) 4 8)<B):∀ k,k≤q→zpp d at_ side k<B
 | 0,_=>hB
 | k+1,hk=>by
   refine Nat.max_lt.2 ⟨h.fse hB h1 k (by omega),zm7 hB fun y hy=>?_⟩
   obtain ⟨s,hs,rfl⟩:=List.mem_map.1 hy
   obtain ⟨h3,h4⟩:=List.mem_filter.1 hs
   rw [(h.slot k (by omega)).2 s h3 h4]
   exact h1 k (by omega)
theorem zkq {d:Dk} {first:Int} {half:Nat} {h0 h1:Sec} {X0 X1:Nat→Sec} (a:zew d first 0 (half / 2 - 1) h0 X0) (b:zew d (first+half) 1 (half / 2 - 1) h1 X1) {B:Nat} (hB:0<B)
 (a1:isH h0 0=true→(zk5 h0).n<B) (a2:∀ k,k<half / 2 - 1→be (tx (X0 k) 4 8)<B) (b1:isH h1 1=true→(zk5 h1).n<B) (b2:∀ k,k<half / 2 - 1→be (tx (X1 k) 4 8)<B):zao d first half≤B:=by
 have:=Nat.max_lt.2 ⟨Nat.max_lt.2 ⟨a.hdn hB a1,a.fse hB a2 _ (Nat.le_refl _)⟩,Nat.max_lt.2 ⟨b.hdn hB b1,b.fse hB b2 _ (Nat.le_refl _)⟩⟩
 unfold zao
 omega
theorem z9o (side:Nat):isH z0 side=false:=rfl
end C23
namespace C23
open C22 (Sec Dk Cel rd wr sy Lv zbt z0 Okd)
structure zd7 (d:Dk) (at_ q:Nat) (hx:Sec) (X:Nat→Sec):Prop where
 h0:zbt d at_=hx
 h1:zbt d (at_+1)=hx
 s0:∀ k,k<q→zbt d (at_+2+2 * k)=X k
 s1:∀ k,k<q→zbt d (at_+3+2 * k)=X k
theorem z4g {d:Dk} {n:Int} (h:Lv d n) {a:Nat} (ha:a+1<d.cs.length):zpo d (a:Int)=[zbt d a,zbt d (a+1)]:=by
 have e1:=h.rd (show a<d.cs.length by omega)
 have e2:=h.rd ha
 have e3:((a+1:Nat):Int)=(a:Int)+1:=by omega
 rw [e3] at e2
 unfold zpo
 rw [e1,e2];rfl
theorem zxy {d:Dk} {n:Int} (h:Lv d n) {a:Nat} (ha:a+1<d.cs.length) {x:Sec} (T:Sec→Bool) (h0:zbt d a=x) (h1:zbt d (a+1)=x):zcp d (a:Int) T x:=by
 rw [zcp,z4g h ha,h0,h1]
 refine ⟨List.mem_cons_self,fun s hs _=>?_⟩
 simpa using hs
theorem zd7.p {d:Dk} {n:Int} (hL:Lv d n) {at_ q:Nat} {hx:Sec} {X:Nat→Sec} (h:zd7 d at_ q hx X) (hl:at_+2+2 * q≤d.cs.length) (side:Nat):zew d at_ side q hx X:=by
 refine ⟨zxy hL (by omega) _ h.h0 h.h1,fun k hk=>?_⟩
 have e:(at_:Int)+2+2 * (k:Int)=((at_+2+2 * k:Nat):Int):=by omega
 rw [e]
 exact zxy hL (by omega) _ (h.s0 k hk) (by rw [show at_+2+2 * k+1=at_+3+2 * k by omega];exact h.s1 k hk)
def XL (g ses side:Nat) (lk:Str) (l:List (Nat×Str)):Nat→Sec:=fun k=>((frs g ses side lk 0 l)[k]?).getD z0
theorem zd7.put {d:Dk} {n:Int} (hL:Lv d n) {at_ q g ses side:Nat} {hx:Sec} {lk:Str} {l m:List (Nat×Str)} (h:zd7 d at_ q hx (XL g ses side lk l)) (hq:l.length+m.length≤q) (hl:at_+2+2 * q≤d.cs.length) (hn:n+2 * m.length≤800000000) :
 zd7 (zgr at_ g ses side d (lkE g ses side lk 0 l) l.length m) at_ q hx (XL g ses side lk (l++m)):=by
 obtain ⟨_,_,h3⟩:=zil (at_:=at_) (g:=g) (ses:=ses) (side:=side) m (lkE g ses side lk 0 l) l.length hL hn (by omega)
 have key:∀ k,XL g ses side lk (l++m) k=if l.length≤k∧k<l.length+m.length then ((frs g ses side (lkE g ses side lk 0 l) l.length m)[k - l.length]?).getD z0 else XL g ses side lk l k:=by
  intro k
  unfold XL
  rw [zik,Nat.zero_add]
  by_cases e:k<l.length
  · rw [List.getElem?_append_left (by rw [zdv];exact e),if_neg (by omega)]
  · rw [List.getElem?_append_right (by rw [zdv];omega),zdv]
    by_cases e2:k<l.length+m.length
    · rw [if_pos ⟨by omega,e2⟩]
    · rw [if_neg (by omega),List.getElem?_eq_none (by rw [zdv];omega),List.getElem?_eq_none (by rw [zdv];omega)]
 refine ⟨by rw [h3,if_neg (by omega)];exact h.h0,by rw [h3,if_neg (by omega)];exact h.h1,fun k hk=>?_,fun k hk=>?_⟩
 · rw [h3,key,h.s0 k hk]
   by_cases e:l.length≤k∧k<l.length+m.length
   · rw [if_pos e,if_pos (by omega),show (at_+2+2 * k - (at_+2+2 * l.length)) / 2=k - l.length by omega]
   · rw [if_neg e,if_neg (by omega)]
 · rw [h3,key,h.s1 k hk]
   by_cases e:l.length≤k∧k<l.length+m.length
   · rw [if_pos e,if_pos (by omega),show (at_+3+2 * k - (at_+2+2 * l.length)) / 2=k - l.length by omega]
   · rw [if_neg e,if_neg (by omega)]
theorem zd7.frame {d d':Dk} {at_ q:Nat} {hx:Sec} {X:Nat→Sec} (h:zd7 d at_ q hx X) (hs:∀ i,at_≤i→i<at_+2+2 * q→zbt d' i=zbt d i):zd7 d' at_ q hx X :=
 ⟨by rw [hs _ (by omega) (by omega)];exact h.h0,by rw [hs _ (by omega) (by omega)];exact h.h1,fun k hk=>by rw [hs _ (by omega) (by omega)];exact h.s0 k hk,fun k hk=>by rw [hs _ (by omega) (by omega)];exact h.s1 k hk⟩
theorem zsy {g ses side:Nat} {lk:Str} {l:List (Nat×Str)} {B:Nat} (hlk:lk.length=8) (hg:g<4294967296) (hn:ses<4294967296) (hw:Wp true l) (hB:ses<B) (k:Nat):be (tx (XL g ses side lk l k) 4 8)<B:=by
 unfold XL
 cases hx:l[k]? with
 | none =>
  rw [List.getElem?_eq_none (by rw [zdv];exact List.getElem?_eq_none_iff.1 hx)]
  show be (tx z0 4 8)<B
  have:be (tx z0 4 8)=0:=rfl
  omega
 | some fc =>
  obtain ⟨f,c⟩:=fc
  have hk:=(List.getElem?_eq_some_iff.1 hx).1
  have e:l=l.take k++(f,c)::l.drop (k+1):=by
   rw [← (List.getElem?_eq_some_iff.1 hx).2,List.getElem_cons_drop,List.take_append_drop]
  rw [e] at hw
  obtain ⟨w1,w2,w3,_⟩:=((zpj _ _ _).1 hw).2
  rw [z1s g ses side l lk 0 k f c hx]
  show be (tx (mkF g ses _ f c side (0+k)) 4 8)<B
  rw [(zpf (fl:=f) side (0+k) hg hn (by rw [zbp _ _ hlk];exact Nat.le_refl _) w3).2.1]
  exact hB
theorem zc4 (s:Sec):(tx s 48 56).length=8:=zav s (by decide)
theorem opn_A {d:Dk} {n:Int} {half:Nat} (hhalf:half=(n / 2).toNat) (hp:zdg d 0 n=0) {b0 s1 B:Nat} {recs:List Str} (h0:zew d 0 0 (half / 2 - 1) (mkH 1 b0 0) (XL 1 s1 0 (tx (mkH 1 b0 0) 48 56) (zbs recs)))
 (h1:zew d (0+half) 1 (half / 2 - 1) z0 (fun _=>z0)) (hB:b0<B) (hs:s1<B) (hB2:B<4294967296) (hq:npL recs≤half / 2 - 1) :
 z1r d 0 n=0∧∃ ses,ses≤B∧zxp d 0 half=⟨1,ses,0,npL recs,lkE 1 s1 0 (tx (mkH 1 b0 0) 48 56) 0 (zbs recs),recs⟩:=by
 have hb:zao d 0 half≤B:=zkq h0 h1 (by omega) (fun _=>by show be _<_;rw [(zho (by decide) (by omega) 0).2];exact hB)
  (fun k _=>zsy (zc4 _) (by decide) (by omega) (zim recs).1 hs k) (fun h=>by cases h) (fun k _=>by show be (tx z0 4 8)<B;have:be (tx z0 4 8)=0:=rfl;omega)
 have e0:=zhq h0.head
 rw [if_pos (zxj 1 b0 0)] at e0
 have eh:zk5 (mkH 1 b0 0)=⟨1,b0⟩:=by unfold zk5;rw [(zho (g:=1) (n:=b0) (by decide) (by omega) 0).1,(zho (g:=1) (n:=b0) (by decide) (by omega) 0).2]
 rw [eh] at e0
 have e1:=zhq h1.head
 rw [if_neg (by simp [z9o])] at e1
 constructor
 · unfold z1r
   rw [if_neg (fun h=>h hp),← hhalf,e0,e1,if_neg (by simp),if_neg (by omega)]
 · obtain ⟨t,ht⟩:=zpl (d:=d) (at_:=0) (side:=0) (q:=half / 2 - 1) (recs:=recs) (zc4 (mkH 1 b0 0)) (g:=1) (ses:=s1) (by decide) (by decide) (by omega) hq h0.slot
   refine ⟨_,hb,?_⟩
   unfold zxp
   rw [e0,e1]
   have es:zi0 (some ⟨1,b0⟩) none=0:=rfl
   have ehd:zkn (some ⟨1,b0⟩) none=⟨1,b0⟩:=rfl
   rw [es,ehd]
   unfold z1q
   have ea:(0:Int)+((0:Nat):Int) * (half:Int)=0:=by omega
   simp only [ea]
   rw [ht]
theorem opn_B {d:Dk} {n:Int} {half:Nat} (hhalf:half=(n / 2).toNat) (hp:zdg d 0 n=0) {b0 s2 B:Nat} {X0:Nat→Sec} {recs:List Str} (h0:zew d 0 0 (half / 2 - 1) (mkH 1 b0 0) X0)
 (h1:zew d (0+half) 1 (half / 2 - 1) (mkH 2 s2 1) (XL 2 s2 1 (tx (mkH 2 s2 1) 48 56) (zbs recs))) (hB:b0<B) (hX:∀ k,k<half / 2 - 1→be (tx (X0 k) 4 8)<B) (hs2:s2<B) (hB2:B<4294967296) (hq:npL recs≤half / 2 - 1) :
 z1r d 0 n=0∧∃ ses,ses≤B∧zxp d 0 half=⟨2,ses,1,npL recs,lkE 2 s2 1 (tx (mkH 2 s2 1) 48 56) 0 (zbs recs),recs⟩:=by
 have hb:zao d 0 half≤B:=zkq h0 h1 (by omega) (fun _=>by show be _<_;rw [(zho (by decide) (by omega) 0).2];exact hB)
  hX (fun _=>by show be _<_;rw [(zho (by decide) (by omega) 1).2];exact hs2) (fun k _=>zsy (zc4 _) (by decide) (by omega) (zim recs).1 hs2 k)
 have e0:=zhq h0.head
 rw [if_pos (zxj 1 b0 0)] at e0
 have eh:zk5 (mkH 1 b0 0)=⟨1,b0⟩:=by unfold zk5;rw [(zho (g:=1) (n:=b0) (by decide) (by omega) 0).1,(zho (g:=1) (n:=b0) (by decide) (by omega) 0).2]
 rw [eh] at e0
 have e1:=zhq h1.head
 rw [if_pos (zxj 2 s2 1)] at e1
 have eh2:zk5 (mkH 2 s2 1)=⟨2,s2⟩:=by unfold zk5;rw [(zho (g:=2) (n:=s2) (by decide) (by omega) 1).1,(zho (g:=2) (n:=s2) (by decide) (by omega) 1).2]
 rw [eh2] at e1
 constructor
 · unfold z1r
   rw [if_neg (fun h=>h hp),← hhalf,e0,e1,if_neg (by simp),if_neg (by omega)]
 · obtain ⟨t,ht⟩:=zpl (d:=d) (at_:=0+half) (side:=1) (q:=half / 2 - 1) (recs:=recs) (zc4 (mkH 2 s2 1)) (g:=2) (ses:=s2) (by decide) (by decide) (by omega) hq h1.slot
   refine ⟨_,hb,?_⟩
   unfold zxp
   rw [e0,e1]
   have es:zi0 (some ⟨1,b0⟩) (some ⟨2,s2⟩)=1:=rfl
   have ehd:zkn (some ⟨1,b0⟩) (some ⟨2,s2⟩)=⟨2,s2⟩:=rfl
   rw [es,ehd]
   unfold z1q
   have ea:(0:Int)+((1:Nat):Int) * (half:Int)=0+half:=by omega
   simp only [ea]
   rw [ht]
theorem zz5 {N:Nat} (h1:1≤N) (h2:N≤65536):Lv (C22.fresh N) 0∧(C22.fresh N).cs.length=N∧∀ i,zbt (C22.fresh N) i=z0:=by
 refine ⟨⟨C22.okd_fresh h1 h2,rfl,rfl,fun c hc=>?_,Int.le_refl _⟩,by simp [C22.fresh],fun i=>?_⟩
 · obtain rfl:=(List.mem_replicate.1 hc).2;rfl
 · unfold zbt C22.fresh
   simp only [List.getElem?_replicate]
   split<;>rfl
theorem zt1 {d:Dk} {n:Int} (h:d.dead=false) (h8:8≤n) (hl:n≤d.cs.length):zdg d 0 n=0:=by
 unfold zdg
 rw [if_neg (by omega),if_neg (by rw [h];simp)]
theorem zxz {N:Nat} {n:Int} {half:Nat} (hhalf:half=(n / 2).toNat) (h8:8≤n) (hN:n≤N) (hN2:N≤65536) :
 (fmt (C22.fresh N) 0 n).2=0∧Lv (fmt (C22.fresh N) 0 n).1 5∧(fmt (C22.fresh N) 0 n).1.cs.length=N∧∃ b0,b0≤1 ∧
 zd7 (fmt (C22.fresh N) 0 n).1 0 (half / 2 - 1) (mkH 1 b0 0) (fun _=>z0)∧zd7 (fmt (C22.fresh N) 0 n).1 half (half / 2 - 1) z0 (fun _=>z0):=by
 obtain ⟨l1,l2,l3⟩:=zz5 (N:=N) (by omega) hN2
 have hp:=zt1 l1.live h8 (by rw [l2];omega)
 have q0:zd7 (C22.fresh N) 0 (half / 2 - 1) z0 (fun _=>z0):=⟨l3 _,l3 _,fun _ _=>l3 _,fun _ _=>l3 _⟩
 have q1:zd7 (C22.fresh N) half (half / 2 - 1) z0 (fun _=>z0):=⟨l3 _,l3 _,fun _ _=>l3 _,fun _ _=>l3 _⟩
 have p0:=q0.p l1 (by rw [l2];omega) 0
 have p1:=q1.p l1 (by rw [l2];omega) 1
 have hz:be (tx z0 4 8)<1:=by decide
 have ez:((0:Nat):Int)=0:=rfl
 rw [ez] at p0
 have e2:(0:Int)+(half:Int)=((half:Nat):Int):=by omega
 have hb:zao (C22.fresh N) 0 half≤1:=zkq p0 (by rw [e2];exact p1) (by decide) (fun h=>by cases h) (fun _ _=>hz) (fun h=>by cases h) (fun _ _=>hz)
 obtain ⟨b0,hb0⟩:∃ b0,b0=zao (C22.fresh N) 0 half:=⟨_,rfl⟩
 rw [← hb0] at hb
 obtain ⟨w1,w2,w3,w4⟩:=zl3 l1 (by decide) (a:=0) (by rw [l2];omega) (mkH 1 b0 0)
 rw [ez] at w1 w2 w3 w4
 obtain ⟨v1,v2,v3,v4⟩:=zl3 w2 (by decide) (a:=half) (by rw [w3,l2];omega) z0
 obtain ⟨u1,u2,u3,u4⟩:=v2.sy (by decide)
 have hd:(n:Int) / 2=(half:Int):=by omega
 have e:fmt (C22.fresh N) 0 n=sy (wr2 (wr2 (C22.fresh N) 0 (mkH 1 b0 0)).1 (half:Int) z0).1:=by
  unfold fmt
  rw [if_neg (fun h=>h hp),← hhalf,← hb0,if_neg (by omega),if_neg (fun h=>h w1),hd,e2,if_neg (fun h=>h v1)]
 rw [e]
 refine ⟨u1,u2.mono (by decide),by rw [u3,v3,w3,l2],b0,hb,?_,?_⟩
 · refine ⟨by rw [u4,v4,w4];simp;omega,by rw [u4,v4,w4];simp;omega,fun k hk=>?_,fun k hk=>?_⟩
   all_goals rw [u4,v4,w4,if_neg (by omega),if_neg (by omega),l3]
 · refine ⟨by rw [u4,v4,if_pos (.inl rfl)],by rw [u4,v4,if_pos (.inr rfl)],fun k hk=>?_,fun k hk=>?_⟩
   all_goals rw [u4,v4,w4,if_neg (by omega),if_neg (by omega),l3]
end C23
namespace C23
open C22 (Sec Dk Cel rd wr sy Lv zbt z0 Okd zie zek kept flp zk4 rot)
def Syn (d:Dk):Prop:=∀ c∈d.cs,c.op=[]
def bs (d:Dk):List (Sec×Bool):=d.cs.map fun c=>(c.s,c.bad)
theorem z1u {d:Dk} {n:Int} (h:Lv d n):Syn (sy d).1:=by
 intro c hc
 have e:C22.sy d=({ d with steps:=d.steps+1,cs:=d.cs.map C22.syC },0):=by
  unfold C22.sy
  rw [if_neg (by rw [h.live];simp),C22.stp_lv h.aft,if_neg (by simp)]
 rw [e] at hc
 obtain ⟨y,hy,rfl⟩:=List.mem_map.1 hc
 unfold C22.syC
 split
 · rfl
 · rename_i hl;exact List.getLast?_eq_none_iff.1 hl
theorem z4h (d:Dk) (i:Int) (s:Sec):bs (wr d i s).1=bs d:=by
 unfold wr
 split
 · rfl
 · split
   · unfold C22.stp;split<;>rfl
   · unfold bs
     simp only
     apply List.ext_getElem?
     intro k
     rw [List.getElem?_map,List.getElem?_map,List.getElem?_modify]
     cases d.cs[k]? with
     | none=>rfl
     | some x=>simp only [Option.map_some];split<;>rfl
theorem z9p (d:Dk) (i:Int) (s:Sec):bs (wr2 d i s).1=bs d:=by
 unfold wr2
 split
 · exact z4h d i s
 · rw [z4h,z4h]
theorem zx0 (at_ g ses side:Nat):∀ (l:List (Nat×Str)) (d:Dk) (lk:Str) (u:Nat),bs (zgr at_ g ses side d lk u l)=bs d
 | [],d,lk,u=>rfl
 | (f,c)::l,d,lk,u=>by rw [zgr,zx0 at_ g ses side l,z9p]
theorem zx1 (c:Cel):kept c 0=⟨c.s,c.bad,[]⟩:=by
 unfold kept
 have:C22.remOf c.op.length 0=0:=by
  unfold C22.remOf
  have:(Int.tmod 0 ((c.op.length:Int)+3))=0:=Int.zero_tmod _
  rw [this,Int.zero_add]
  exact Int.tmod_self
 rw [if_pos this]
theorem zgu:∀ (l:List Cel) (n:Nat),zek [0] l n=l.map fun c=>⟨c.s,c.bad,[]⟩
 | [],_=>rfl
 | c::l,n=>by
   have hk:C22.keepAt [0] n=0:=by
    unfold C22.keepAt
    rw [if_neg (by simp)]
    have:n % [(0:Int)].length=0:=Nat.mod_one n
    rw [this];rfl
   rw [zek]
   split
   · rename_i h
     rw [zgu l n,List.map_cons]
     congr 1
     cases c;simp only at h;subst h;rfl
   · rw [hk,zx1,zgu l (n+1),List.map_cons]
theorem zz6 {d e:Dk} {n:Int} (h:Lv e n) (hs:Syn e) (hb:bs d=bs e):Lv (zie d [0]) 0∧(zie d [0]).cs.length=e.cs.length∧∀ i,zbt (zie d [0]) i=zbt e i:=by
 have e1:(zie d [0]).cs=e.cs:=by
  show zek [0] d.cs 0=e.cs
  rw [zgu]
  have k1:d.cs.map (fun c=>(⟨c.s,c.bad,[]⟩:Cel))=(bs d).map fun x=>⟨x.1,x.2,[]⟩:=by unfold bs;rw [List.map_map];rfl
  rw [k1,hb]
  unfold bs
  rw [List.map_map]
  have:∀ c∈e.cs,((fun x:Sec×Bool=>(⟨x.1,x.2,[]⟩:Cel)) ∘ fun c=>(c.s,c.bad)) c=id c:=by
   intro c hc
   have:=hs c hc
   cases c;simp only at this;subst this;rfl
  rw [List.map_congr_left this,List.map_id]
 refine ⟨⟨⟨?_,?_,?_,?_,?_,?_⟩,rfl,rfl,?_,Int.le_refl _⟩,by rw [e1],fun i=>by unfold zbt;rw [e1]⟩
 · rw [e1];exact h.ok.pos
 · rw [e1];exact h.ok.most
 · rw [e1];exact h.ok.rot
 · simp [zie]
 · rw [e1];intro c hc;rw [hs c hc];simp [zie]
 · simp [zie]
 · rw [e1];exact h.good
def zez (d:Dk) (a:Nat) (x:Sec):Prop:=d.cs[a]?=some ⟨x,false,[]⟩
theorem zpm {d:Dk} {n:Int} (h:Lv d n) (hs:Syn d) {a:Nat} (ha:a<d.cs.length):zez d a (zbt d a):=by
 unfold zez zbt
 rw [List.getElem?_eq_getElem ha]
 have h1:=h.good _ (List.getElem_mem ha)
 have h2:=hs _ (List.getElem_mem ha)
 show some d.cs[a]=some ⟨C22.topS d.cs[a],false,[]⟩
 generalize d.cs[a]=c at *
 cases c
 simp only at h1 h2
 subst h1 h2;rfl
theorem znb {d:Dk} (hd:d.dead=false) {a:Nat} {c:Cel} (h:d.cs[a]?=some c):rd d (a:Int)=C22.celRd c:=C22.rd_lv hd h
theorem zt2 {d d':Dk} (hd:d.dead=false) (hd':d'.dead=false) {a:Nat} (h0:d'.cs[a]?=d.cs[a]?) (h1:d'.cs[a+1]?=d.cs[a+1]?) (hl:d'.cs.length=d.cs.length):zpo d' (a:Int)=zpo d (a:Int):=by
 have key:∀ b:Nat,d'.cs[b]?=d.cs[b]?→rd d' (b:Int)=rd d (b:Int):=by
  intro b hb
  unfold rd C22.chk
  rw [hd,hd',hl,Int.toNat_natCast,hb]
 have e3:(a:Int)+1=((a+1:Nat):Int):=by omega
 unfold zpo
 rw [e3,key a h0,key (a+1) h1]
theorem zt3 {d d':Dk} (hd:d.dead=false) (hd':d'.dead=false) {a:Nat} (h0:d'.cs[a]?=d.cs[a]?) (h1:d'.cs[a+1]?=d.cs[a+1]?) (hl:d'.cs.length=d.cs.length) {T:Sec→Bool} {x:Sec} (h:zcp d (a:Int) T x):zcp d' (a:Int) T x:=by
 unfold zcp
 rw [zt2 hd hd' h0 h1 hl]
 exact h
theorem zkr {d:Dk} (hd:d.dead=false) {a:Nat} {x:Sec} (T:Sec→Bool) (h0:zez d a x) (h1:zez d (a+1) x):zcp d (a:Int) T x:=by
 have e1:=znb hd h0
 have e2:=znb hd h1
 have e3:((a+1:Nat):Int)=(a:Int)+1:=by omega
 rw [e3] at e2
 unfold zcp zpo
 rw [e1,e2]
 refine ⟨List.mem_cons_self,fun s hs _=>?_⟩
 simpa [C22.celRd] using hs
theorem zpn {d:Dk} (hd:d.dead=false) {a b i:Nat} {x:Sec} {T:Sec→Bool} (hi:i=a∧b=a+1∨i=a+1∧b=a) (hb:zez d b x) (h:(rd d (i:Int)).2=0→T (rd d (i:Int)).1=true→False):zcp d (a:Int) T x:=by
 have e1:=znb hd hb
 have e3:((a+1:Nat):Int)=(a:Int)+1:=by omega
 have ev:C22.celRd ⟨x,false,[]⟩=(x,0):=rfl
 rw [ev] at e1
 have hT:∀ s∈(if (rd d (i:Int)).2=0 then [(rd d (i:Int)).1] else []),T s=true→s=x:=by
  intro s hs ht
  split at hs
  · rename_i h2
    obtain rfl:s=(rd d (i:Int)).1:=by simpa using hs
    exact absurd ht (fun h3=>h h2 h3)
  · cases hs
 unfold zcp zpo
 rcases hi with ⟨rfl,rfl⟩|⟨rfl,rfl⟩
 · rw [e3] at e1
   rw [e1]
   refine ⟨List.mem_append_right _ List.mem_cons_self,fun s hs ht=>?_⟩
   rcases List.mem_append.1 hs with hs|hs
   · exact hT s hs ht
   · simpa using hs
 · rw [e3] at hT
   rw [e1]
   refine ⟨List.mem_append_left _ List.mem_cons_self,fun s hs ht=>?_⟩
   rcases List.mem_append.1 hs with hs|hs
   · simpa using hs
   · exact hT s hs ht
def pAt (half s pr:Nat):Nat:=s * half+2 * pr
def pT (s pr:Nat) (x:Sec):Bool:=if pr=0 then isH x s else isF x s (pr - 1)
def pX (h0 h1:Sec) (X0 X1:Nat→Sec) (s pr:Nat):Sec:=if pr=0 then (if s=0 then h0 else h1) else (if s=0 then X0 (pr - 1) else X1 (pr - 1))
structure zk7 (d:Dk) (N half k:Nat) (W:Nat→Nat→Sec):Prop where
 ok:Okd d
 live:d.dead=false
 len:d.cs.length=N
 st:d.steps≤1000000
 done:∀ s pr,s<2→2 * pr+1<half→2 * pr+s<k→zcp d (pAt half s pr:Int) (pT s pr) (W s pr)
 rest:∀ s pr,s<2→2 * pr+1<half→k≤2 * pr+s→zez d (pAt half s pr) (W s pr)∧zez d (pAt half s pr+1) (W s pr)
theorem zk7.skip {d:Dk} {N half k:Nat} {W:Nat→Nat→Sec} (h:zk7 d N half k W):zk7 d N half (k+1) W:=by
 refine ⟨h.ok,h.live,h.len,h.st,fun s pr hs hp hk=>?_,fun s pr hs hp hk=>h.rest s pr hs hp (by omega)⟩
 by_cases e:2 * pr+s<k
 · exact h.done s pr hs hp e
 · obtain ⟨a,b⟩:=h.rest s pr hs hp (by omega)
   exact zkr h.live _ a b
theorem zk7.step {d d':Dk} {N half k s pr i:Nat} {W:Nat→Nat→Sec} (h:zk7 d N half k W) (hk:k=2 * pr+s) (hs:s<2) (hp:2 * pr+1<half) (hi:i=pAt half s pr∨i=pAt half s pr+1)
 (ok:Okd d') (live:d'.dead=false) (len:d'.cs.length=N) (st:d'.steps≤1000000) (hc:∀ b,b≠i→d'.cs[b]?=d.cs[b]?)
 (hT:(rd d' (i:Int)).2=0→pT s pr (rd d' (i:Int)).1=true→False):zk7 d' N half (k+1) W:=by
 have hd:∀ s' pr',s'<2→2 * pr'+1<half→¬ (s'=s∧pr'=pr)→pAt half s' pr'≠i∧pAt half s' pr'+1≠i:=by
  intro s' pr' hs' hp' hne
  unfold pAt at *
  have c1:s=0∨s=1:=by omega
  have c2:s'=0∨s'=1:=by omega
  rcases c1 with rfl|rfl<;>rcases c2 with rfl|rfl<;>simp only [Nat.zero_mul,Nat.one_mul,Nat.zero_add,true_and] at * <;> omega
 refine ⟨ok,live,len,st,fun s' pr' hs' hp' hk'=>?_,fun s' pr' hs' hp' hk'=>?_⟩
 · by_cases e:s'=s∧pr'=pr
   · obtain ⟨rfl,rfl⟩:=e
     obtain ⟨a,b⟩:=h.rest s' pr' hs' hp' (by omega)
     rcases hi with rfl|rfl
     · exact zpn live (b:=pAt half s' pr'+1) (.inl ⟨rfl,rfl⟩) (by unfold zez;rw [hc _ (by omega)];exact b) hT
     · exact zpn live (b:=pAt half s' pr') (.inr ⟨rfl,rfl⟩) (by unfold zez;rw [hc _ (by omega)];exact a) hT
   · obtain ⟨n1,n2⟩:=hd s' pr' hs' hp' e
     have:2 * pr'+s'<k:=by omega
     exact zt3 h.live live (hc _ n1) (hc _ n2) (by rw [len,h.len]) (h.done s' pr' hs' hp' this)
 · obtain ⟨a,b⟩:=h.rest s' pr' hs' hp' (by omega)
   obtain ⟨n1,n2⟩:=hd s' pr' hs' hp' (by omega)
   exact ⟨by unfold zez;rw [hc _ n1];exact a,by unfold zez;rw [hc _ n2];exact b⟩
theorem zpb {d:Dk} (h:Okd d) (hd:d.dead=false) {i:Nat} (hi:i<d.cs.length):Okd (rot d i).1∧(rot d i).2=0∧(rot d i).1.dead=false∧(rot d i).1.cs.length=d.cs.length∧(rot d i).1.steps=d.steps ∧
 (∀ b,b≠i→(rot d i).1.cs[b]?=d.cs[b]?)∧(d.cs[i].op=[]→(rd (rot d i).1 (i:Int)).2≠0):=by
 have hc:C22.chk d i=0:=by unfold C22.chk;rw [if_neg (by rw [hd];simp),if_neg (by omega)]
 have e:rot d i=({ d with cs:=d.cs.modify i fun c=>{ c with s:=z0,bad:=true } },0):=by
  unfold rot
  rw [if_neg (fun h=>h hc),Int.toNat_natCast]
 rw [e]
 refine ⟨⟨by simpa using h.pos,by simpa using h.most,fun c hc=>?_,h.st,fun c hc=>?_,h.aft⟩,rfl,hd,by simp,rfl,fun b hb=>?_,fun hop=>?_⟩
 · rcases C22.mem_modify hc with hc|⟨y,hy,rfl⟩
   · exact h.rot c hc
   · intro _;rfl
 · rcases C22.mem_modify hc with hc|⟨y,hy,rfl⟩
   · exact h.few c hc
   · exact h.few y hy
 · simp only [List.getElem?_modify]
   cases d.cs[b]? with
   | none=>rfl
   | some c=>simp [Ne.symm hb]
 · have hg:(d.cs.modify i fun c=>{ c with s:=z0,bad:=true })[i]?=some ⟨z0,true,d.cs[i].op⟩:=by
    rw [List.getElem?_modify,List.getElem?_eq_getElem hi]
    simp
   have hr:=znb (d:={ d with cs:=d.cs.modify i fun c=>{ c with s:=z0,bad:=true } }) hd hg
   rw [hop] at hr
   show (rd { d with cs:=d.cs.modify i fun c=>{ c with s:=z0,bad:=true } } (i:Int)).2≠0
   rw [hr]
   decide
theorem zxf {d:Dk} (h:Okd d) (hd:d.dead=false) {i:Nat} (hi:i<d.cs.length) {bit:Int} (hb:0≤bit∧bit<512):Okd (flp d i bit).1∧(flp d i bit).2=0∧(flp d i bit).1.dead=false∧(flp d i bit).1.cs.length=d.cs.length∧(flp d i bit).1.steps=d.steps ∧
 (∀ b,b≠i→(flp d i bit).1.cs[b]?=d.cs[b]?):=by
 have hc:C22.chk d i=0:=by unfold C22.chk;rw [if_neg (by rw [hd];simp),if_neg (by omega)]
 have e:flp d i bit=({ d with cs:=d.cs.modify i fun c=>if c.bad=true then c else { c with s:=zk4 c.s bit.toNat } },0):=by
  unfold flp
  rw [if_neg (fun h=>h hc),if_neg (by omega),Int.toNat_natCast]
 rw [e]
 refine ⟨⟨by simpa using h.pos,by simpa using h.most,fun c hc=>?_,h.st,fun c hc=>?_,h.aft⟩,rfl,hd,by simp,rfl,fun b hb=>?_⟩
 · rcases C22.mem_modify hc with hc|⟨y,hy,rfl⟩
   · exact h.rot c hc
   · split
     · exact h.rot y hy
     · rename_i hn;intro hb2;exact absurd hb2 hn
 · rcases C22.mem_modify hc with hc|⟨y,hy,rfl⟩
   · exact h.few c hc
   · split
     · exact h.few y hy
     · exact h.few y hy
 · simp only [List.getElem?_modify]
   cases d.cs[b]? with
   | none=>rfl
   | some c=>simp [Ne.symm hb]
end C23
namespace C23
open C22 (Sec Dk Cel rd wr sy Lv zbt z0 Okd)
theorem zd7.sy {d:Dk} {n:Int} (hL:Lv d n) (hn:n≤800000000) {at_ q:Nat} {hx:Sec} {X:Nat→Sec} (h:zd7 d at_ q hx X):zd7 (sy d).1 at_ q hx X :=
 h.frame fun i _ _=>(hL.sy (by omega)).2.2.2 i
structure JT (d:Dk) (n:Int) (N half:Nat) (h0 h1:Sec) (X0 X1:Nat→Sec):Prop where
 lv:Lv d n
 len:d.cs.length=N
 room:2 * half≤N
 s0:zd7 d 0 (half / 2 - 1) h0 X0
 s1:zd7 d half (half / 2 - 1) h1 X1
theorem JT.put0 {d:Dk} {n:Int} {N half:Nat} {h0 h1:Sec} {X1:Nat→Sec} {g ses:Nat} {lk:Str} {l m:List (Nat×Str)} (h:JT d n N half h0 h1 (XL g ses 0 lk l) X1) (hq:l.length+m.length≤half / 2 - 1) (hn:n+2 * m.length≤800000000) (h4:4≤half) :
 JT (zgr 0 g ses 0 d (lkE g ses 0 lk 0 l) l.length m) (n+2 * m.length) N half h0 h1 (XL g ses 0 lk (l++m)) X1:=by
 have hr:=h.room
 have hl:=h.len
 obtain ⟨a1,a2,a3⟩:=zil (at_:=0) (g:=g) (ses:=ses) (side:=0) m (lkE g ses 0 lk 0 l) l.length h.lv hn (by omega)
 refine ⟨a1,a2.trans hl,hr,h.s0.put h.lv hq (by omega) hn,h.s1.frame fun i h1 _=>?_⟩
 rw [a3,if_neg (by omega)]
theorem JT.syn {d:Dk} {n:Int} {N half:Nat} {h0 h1:Sec} {X0 X1:Nat→Sec} (h:JT d n N half h0 h1 X0 X1) (hn:n≤800000000):JT (sy d).1 (n+1) N half h0 h1 X0 X1∧(sy d).2=0∧Syn (sy d).1:=by
 obtain ⟨a1,a2,a3,a4⟩:=h.lv.sy (by omega)
 exact ⟨⟨a2,a3.trans h.len,h.room,h.s0.sy h.lv hn,h.s1.sy h.lv hn⟩,a1,z1u h.lv⟩
theorem JT.rw1 {d:Dk} {n:Int} {N half:Nat} {h0:Sec} {X0:Nat→Sec} {g ses:Nat} {m:List (Nat×Str)} (h:JT d n N half h0 z0 X0 (fun _=>z0)) (hq:m.length≤half / 2 - 1) (hn:n+2 * m.length≤700000000) (h4:4≤half) :
 JT (sy (wr2 (sy (zgr half g ses 1 d (tx (mkH g ses 1) 48 56) 0 m)).1 (half:Int) (mkH g ses 1)).1).1 (n+2 * m.length+4) N half h0 (mkH g ses 1) X0 (XL g ses 1 (tx (mkH g ses 1) 48 56) m) ∧
 Syn (sy (wr2 (sy (zgr half g ses 1 d (tx (mkH g ses 1) 48 56) 0 m)).1 (half:Int) (mkH g ses 1)).1).1:=by
 have hr:=h.room
 have hl:=h.len
 have ez:(fun _:Nat=>z0)=XL g ses 1 (tx (mkH g ses 1) 48 56) []:=by funext k;rfl
 have s1:=h.s1
 rw [ez] at s1
 obtain ⟨a1,a2,a3⟩:=zil (at_:=half) (g:=g) (ses:=ses) (side:=1) m (tx (mkH g ses 1) 48 56) 0 h.lv (by omega) (by omega)
 have p1a:=s1.put h.lv (m:=m) (by simpa using hq) (by omega) (by omega)
 have p0:zd7 (zgr half g ses 1 d (tx (mkH g ses 1) 48 56) 0 m) 0 (half / 2 - 1) h0 X0:=h.s0.frame fun i _ h2=>by rw [a3,if_neg (by omega)]
 have p1:zd7 (zgr half g ses 1 d (tx (mkH g ses 1) 48 56) 0 m) half (half / 2 - 1) z0 (XL g ses 1 (tx (mkH g ses 1) 48 56) m):=p1a
 clear p1a s1 ez
 generalize zgr half g ses 1 d (tx (mkH g ses 1) 48 56) 0 m=e at *
 generalize XL g ses 1 (tx (mkH g ses 1) 48 56) m=X at *
 generalize mkH g ses 1=hx at *
 obtain ⟨b1,b2,b3,b4⟩:=a1.sy (by omega)
 have q0:=p0.sy a1 (by omega)
 have q1:=p1.sy a1 (by omega)
 obtain ⟨c1,c2,c3,c4⟩:=zl3 b2 (by omega) (a:=half) (by omega) hx
 have r0:zd7 (wr2 (sy e).1 (half:Int) hx).1 0 (half / 2 - 1) h0 X0:=q0.frame fun i _ h2=>by rw [c4,if_neg (by omega)]
 have r1:zd7 (wr2 (sy e).1 (half:Int) hx).1 half (half / 2 - 1) hx X:=by
  refine ⟨by rw [c4,if_pos (.inl rfl)],by rw [c4,if_pos (.inr rfl)],fun k hk=>?_,fun k hk=>?_⟩
  · rw [c4,if_neg (by omega)];exact q1.s0 k hk
  · rw [c4,if_neg (by omega)];exact q1.s1 k hk
 obtain ⟨d1,d2,d3,d4⟩:=c2.sy (by omega)
 exact ⟨⟨d2.mono (by omega),by omega,hr,r0.sy c2 (by omega),r1.sy c2 (by omega)⟩,z1u c2⟩
theorem zk7.start {d:Dk} {n:Int} {N half:Nat} {h0 h1:Sec} {X0 X1:Nat→Sec} (h:JT d n N half h0 h1 X0 X1) (hs:Syn d) (hn:n≤1000000):zk7 d N half 0 (pX h0 h1 X0 X1):=by
 have hr:=h.room
 have hl:=h.len
 have hst:=h.lv.st
 refine ⟨h.lv.ok,h.lv.live,hl,by omega,fun s pr _ _ hk=>absurd hk (by omega),fun s pr h2 hp _=>?_⟩
 have i0:=zpm h.lv hs (a:=pAt half s pr) (by unfold pAt;rcases (by omega:s=0∨s=1) with rfl|rfl<;>omega)
 have i1:=zpm h.lv hs (a:=pAt half s pr+1) (by unfold pAt;rcases (by omega:s=0∨s=1) with rfl|rfl<;>omega)
 have e0:zbt d (pAt half s pr)=pX h0 h1 X0 X1 s pr:=by
  unfold pAt pX
  by_cases e:pr=0
  · subst e
    rcases (by omega:s=0∨s=1) with rfl|rfl
    · simpa using h.s0.h0
    · simpa using h.s1.h0
  · rw [if_neg e]
    rcases (by omega:s=0∨s=1) with rfl|rfl
    · have:=h.s0.s0 (pr - 1) (by omega)
      rw [show 0+2+2 * (pr - 1)=0 * half+2 * pr by omega] at this
      simpa using this
    · have:=h.s1.s0 (pr - 1) (by omega)
      rw [show half+2+2 * (pr - 1)=1 * half+2 * pr by omega] at this
      simpa using this
 have e1:zbt d (pAt half s pr+1)=pX h0 h1 X0 X1 s pr:=by
  unfold pAt pX
  by_cases e:pr=0
  · subst e
    rcases (by omega:s=0∨s=1) with rfl|rfl
    · simpa using h.s0.h1
    · simpa using h.s1.h1
  · rw [if_neg e]
    rcases (by omega:s=0∨s=1) with rfl|rfl
    · have:=h.s0.s1 (pr - 1) (by omega)
      rw [show 0+3+2 * (pr - 1)=0 * half+2 * pr+1 by omega] at this
      simpa using this
    · have:=h.s1.s1 (pr - 1) (by omega)
      rw [show half+3+2 * (pr - 1)=1 * half+2 * pr+1 by omega] at this
      simpa using this
 rw [← e0]
 refine ⟨i0,?_⟩
 rw [e0,← e1]
 exact i1
theorem zk7.pairs {d:Dk} {N half k:Nat} {W:Nat→Nat→Sec} (h:zk7 d N half k W) {s pr:Nat} (hs:s<2) (hp:2 * pr+1<half):zcp d (pAt half s pr:Int) (pT s pr) (W s pr):=by
 by_cases e:2 * pr+s<k
 · exact h.done s pr hs hp e
 · obtain ⟨a,b⟩:=h.rest s pr hs hp (by omega)
   exact zkr h.live _ a b
theorem zk7.sides {d:Dk} {N half k:Nat} {h0 h1:Sec} {X0 X1:Nat→Sec} (h:zk7 d N half k (pX h0 h1 X0 X1)) (h4:4≤half):zew d 0 0 (half / 2 - 1) h0 X0∧zew d (0+half) 1 (half / 2 - 1) h1 X1:=by
 constructor
 · refine ⟨?_,fun k hk=>?_⟩
   · have:=h.pairs (s:=0) (pr:=0) (by decide) (by omega)
     unfold pAt at this
     rw [show ((0 * half+2 * 0:Nat):Int)=0 by omega] at this
     exact this
   · have:=h.pairs (s:=0) (pr:=k+1) (by decide) (by omega)
     unfold pAt at this
     rw [show ((0 * half+2 * (k+1):Nat):Int)=0+2+2 * (k:Int) by omega] at this
     exact this
 · refine ⟨?_,fun k hk=>?_⟩
   · have:=h.pairs (s:=1) (pr:=0) (by decide) (by omega)
     unfold pAt at this
     rw [show ((1 * half+2 * 0:Nat):Int)=0+(half:Int) by omega] at this
     exact this
   · have:=h.pairs (s:=1) (pr:=k+1) (by decide) (by omega)
     unfold pAt at this
     rw [show ((1 * half+2 * (k+1):Nat):Int)=0+(half:Int)+2+2 * (k:Int) by omega] at this
     exact this
end C23
