/-
 Layer 21 (disk): what a disk is and does,as plain mathematics: of no program.
 Conditions: of each law as it says.
-/
import Init
import Derived.Test.YtpplfpnjfjnkdaaGreatDoorS01
set_option linter.unusedSimpArgs false
namespace C22
abbrev Str:=List UInt8
abbrev Sec:={l:List UInt8 // l.length=64}
def z0:Sec:=⟨List.replicate 64 0,by simp⟩
structure Cel where
 s:Sec
 bad:Bool
 op:List Sec
 deriving DecidableEq
structure Dk where
 cs:List Cel
 steps:Int
 after:Int
 dead:Bool
 deriving DecidableEq
def zkw:Cel:=⟨z0,false,[]⟩
def fresh (n:Nat):Dk:=⟨List.replicate n zkw,0,-1,false⟩
structure Okd (d:Dk):Prop where
 pos:1≤d.cs.length
 most:d.cs.length≤65536
 rot:∀ c∈d.cs,c.bad=true→c.s=z0
 st:0≤d.steps∧d.steps≤2000000000
 few:∀ c∈d.cs,(c.op.length:Int)≤d.steps
 aft:-1≤d.after∧d.after≤9223372036854775807
def zcs (d:Dk) (i:Int):List Sec:=if i<0 then [] else ((d.cs[i.toNat]?).map (·.op)).getD []
def chk (d:Dk) (i:Int):Int:=if d.dead=true then 12 else if i<0∨(d.cs.length:Int)≤i then 1 else 0
def celRd (c:Cel):Sec×Int:=match c.op.getLast? with|some s=>(s,0)|none=>if c.bad=true then (z0,14) else (c.s,0)
def rd (d:Dk) (i:Int):Sec×Int:=if chk d i≠0 then (z0,chk d i) else match d.cs[i.toNat]? with|some c=>celRd c|none=>(z0,0)
def stp (d:Dk):Dk×Int:=if d.after=0 then ({ d with dead:=true },12) else ({ d with after:=if 0<d.after then d.after - 1 else d.after,steps:=d.steps+1 },0)
def wr (d:Dk) (i:Int) (s:Sec):Dk×Int :=
 if chk d i≠0 then (d,chk d i) else
 if (stp d).2≠0 then stp d else
 ({ (stp d).1 with cs:=d.cs.modify i.toNat fun c=>{ c with op:=c.op++[s] } },0)
def syC (c:Cel):Cel:=match c.op.getLast? with|some s=>⟨s,false,[]⟩|none=>c
def sy (d:Dk):Dk×Int :=
 if d.dead=true then (d,12) else
 if (stp d).2≠0 then stp d else
 ({ (stp d).1 with cs:=d.cs.map syC },0)
def arm (d:Dk) (n:Int):Dk:={ d with after:=max n (-1) }
def z9q (before out:Sec):Sec:=⟨out.1.take 32++before.1.drop 32,by simp [out.2,before.2]⟩
def remOf (n:Nat) (x:Int):Int:=(x.tmod (n+3)+n+3).tmod (n+3)
def kept (c:Cel) (x:Int):Cel :=
 if remOf c.op.length x=0 then ⟨c.s,c.bad,[]⟩ else
 if remOf c.op.length x≤c.op.length then ⟨(c.op[(remOf c.op.length x).toNat - 1]?).getD z0,false,[]⟩ else
 if remOf c.op.length x=c.op.length+1 then ⟨z0,true,[]⟩ else
 ⟨z9q (if 1<c.op.length then (c.op[c.op.length - 2]?).getD z0 else c.s) ((c.op[c.op.length - 1]?).getD z0),false,[]⟩
def keepAt (keep:List Int) (n:Nat):Int:=if keep=[] then 0 else (keep[n % keep.length]?).getD 0
def zev (keep:List Int):List Cel→Nat→List Cel
 | [],_=>[]
 | c::l,n=>if c.op=[] then c::zev keep l n else kept c (keepAt keep n)::zev keep l (n+1)
def zir (d:Dk) (keep:List Int):Dk:=⟨zev keep d.cs 0,0,-1,false⟩
def z9r (s:Sec) (bit:Nat):Sec:=⟨s.1.modify (bit / 8) fun b=>b ^^^ (1 <<< UInt8.ofNat (bit % 8)),by simp [s.2]⟩
def flp (d:Dk) (i bit:Int):Dk×Int :=
 if chk d i≠0 then (d,chk d i) else
 if bit<0∨512≤bit then (d,1) else
 ({ d with cs:=d.cs.modify i.toNat fun c=>if c.bad=true then c else { c with s:=z9r c.s bit.toNat } },0)
def rot (d:Dk) (i:Int):Dk×Int :=
 if chk d i≠0 then (d,chk d i) else
 ({ d with cs:=d.cs.modify i.toNat fun c=>{ c with s:=z0,bad:=true } },0)
def zbl (d:Dk):List Int:=((List.range d.cs.length).filter fun (i:Nat)=>decide (zcs d (i:Int)≠[])).map fun (i:Nat)=>(i:Int)
theorem okd_fresh {n:Nat} (h1:1≤n) (h2:n≤65536):Okd (fresh n):=by
 refine ⟨by simpa [fresh] using h1,by simpa [fresh] using h2,fun c hc=>?_,by simp [fresh],fun c hc=>?_,by simp [fresh]⟩
 · obtain rfl:=(List.mem_replicate.1 hc).2;simp [zkw]
 · obtain rfl:=(List.mem_replicate.1 hc).2;simp [zkw,fresh]
theorem mem_modify {α:Type} {l:List α} {k:Nat} {f:α→α} {x:α} (h:x∈l.modify k f):x∈l∨∃ y∈l,x=f y:=by
 obtain ⟨i,hi,rfl⟩:=List.getElem_of_mem h
 rw [List.length_modify] at hi
 rw [List.getElem_modify]
 split
 · exact .inr ⟨_,List.getElem_mem hi,rfl⟩
 · exact .inl (List.getElem_mem hi)
theorem zh0 {d:Dk} {i:Int} (h:chk d i=0):d.dead=false∧0≤i∧i<d.cs.length:=by
 unfold chk at h
 split at h
 · cases h
 · split at h
   · cases h
   · rename_i h1 h2;exact ⟨by simpa using h1,by omega,by omega⟩
theorem zmg {d:Dk} (h:Okd d) (hn:d.steps≤1000000000):Okd (stp d).1∧(stp d).1.steps≤d.steps+1∧d.steps≤(stp d).1.steps∧(stp d).1.cs=d.cs:=by
 unfold stp
 split
 · exact ⟨⟨h.pos,h.most,h.rot,h.st,h.few,h.aft⟩,by simp;omega,by simp,rfl⟩
 · refine ⟨⟨h.pos,h.most,h.rot,by have:=h.st;simp;omega,fun c hc=>by have:=h.few c hc;simp;omega,?_⟩,by simp,by simp;omega,rfl⟩
   have:=h.aft
   simp only
   split<;>omega
theorem wr_ok {d:Dk} (h:Okd d) (hn:d.steps≤1000000000) (i:Int) (s:Sec):Okd (wr d i s).1∧(wr d i s).1.steps≤d.steps+1:=by
 unfold wr
 obtain ⟨h1,h2,h3,h4⟩:=zmg h hn
 split
 · exact ⟨h,by simp;omega⟩
 · split
   · exact ⟨h1,h2⟩
   · rename_i hs
     have hst:(stp d).1.steps=d.steps+1:=by
      revert hs;unfold stp;split
      · simp
      · simp
     refine ⟨⟨by simpa using h.pos,by simpa using h.most,fun c hc=>?_,h1.st,fun c hc=>?_,h1.aft⟩,h2⟩
     · rcases mem_modify hc with hc|⟨y,hy,rfl⟩
       · exact h.rot c hc
       · exact h.rot y hy
     · simp only [hst]
       rcases mem_modify hc with hc|⟨y,hy,rfl⟩
       · have:=h.few c hc;omega
       · have:=h.few y hy;simp;omega
theorem z4z {d:Dk} (h:Okd d) (hn:d.steps≤1000000000):Okd (sy d).1∧(sy d).1.steps≤d.steps+1:=by
 unfold sy
 obtain ⟨h1,h2,h3,h4⟩:=zmg h hn
 split
 · exact ⟨h,by simp;omega⟩
 · split
   · exact ⟨h1,h2⟩
   · refine ⟨⟨by simpa using h.pos,by simpa using h.most,fun c hc=>?_,h1.st,fun c hc=>?_,h1.aft⟩,h2⟩
     · obtain ⟨y,hy,rfl⟩:=List.mem_map.1 hc
       unfold syC;split
       · simp
       · exact h.rot y hy
     · obtain ⟨y,hy,rfl⟩:=List.mem_map.1 hc
       have:=h.few y hy
       have:=h1.st
       unfold syC;split
       · simpa using h1.st.1
       · rename_i hn
         rw [List.getLast?_eq_none_iff] at hn
         simp only [hn,List.length_nil]
         exact h1.st.1
theorem z2d {d:Dk} (h:Okd d) {n:Int} (hn:n≤9223372036854775807):Okd (arm d n) :=
 ⟨h.pos,h.most,h.rot,h.st,h.few,by simp only [arm];omega⟩
theorem z40 {c:Cel} (h:c.bad=true→c.s=z0) (x:Int):((kept c x).bad=true→(kept c x).s=z0)∧(kept c x).op=[]:=by
 unfold kept
 split
 · exact ⟨h,rfl⟩
 · split
   · exact ⟨by simp,rfl⟩
   · split
     · exact ⟨by simp,rfl⟩
     · exact ⟨by simp,rfl⟩
theorem zmh (keep:List Int):∀ (l:List Cel) (n:Nat),(zev keep l n).length=l.length
 | [],_=>rfl
 | c::l,n=>by unfold zev;split<;>simp [zmh keep l]
theorem zsr {d:Dk} (h:Okd d) (i:Int):Okd (rot d i).1∧(rot d i).1.steps=d.steps:=by
 unfold rot
 split
 · exact ⟨h,rfl⟩
 · refine ⟨⟨by simpa using h.pos,by simpa using h.most,fun c hc=>?_,h.st,fun c hc=>?_,h.aft⟩,rfl⟩
   · rcases mem_modify hc with hc|⟨y,hy,rfl⟩
     · exact h.rot c hc
     · simp
   · rcases mem_modify hc with hc|⟨y,hy,rfl⟩
     · exact h.few c hc
     · have:=h.few y hy;simpa using this
theorem zdo {d:Dk} {i:Nat} (h:i<d.cs.length):zcs d i=d.cs[i].op:=by
 unfold zcs
 rw [if_neg (by omega)]
 simp [h]
theorem z0q {d:Dk} {i:Int} (h:i<0∨(d.cs.length:Int)≤i):zcs d i=[]:=by
 unfold zcs
 split
 · rfl
 · rw [yljQ (by omega)];rfl
theorem zni {d:Dk} {i:Int} (h:zcs d i≠[]):0≤i∧i<d.cs.length:=by
 apply Classical.byContradiction
 intro hn
 exact h (z0q (by omega))
end C22
namespace C22
theorem zew (p:Nat→Bool):∀ (n t i:Nat),((List.range n).filter p)[t]?=some i↔i<n∧p i=true∧t=((List.range i).filter p).length
 | 0,t,i=>by simp
 | n+1,t,i=>by
   have ih:=zew p n t i
   rw [List.range_succ,List.filter_append,List.getElem?_append]
   split
   · rename_i h
     rw [ih]
     constructor
     · rintro ⟨h1,h2,h3⟩;exact ⟨by omega,h2,h3⟩
     · rintro ⟨h1,h2,h3⟩
       refine ⟨?_,h2,h3⟩
       rcases Nat.lt_or_ge i n with h4|h4
       · exact h4
       · have:i=n:=by omega
         subst this;omega
   · rename_i h
     by_cases hp:p n=true
     · rw [List.filter_cons_of_pos hp,List.filter_nil]
       constructor
       · intro he
         obtain ⟨h1,h2⟩:=List.getElem?_eq_some_iff.1 he
         simp only [List.length_cons,List.length_nil] at h1
         have h3:t - ((List.range n).filter p).length=0:=by omega
         simp only [h3,List.getElem_cons_zero] at h2
         subst h2
         exact ⟨by omega,hp,by omega⟩
       · rintro ⟨h1,h2,h3⟩
         have hin:i=n:=by
          rcases Nat.lt_or_ge i n with h4|h4
          · exfalso
            have:=(zew p n t i).2 ⟨h4,h2,h3⟩
            have:=(List.getElem?_eq_some_iff.1 this).1
            omega
          · omega
         subst hin
         rw [h3];simp
     · rw [List.filter_cons_of_neg hp,List.filter_nil]
       constructor
       · intro he;simp at he
       · rintro ⟨h1,h2,h3⟩
         exfalso
         rcases Nat.lt_or_ge i n with h4|h4
         · have:=(zew p n t i).2 ⟨h4,h2,h3⟩
           have:=(List.getElem?_eq_some_iff.1 this).1
           omega
         · have:i=n:=by omega
           subst this;exact hp h2
def zss (d:Dk) (k:Nat):Bool:=decide (zcs d (k:Int)≠[])
def zph (d:Dk) (i:Nat):Nat:=((List.range i).filter (zss d)).length
def zrd (d:Dk) (i:Nat):Cel:=(d.cs[i]?).getD zkw
def z6g (d:Dk) (keep:List Int) (j i:Nat):Cel:=if zcs d i≠[]∧zph d i<j then kept (zrd d i) (keepAt keep (zph d i)) else ⟨(zrd d i).s,(zrd d i).bad,[]⟩
def zis (d:Dk) (keep:List Int) (j:Nat):List Cel:=(List.range d.cs.length).map (z6g d keep j)
theorem zbj (d:Dk) (keep:List Int) (j:Nat):(zis d keep j).length=d.cs.length:=by simp [zis]
theorem zh1 {d:Dk} {i:Nat} (h:i<d.cs.length):zrd d i=d.cs[i]:=by simp [zrd,h]
theorem zmi {d:Dk} {j:Nat} {i:Int} (h:(zbl d)[j]?=some i):∃ k:Nat,i=k∧k<d.cs.length∧zcs d k≠[]∧j=zph d k:=by
 unfold zbl at h
 rw [ylhQ,yk8Q] at h
 obtain ⟨k,hk,rfl⟩:=h
 obtain ⟨h1,h2,h3⟩:=(zew _ _ _ _).1 hk
 exact ⟨k,rfl,h1,by simpa using h2,h3⟩
theorem zkx {d:Dk} {k:Nat} (hk:k<d.cs.length) (h:zcs d k≠[]):(zbl d)[zph d k]?=some (k:Int):=by
 unfold zbl
 rw [ylhQ,yk8Q]
 exact ⟨k,(zew _ _ _ _).2 ⟨hk,by simpa [zss] using h,rfl⟩,rfl⟩
theorem zx0 (d:Dk) (keep:List Int):zis d keep 0=d.cs.map fun c=>⟨c.s,c.bad,[]⟩:=by
 apply List.ext_getElem
 · simp [zis]
 · intro i h1 h2
   have h:i<d.cs.length:=by simpa [zis] using h1
   simp [zis,z6g,zh1 h]
theorem zpi {d:Dk} {keep:List Int} {j k:Nat} (h:(zbl d)[j]?=some (k:Int)):zis d keep (j+1)=(zis d keep j).set k (kept (zrd d k) (keepAt keep j)):=by
 obtain ⟨k',e,hk,ho,hj⟩:=zmi h
 have:k'=k:=by omega
 subst this
 apply List.ext_getElem
 · simp [zis]
 · intro i h1 h2
   have hi:i<d.cs.length:=by simpa [zis] using h1
   rw [List.getElem_set]
   simp only [zis,List.getElem_map,List.getElem_range]
   split
   · rename_i e2
     subst e2
     unfold z6g
     rw [if_pos ⟨ho,by omega⟩,← hj]
   · rename_i e2
     unfold z6g
     by_cases hoi:zcs d i≠[]
     · have hne:zph d i≠j:=by
        intro e3
        have:=zkx hi hoi
        rw [e3,h] at this
        simp only [Option.some.injEq] at this
        exact e2 (by omega)
       by_cases hl:zph d i<j
       · rw [if_pos ⟨hoi,by omega⟩,if_pos ⟨hoi,hl⟩]
       · rw [if_neg (fun hh=>by have:=hh.2;omega),if_neg (fun hh=>hl hh.2)]
     · rw [if_neg (fun hh=>hoi hh.1),if_neg (fun hh=>hoi hh.1)]
theorem zit {keep:List Int}:∀ {l:List Cel} {n i:Nat} (h:i<l.length),(zev keep l n)[i]?=some (if l[i].op=[] then l[i] else kept l[i] (keepAt keep (n+((l.take i).filter fun c=>decide (c.op≠[])).length)))
 | c::l,n,0,_=>by
   unfold zev
   split
   · rename_i e;simp [e]
   · rename_i e;simp [e]
 | c::l,n,i+1,h=>by
   have hi:i<l.length:=by simpa using h
   unfold zev
   split
   · rename_i e
     rw [List.getElem?_cons_succ,zit hi]
     simp [e]
   · rename_i e
     rw [List.getElem?_cons_succ,zit hi]
     simp only [List.getElem_cons_succ,List.take_succ_cons]
     rw [List.filter_cons_of_pos (by simpa using e)]
     simp only [List.length_cons]
     congr 3
     congr 1
     omega
theorem zpj (d:Dk):∀ i,i≤d.cs.length→zph d i=((d.cs.take i).filter fun c=>decide (c.op≠[])).length
 | 0,_=>rfl
 | i+1,h=>by
   have ih:=zpj d i (by omega)
   have hi:i<d.cs.length:=by omega
   unfold zph at ih ⊢
   rw [List.range_succ,List.filter_append,yldQ hi,List.filter_append,yk2Q,yk2Q,ih]
   congr 1
   by_cases ho:d.cs[i].op=[]
   · rw [List.filter_cons_of_neg (by simp [zss,zdo hi,ho]),List.filter_cons_of_neg (by simp [ho])];rfl
   · rw [List.filter_cons_of_pos (by simp [zss,zdo hi,ho]),List.filter_cons_of_pos (by simp [ho])];rfl
theorem z0r (d:Dk) (keep:List Int):zis d keep (zbl d).length=zev keep d.cs 0:=by
 apply List.ext_getElem?
 intro i
 rcases Nat.lt_or_ge i d.cs.length with h|h
 · rw [zit h]
   simp only [zis,ylhQ,List.getElem?_range h,Option.map_some,Option.some.injEq]
   unfold z6g
   rw [zh1 h,zdo h]
   by_cases ho:d.cs[i].op=[]
   · rw [if_neg (by simp [ho]),if_pos ho,← ho]
   · have hr:=zkx h (by rw [zdo h];exact ho)
     have:=(List.getElem?_eq_some_iff.1 hr).1
     rw [if_pos ⟨ho,this⟩,if_neg ho,yltQ,zpj d i (by omega)]
 · rw [yljQ (by rw [zbj];exact h),yljQ (by rw [zmh];exact h)]
theorem zky {d:Dk} (h:Okd d) (keep:List Int) (j:Nat):Okd ⟨zis d keep j,0,-1,false⟩∧∀ i,zcs ⟨zis d keep j,0,-1,false⟩ i=[]:=by
 have key:∀ c∈zis d keep j,(c.bad=true→c.s=z0)∧c.op=[]:=by
  intro c hc
  obtain ⟨i,hi,rfl⟩:=List.mem_map.1 hc
  have hil:=List.mem_range.1 hi
  unfold z6g
  rw [zh1 hil]
  split
  · exact z40 (h.rot _ (List.getElem_mem hil)) _
  · exact ⟨fun hb=>h.rot d.cs[i] (List.getElem_mem hil) hb,rfl⟩
 refine ⟨⟨by simp only [zbj];exact h.pos,by simp only [zbj];exact h.most,fun c hc=>(key c hc).1,by simp,fun c hc=>by rw [(key c hc).2];simp,by simp⟩,fun i=>?_⟩
 unfold zcs
 split
 · rfl
 · cases hg:(zis d keep j)[i.toNat]? with
   | none=>rfl
   | some c=>exact (key c (List.mem_of_getElem? hg)).2
end C22
namespace C23
open C22 (Sec Dk rd wr sy)
abbrev Str:=List UInt8
def ziu (l:Str):Sec:=⟨(l++List.replicate 64 0).take 64,by simp [yk4Q]⟩
theorem zjq {l:Str} (h:l.length=64):(ziu l).1=l:=by
 show (l++List.replicate 64 0).take 64=l
 rw [ylnQ h]
def tx (s:Sec) (a b:Nat):Str:=(s.1.take b).drop a
theorem zas (s:Sec) {a b:Nat} (h:b≤64):(tx s a b).length=b - a:=by
 rw [tx,ylfQ,yk4Q,s.2,Nat.min_eq_left h]
def zft:Str:=[81,85,73,69,84,74,78,76]
def be (b:Str):Nat:=b.foldl (fun n x=>n * 256+x.toNat) 0
theorem z41 (l:Str) (b:UInt8):be (l++[b])=be l * 256+b.toNat:=by rw [be,List.foldl_append];rfl
theorem z9s:∀ (l:Str) (n:Nat),l.foldl (fun n x=>n * 256+x.toNat) n<(n+1) * 256 ^ l.length
 | [],n=>by simp
 | b::l,n=>by
   have h:=z9s l (n * 256+b.toNat)
   have hb:=UInt8.toNat_lt b
   rw [List.foldl_cons,List.length_cons,Nat.pow_succ,Nat.mul_comm (256 ^ l.length),← Nat.mul_assoc]
   exact yluQ h (Nat.mul_le_mul_right _ (by omega))
theorem z9t (l:Str):be l<256 ^ l.length:=by have:=z9s l 0;rwa [yltQ,Nat.one_mul] at this
def zd8 (n:Nat):Str:=[UInt8.ofNat (n / 16777216),UInt8.ofNat (n / 65536),UInt8.ofNat (n / 256),UInt8.ofNat n]
theorem znj {n:Nat} (h:n<4294967296):be (zd8 n)=n:=by
 simp only [be,zd8,List.foldl_cons,List.foldl_nil,UInt8.toNat_ofNat']
 omega
def hdB (g n:Nat):Str:=zft++zd8 g++zd8 n++List.replicate 32 0
def zfu (b:Str) (side:Nat):Str:=CH.dig 129 [b,CW.intB (side:Int)]
def zeb (b:Str) (side slot:Nat):Str:=CH.dig 130 [b,CW.intB (side:Int),CW.intB (slot:Int)]
def mkH (g n side:Nat):Sec:=ziu (hdB g n++zfu (hdB g n) side)
def frA (g n:Nat) (ch:Str):Str:=zd8 g++zd8 n++ch.take 8
def frE (fl:Nat) (c:Str):Str:=[UInt8.ofNat fl,UInt8.ofNat c.length]++c++List.replicate (30 - c.length) 0
def mkF (g n:Nat) (ch:Str) (fl:Nat) (c:Str) (side slot:Nat):Sec :=
 ziu (frA g n ch++(zeb (frA g n ch++frE fl c) side slot).take 8++frE fl c++(zeb (frA g n ch++frE fl c) side slot).drop 8)
def isH (s:Sec) (side:Nat):Bool:=decide (tx s 0 8=zft) && decide (tx s 48 64=zfu (tx s 0 48) side)
def z9u (s:Sec):Str:=tx s 16 24++tx s 56 64
def isF (s:Sec) (side slot:Nat):Bool:=decide (z9u s=zeb (tx s 0 16++tx s 24 56) side slot)
theorem zfv (b:Str) (side:Nat):(zfu b side).length=16:=CH.dig_len _ _
theorem zd6 (b:Str) (side slot:Nat):(zeb b side slot).length=16:=CH.dig_len _ _
theorem zx1 (g n:Nat):(hdB g n).length=48:=rfl
theorem zre (g n:Nat) {ch:Str} (h:8≤ch.length):(frA g n ch).length=16:=by
 simp only [frA,zd8,yk2Q,List.length_cons,List.length_nil,yk4Q];omega
theorem zx2 (fl:Nat) {c:Str} (h:c.length≤30):(frE fl c).length=32:=by
 simp only [frE,yk2Q,List.length_cons,List.length_nil,ylgQ];omega
theorem zx3 (g n side:Nat):(mkH g n side).1=hdB g n++zfu (hdB g n) side:=zjq (by rw [yk2Q,zx1,zfv])
theorem z43 (g n:Nat) {ch:Str} (fl:Nat) {c:Str} (side slot:Nat) (h:8≤ch.length) (hc:c.length≤30):(mkF g n ch fl c side slot).1 =
 frA g n ch++(zeb (frA g n ch++frE fl c) side slot).take 8++frE fl c++(zeb (frA g n ch++frE fl c) side slot).drop 8 :=
 zjq (by simp only [yk2Q,zre _ _ h,zx2 _ hc,yk4Q,ylfQ,zd6];rfl)
theorem z2e {a b c d l:Str} (h:l=a++b++c++d):(l.take a.length).drop 0=a∧(l.take (a.length+b.length)).drop a.length=b∧(l.take (a.length+b.length+c.length)).drop (a.length+b.length)=c ∧
 (l.take (a.length+b.length+c.length+d.length)).drop (a.length+b.length+c.length)=d:=by
 subst h
 refine ⟨?_,?_,?_,?_⟩
 · rw [yk5Q,yk5Q,List.take_left,List.drop_zero]
 · rw [yk5Q,yk5Q,List.take_append,yk1Q (by omega),Nat.add_sub_cancel_left,List.take_left,List.drop_left]
 · rw [yk5Q (a++b),List.take_append,yk1Q (by rw [yk2Q];omega),yk2Q,Nat.add_sub_cancel_left,List.take_left,← yk2Q,List.drop_left]
 · rw [yk1Q (by simp only [yk2Q];omega),← yk2Q,← yk2Q,List.drop_left]
theorem z2f (g n side:Nat):tx (mkH g n side) 0 48=hdB g n∧tx (mkH g n side) 48 64=zfu (hdB g n) side:=by
 have h:=z2e (a:=hdB g n) (b:=zfu (hdB g n) side) (c:=[]) (d:=[]) (l:=(mkH g n side).1) (by rw [zx3];simp)
 have e1:(hdB g n).length=48:=rfl
 have e2:=zfv (hdB g n) side
 rw [e1,e2] at h
 exact ⟨h.1,h.2.1⟩
theorem zt9 (s:Sec) {a b c:Nat} (h:b≤c):tx s a b=((tx s 0 c).take b).drop a:=by
 unfold tx;rw [List.drop_zero,List.take_take,Nat.min_eq_left h]
theorem zst (g n side:Nat):isH (mkH g n side) side=true:=by
 obtain ⟨h1,h2⟩:=z2f g n side
 unfold isH
 rw [zt9 (c:=48) (mkH g n side) (by decide),h1,h2]
 simp [hdB,zft]
theorem ze8 {g n:Nat} (hg:g<4294967296) (hn:n<4294967296) (side:Nat):be (tx (mkH g n side) 8 12)=g∧be (tx (mkH g n side) 12 16)=n:=by
 obtain ⟨h1,_⟩:=z2f g n side
 rw [zt9 (c:=48) (mkH g n side) (by decide),zt9 (a:=12) (b:=16) (c:=48) (mkH g n side) (by decide),h1]
 exact ⟨znj hg,znj hn⟩
theorem zx4 (g n:Nat) {ch:Str} (fl:Nat) {c:Str} (side slot:Nat) (h:8≤ch.length) (hc:c.length≤30) :
 tx (mkF g n ch fl c side slot) 0 16=frA g n ch∧tx (mkF g n ch fl c side slot) 16 24=(zeb (frA g n ch++frE fl c) side slot).take 8 ∧
 tx (mkF g n ch fl c side slot) 24 56=frE fl c∧tx (mkF g n ch fl c side slot) 56 64=(zeb (frA g n ch++frE fl c) side slot).drop 8:=by
 have hp:=z2e (z43 g n fl side slot h hc)
 have hd:=zd6 (frA g n ch++frE fl c) side slot
 rw [zre _ _ h,zx2 _ hc,yk4Q,ylfQ,hd] at hp
 exact hp
theorem z9v (g n:Nat) {ch:Str} (fl:Nat) {c:Str} (side slot:Nat) (h:8≤ch.length) (hc:c.length≤30):isF (mkF g n ch fl c side slot) side slot=true:=by
 obtain ⟨h1,h2,h3,h4⟩:=zx4 g n fl side slot h hc
 unfold isF z9u
 rw [h1,h2,h3,h4,List.take_append_drop]
 exact decide_eq_true rfl
theorem zpk {g n:Nat} {ch:Str} {fl:Nat} {c:Str} (side slot:Nat) (hg:g<4294967296) (hn:n<4294967296) (h:8≤ch.length) (hc:c.length≤30) :
 be (tx (mkF g n ch fl c side slot) 0 4)=g∧be (tx (mkF g n ch fl c side slot) 4 8)=n∧tx (mkF g n ch fl c side slot) 8 16=ch.take 8 ∧
 tx (mkF g n ch fl c side slot) 24 26=[UInt8.ofNat fl,UInt8.ofNat c.length]∧tx (mkF g n ch fl c side slot) 26 (26+c.length)=c:=by
 obtain ⟨h1,h2,h3,h4⟩:=zx4 g n fl side slot h hc
 have ht:(ch.take 8).length=8:=by rw [yk4Q];omega
 refine ⟨?_,?_,?_,?_,?_⟩
 · rw [zt9 (c:=16) _ (by decide),h1];exact znj hg
 · rw [zt9 (c:=16) _ (by decide),h1];exact znj hn
 · rw [zt9 (c:=16) _ (by decide),h1,yk1Q (by rw [zre _ _ h];exact Nat.le_refl _)];rfl
 · have e:tx (mkF g n ch fl c side slot) 24 26=(tx (mkF g n ch fl c side slot) 24 56).take 2:=by
    unfold tx;rw [List.take_drop,List.take_take];rfl
   rw [e,h3];rfl
 · have e:tx (mkF g n ch fl c side slot) 26 (26+c.length)=((tx (mkF g n ch fl c side slot) 24 56).take (2+c.length)).drop 2:=by
    unfold tx
    rw [List.take_drop,List.take_take,List.drop_drop]
    congr 2
    omega
   rw [e,h3,frE,yk5Q]
   show (([UInt8.ofNat fl,UInt8.ofNat c.length]++(c++List.replicate (30 - c.length) 0)).take (2+c.length)).drop 2=c
   rw [List.take_append,yk1Q (by simp)]
   show List.take (2+c.length - 2) (c++_)=c
   rw [Nat.add_sub_cancel_left,List.take_left]
def sb (s:Sec) (i:Nat):UInt8:=(s.1[i]?).getD 0
theorem z2g (s:Sec) {i:Nat} (h:i<64):s.1[i]?=some (sb s i):=by
 have:i<s.1.length:=by rw [s.2];exact h
 unfold sb
 rw [yliQ this];rfl
theorem z9w (s:Sec) {a b i:Nat} (h:a+i<b):(tx s a b)[i]?=s.1[a+i]?:=by
 unfold tx
 rw [List.getElem?_drop,List.getElem?_take_of_lt h]
structure Fr where
 g:Nat
 n:Nat
 lk:Str
 fl:UInt8
 ln:UInt8
 pc:Str
def zal (s:Sec):Fr:=⟨be (tx s 0 4),be (tx s 4 8),tx s 8 16,sb s 24,sb s 25,tx s 26 56⟩
def Fr.begins (f:Fr):Bool:=decide (f.fl=1) || decide (f.fl=3)
def Fr.ends (f:Fr):Bool:=decide (f.fl=2) || decide (f.fl=3)
def Fr.content (f:Fr):Str:=f.pc.take f.ln.toNat
def frP (f:Fr):Str:=zd8 f.g++zd8 f.n++f.lk
def frS (f:Fr) (side slot:Nat):Sec:=ziu (frP f++(zeb (frP f++([f.fl,f.ln]++f.pc)) side slot).take 8++([f.fl,f.ln]++f.pc)++(zeb (frP f++([f.fl,f.ln]++f.pc)) side slot).drop 8)
def zsu (g n:Nat) (lk:Str) (fl:Nat) (c:Str):Fr:=⟨g,n,lk,UInt8.ofNat fl,UInt8.ofNat c.length,c++List.replicate (30 - c.length) 0⟩
theorem z9x (g n:Nat) (ch:Str) (fl:Nat) (c:Str) (side slot:Nat):frS (zsu g n (ch.take 8) fl c) side slot=mkF g n ch fl c side slot:=by
 simp only [frS,mkF,frP,zsu,frA,frE,yk5Q,List.cons_append,List.nil_append]
def np (s:Str):Nat:=max 1 ((s.length+29) / 30)
def pc (s:Str) (k:Nat):Str:=(s.drop (30 * k)).take 30
def zua (s:Str):List Str:=(List.range (np s)).map (pc s)
theorem zjr (s:Str):(zua s).length=np s:=by simp [zua]
theorem zmj (s:Str) (k:Nat):(pc s k).length≤30:=by rw [pc,yk4Q];omega
def zpl (d:Dk) (at_:Int):List Sec:=(if (rd d at_).2=0 then [(rd d at_).1] else [])++(if (rd d (at_+1)).2=0 then [(rd d (at_+1)).1] else [])
structure Hd where
 g:Nat
 n:Nat
 deriving DecidableEq
def hdOf (s:Sec):Hd:=⟨be (tx s 8 12),be (tx s 12 16)⟩
def Hd.lt (a b:Hd):Bool:=decide (a.g<b.g) || (decide (a.g=b.g) && decide (a.n<b.n))
def zc9 (o:Option Hd) (h:Hd):Option Hd:=match o with|none=>some h|some p=>if p.lt h=true then some h else some p
def hds (d:Dk) (at_:Int) (side:Nat):List Hd:=((zpl d at_).filter fun s=>isH s side).map hdOf
def z1 (l:List Hd):Option Hd:=l.foldl zc9 none
def fns (d:Dk) (at_:Int) (side slot:Nat):List Nat:=((zpl d at_).filter fun s=>isF s side slot).map fun s=>be (tx s 4 8)
def most (l:List Nat):Nat:=l.foldl max 0
def zkz (d:Dk) (at_:Int) (side:Nat):Nat→Nat
 | 0=>0
 | k+1=>max (zkz d at_ side k) (most (fns d (at_+2+2 * (k:Int)) side k))
def zz (d:Dk) (first:Int) (half:Nat):Nat :=
 max (max (most ((hds d first 0).map (·.n))) (zkz d first 0 (half / 2 - 1))) (max (most ((hds d (first+half) 1).map (·.n))) (zkz d (first+half) 1 (half / 2 - 1)))+1
def zpm (d:Dk) (at_:Int):Nat→List Sec
 | 0=>[]
 | k+1=>zpm d at_ k++(if (rd d (at_+(k:Int))).2=0 then [(rd d (at_+(k:Int))).1] else [])
theorem zh2 (d:Dk) (at_:Int):zpm d at_ 2=zpl d at_:=by
 simp only [zpm,zpl,List.nil_append]
 rw [show at_+((0:Nat):Int)=at_ from by omega,show at_+((1:Nat):Int)=at_+1 from by omega]
def zg2 (d:Dk) (at_:Int) (T:Sec→Bool) (k:Nat):List Sec:=(zpm d at_ k).filter T
theorem zgg {d:Dk} {at_:Int} {T:Sec→Bool} {k:Nat} (h:¬ ((rd d (at_+(k:Int))).2=0∧T (rd d (at_+(k:Int))).1=true)):zg2 d at_ T (k+1)=zg2 d at_ T k:=by
 unfold zg2
 simp only [zpm,List.filter_append]
 by_cases e:(rd d (at_+(k:Int))).2=0
 · have:T (rd d (at_+(k:Int))).1=false:=by
    cases ht:T (rd d (at_+(k:Int))).1 with
    | false=>rfl
    | true=>exact absurd ⟨e,ht⟩ h
   simp [e,this]
 · simp [e]
theorem zgh {d:Dk} {at_:Int} {T:Sec→Bool} {k:Nat} (h1:(rd d (at_+(k:Int))).2=0) (h2:T (rd d (at_+(k:Int))).1=true):zg2 d at_ T (k+1)=zg2 d at_ T k++[(rd d (at_+(k:Int))).1]:=by
 unfold zg2
 simp only [zpm,List.filter_append,if_pos h1]
 simp [h2]
theorem zk0 (l:List Nat) (n:Nat):most (l++[n])=max (most l) n:=by rw [most,List.foldl_append];rfl
theorem zpn (l:List Hd) (h:Hd):z1 (l++[h])=zc9 (z1 l) h:=by rw [z1,List.foldl_append];rfl
theorem zjc (s:Sec) {a b:Nat} (h:b≤64) (hab:b=a+4):be (tx s a b)<4294967296:=by
 subst hab
 have:=z9t (tx s a (a+4))
 rw [zas s h,Nat.add_sub_cancel_left] at this
 exact this
theorem zx5:∀ (l:List Nat) (m B:Nat),m<B→(∀ x∈l,x<B)→l.foldl max m<B
 | [],_,_,h,_=>h
 | x::l,m,B,h,hl=>zx5 l (max m x) B (Nat.max_lt.2 ⟨h,hl x ylpQ⟩) fun y hy=>hl y (List.mem_cons_of_mem _ hy)
theorem znk {l:List Nat} {B:Nat} (hB:0<B) (h:∀ x∈l,x<B):most l<B:=zx5 l 0 B hB h
theorem zsv (d:Dk) (at_:Int) (side:Nat):most ((hds d at_ side).map (·.n))<4294967296:=by
 refine znk (by decide) fun x hx=>?_
 obtain ⟨y,hy,rfl⟩:=List.mem_map.1 hx
 obtain ⟨s,_,rfl⟩:=List.mem_map.1 hy
 exact zjc s (by decide) rfl
theorem zk1 (d:Dk) (at_:Int) (side:Nat):∀ k,zkz d at_ side k<4294967296
 | 0=>Nat.zero_lt_succ _
 | k+1=>by
   refine Nat.max_lt.2 ⟨zk1 d at_ side k,znk (by decide) fun x hx=>?_⟩
   obtain ⟨s,_,rfl⟩:=List.mem_map.1 hx
   exact zjc s (by decide) rfl
theorem zh3 (d:Dk) (first:Int) (half:Nat):zz d first half≤4294967296 :=
 Nat.max_lt.2 ⟨Nat.max_lt.2 ⟨zsv _ _ _,zk1 _ _ _ _⟩,Nat.max_lt.2 ⟨zsv _ _ _,zk1 _ _ _ _⟩⟩
def za9 (d:Dk) (first n:Int):Int:=if n<8∨first<0∨(d.cs.length:Int)<first∨(d.cs.length:Int) - first<n then 1 else if d.dead=true then 12 else 0
def wr2 (d:Dk) (at_:Int) (s:Sec):Dk×Int:=if (wr d at_ s).2≠0 then wr d at_ s else wr (wr d at_ s).1 (at_+1) s
def fmt (d:Dk) (first n:Int):Dk×Int :=
 if za9 d first n≠0 then (d,za9 d first n) else
 if 4294967295<zz d first (n / 2).toNat then (d,2) else
 if (wr2 d first (mkH 1 (zz d first (n / 2).toNat) 0)).2≠0 then ((wr2 d first (mkH 1 (zz d first (n / 2).toNat) 0)).1,12) else
 if (wr2 (wr2 d first (mkH 1 (zz d first (n / 2).toNat) 0)).1 (first+n / 2) C22.z0).2≠0 then ((wr2 (wr2 d first (mkH 1 (zz d first (n / 2).toNat) 0)).1 (first+n / 2) C22.z0).1,12) else
 sy (wr2 (wr2 d first (mkH 1 (zz d first (n / 2).toNat) 0)).1 (first+n / 2) C22.z0).1
theorem zeh {d:Dk} {first n:Int} (h:za9 d first n=0):8≤n∧0≤first∧first+n≤d.cs.length∧d.dead=false:=by
 unfold za9 at h
 split at h
 · omega
 · split at h
   · omega
   · rename_i h1 h2
     refine ⟨by omega,by omega,by omega,by simpa using h2⟩
theorem zsw {d:Dk} (h:C22.Okd d) (hn:d.steps≤999999000) (at_:Int) (s:Sec):C22.Okd (wr2 d at_ s).1∧(wr2 d at_ s).1.steps≤d.steps+2:=by
 have h1:=C22.wr_ok h (by omega) at_ s
 unfold wr2
 split
 · exact ⟨h1.1,by omega⟩
 · have h2:=C22.wr_ok h1.1 (by omega) (at_+1) s
   exact ⟨h2.1,by omega⟩
def fit (side slot g:Nat) (lk:Str) (first:Bool) (s:Sec):Bool :=
 isF s side slot && decide ((zal s).g=g) && decide ((zal s).lk=lk) && decide ((zal s).ln.toNat≤30) && ((zal s).begins == first)
def zel (o:Option Sec) (s:Sec):Option Sec:=match o with|none=>some s|some b=>if (zal b).n<(zal s).n then some s else some b
def zlk (l:List Sec):Option Sec:=l.foldl zel none
theorem zub (l:List Sec) (s:Sec):zlk (l++[s])=zel (zlk l) s:=by rw [zlk,List.foldl_append];rfl
def zda (d:Dk) (at_:Int) (side slot g:Nat) (lk:Str) (first:Bool):Option Sec:=zlk ((zpl d (at_+2+2 * (slot:Int))).filter (fit side slot g lk first))
def chS (d:Dk) (at_:Int) (side g:Nat) (lk:Str):Nat→Option (Str×Bool)
 | 0=>some (lk,true)
 | k+1=>match chS d at_ side g lk k with
   | none=>none
   | some (l,f)=>(zda d at_ side k g l f).map fun b=>(tx b 16 24,(zal b).ends)
theorem zsx:∀ (l:List Sec) (o:Option Sec) (b:Sec),l.foldl zel o=some b→b∈l∨o=some b
 | [],o,b,h=>.inr h
 | s::l,o,b,h=>by
   rcases zsx l (zel o s) b h with h|h
   · exact .inl (List.mem_cons_of_mem _ h)
   · cases o with
     | none=>cases h;exact .inl ylpQ
     | some c =>
      simp only [zel] at h
      split at h
      · cases h;exact .inl ylpQ
      · exact .inr h
theorem zpo {l:List Sec} {b:Sec} (h:zlk l=some b):b∈l:=(zsx l none b h).resolve_right (by simp)
theorem zx6 {d:Dk} {at_:Int} {side slot g:Nat} {lk:Str} {first:Bool} {b:Sec} (h:zda d at_ side slot g lk first=some b):b∈zpl d (at_+2+2 * (slot:Int))∧fit side slot g lk first b=true:=List.mem_filter.1 (zpo h)
structure Sc where
 txt:Str
 k:Nat
 used:Nat
 recs:List Str
 el:Str
def scB (s:Sc) (b:Sec):Sc :=
 ⟨(if (zal b).begins=true then [] else s.txt)++(zal b).content,s.k+1,if (zal b).ends=true then s.k+1 else s.used,
  if (zal b).ends=true then s.recs++[(if (zal b).begins=true then [] else s.txt)++(zal b).content] else s.recs,if (zal b).ends=true then tx b 16 24 else s.el⟩
def scS (d:Dk) (at_:Int) (side g:Nat) (lk:Str):Nat→Sc
 | 0=>⟨[],0,0,[],lk⟩
 | k+1=>match chS d at_ side g lk k with
   | none=>scS d at_ side g lk k
   | some (l,f)=>match zda d at_ side k g l f with
     | none=>scS d at_ side g lk k
     | some b=>scB (scS d at_ side g lk k) b
theorem znl {d:Dk} {at_:Int} {side g:Nat} {lk:Str} {k:Nat} {l:Str} {f:Bool} {b:Sec} (h1:chS d at_ side g lk k=some (l,f)) (h2:zda d at_ side k g l f=some b):scS d at_ side g lk (k+1)=scB (scS d at_ side g lk k) b:=by
 show (match chS d at_ side g lk k with|none=>scS d at_ side g lk k|some (l,f)=>match zda d at_ side k g l f with|none=>scS d at_ side g lk k|some b=>scB (scS d at_ side g lk k) b)=_
 rw [h1]
 show (match zda d at_ side k g l f with|none=>scS d at_ side g lk k|some b=>scB (scS d at_ side g lk k) b)=_
 rw [h2]
theorem zsy {d:Dk} {at_:Int} {side g:Nat} {lk:Str} {m:Nat} (h:chS d at_ side g lk (m+1)=none):∀ i,m≤i→scS d at_ side g lk i=scS d at_ side g lk m:=by
 have hn:∀ i,m+1≤i→chS d at_ side g lk i=none:=by
  intro i hi
  induction i with
  | zero=>omega
  | succ i ih =>
   by_cases e:i=m
   · rw [e];exact h
   · have:=ih (by omega)
     show (match chS d at_ side g lk i with|none=>none|some (l,f)=>(zda d at_ side i g l f).map fun b=>(tx b 16 24,(zal b).ends))=_
     rw [this]
 intro i hi
 induction i with
 | zero =>
  obtain rfl:m=0:=by omega
  rfl
 | succ i ih =>
  by_cases e:i+1=m
  · rw [e]
  · rw [← ih (by omega)]
    show (match chS d at_ side g lk i with|none=>scS d at_ side g lk i|some (l,f)=>match zda d at_ side i g l f with|none=>scS d at_ side g lk i|some b=>scB (scS d at_ side g lk i) b)=_
    by_cases e2:i=m
    · subst e2
      have h':(match chS d at_ side g lk i with|none=>none|some (l,f)=>(zda d at_ side i g l f).map fun b=>(tx b 16 24,(zal b).ends))=none:=h
      cases hc:chS d at_ side g lk i with
      | none=>rfl
      | some x =>
       obtain ⟨l,f⟩:=x
       rw [hc] at h'
       cases hf:zda d at_ side i g l f with
       | none=>simp only [hf]
       | some b =>
        simp only [hf] at h'
        cases h'
    · rw [hn i (by omega)]
theorem z9y {d:Dk} {at_:Int} {side g:Nat} {lk:Str}:∀ k,(chS d at_ side g lk k).isSome=true→(scS d at_ side g lk k).k=k
 | 0,_=>rfl
 | k+1,h=>by
   have h':(match chS d at_ side g lk k with|none=>none|some (l,f)=>(zda d at_ side k g l f).map fun b=>(tx b 16 24,(zal b).ends)).isSome=true:=h
   cases hc:chS d at_ side g lk k with
   | none=>rw [hc] at h';cases h'
   | some x =>
    obtain ⟨l,f⟩:=x
    rw [hc] at h'
    cases hf:zda d at_ side k g l f with
    | none=>simp only [hf] at h';cases h'
    | some b =>
     rw [znl hc hf]
     show (scS d at_ side g lk k).k+1=k+1
     rw [z9y k (by rw [hc];rfl)]
theorem z44 {s:Sc} {b:Sec} {n:Nat} (h:s.txt.length≤n):(scB s b).txt.length≤n+30:=by
 have hc:(zal b).content.length≤30:=by
  show ((tx b 26 56).take _).length≤30
  rw [yk4Q,zas b (by decide)];omega
 show ((if (zal b).begins=true then [] else s.txt)++(zal b).content).length≤n+30
 rw [yk2Q]
 split
 · simp only [List.length_nil];omega
 · omega
theorem zx7 {d:Dk} {at_:Int} {side g:Nat} {lk:Str}:∀ k,(scS d at_ side g lk k).txt.length≤30 * k
 | 0=>Nat.le_refl _
 | k+1=>by
   have ih:=zx7 (d:=d) (at_:=at_) (side:=side) (g:=g) (lk:=lk) k
   show (match chS d at_ side g lk k with|none=>scS d at_ side g lk k|some (l,f)=>match zda d at_ side k g l f with|none=>scS d at_ side g lk k|some b=>scB (scS d at_ side g lk k) b).txt.length≤_
   split
   · omega
   · split
     · omega
     · exact Nat.le_trans (z44 ih) (by omega)
theorem zsz {d:Dk} {at_:Int} {side g:Nat} {lk:Str}:∀ k,(scS d at_ side g lk k).recs.length≤k
 | 0=>Nat.le_refl _
 | k+1=>by
   have ih:=zsz (d:=d) (at_:=at_) (side:=side) (g:=g) (lk:=lk) k
   show (match chS d at_ side g lk k with|none=>scS d at_ side g lk k|some (l,f)=>match zda d at_ side k g l f with|none=>scS d at_ side g lk k|some b=>scB (scS d at_ side g lk k) b).recs.length≤_
   split
   · omega
   · split
     · omega
     · show (if _ then _ else _:List Str).length≤_
       split
       · rw [yk2Q];simp only [List.length_cons,List.length_nil];omega
       · omega
theorem zk2 {d:Dk} {at_:Int} {side g:Nat} {lk:Str} (h:lk.length=8):∀ k,(scS d at_ side g lk k).el.length=8
 | 0=>h
 | k+1=>by
   have ih:=zk2 (d:=d) (at_:=at_) (side:=side) (g:=g) h k
   show (match chS d at_ side g lk k with|none=>scS d at_ side g lk k|some (l,f)=>match zda d at_ side k g l f with|none=>scS d at_ side g lk k|some b=>scB (scS d at_ side g lk k) b).el.length=_
   split
   · exact ih
   · split
     · exact ih
     · rename_i b _
       show (if _ then tx b 16 24 else _:Str).length=8
       split
       · exact zas b (by decide)
       · exact ih
structure Jn where
 g:Nat
 ses:Nat
 side:Nat
 used:Nat
 lk:Str
 recs:List Str
def zjd (a b:Option Hd):Nat:=if a.isSome=false∨b.isSome=true∧(a.getD ⟨0,0⟩).g<(b.getD ⟨0,0⟩).g then 1 else 0
def zk3 (a b:Option Hd):Hd:=(if zjd a b=1 then b else a).getD ⟨0,0⟩
def z2h (d:Dk) (first:Int) (half ses side:Nat) (h:Hd):Jn :=
 ⟨h.g,ses,side,(scS d (first+side * half) side h.g (tx (mkH h.g h.n side) 48 56) (half / 2 - 1)).used,
  (scS d (first+side * half) side h.g (tx (mkH h.g h.n side) 48 56) (half / 2 - 1)).el,(scS d (first+side * half) side h.g (tx (mkH h.g h.n side) 48 56) (half / 2 - 1)).recs⟩
def zg3 (d:Dk) (first n:Int):Int :=
 if za9 d first n≠0 then za9 d first n else
 if z1 (hds d first 0)=none∧z1 (hds d (first+(n / 2).toNat) 1)=none then 14 else
 if 4294967295<zz d first (n / 2).toNat then 2 else 0
def zx8 (d:Dk) (first:Int) (half:Nat):Jn :=
 z2h d first half (zz d first half) (zjd (z1 (hds d first 0)) (z1 (hds d (first+half) 1))) (zk3 (z1 (hds d first 0)) (z1 (hds d (first+half) 1)))
theorem zx9 (d:Dk) (at_:Int) (side:Nat):((z1 (hds d at_ side)).getD ⟨0,0⟩).g<4294967296∧((z1 (hds d at_ side)).getD ⟨0,0⟩).n<4294967296:=by
 have go:∀ (l:List Hd) (o:Option Hd),(∀ x∈l,x.g<4294967296∧x.n<4294967296)→(o.getD ⟨0,0⟩).g<4294967296∧(o.getD ⟨0,0⟩).n<4294967296→((l.foldl zc9 o).getD ⟨0,0⟩).g<4294967296∧((l.foldl zc9 o).getD ⟨0,0⟩).n<4294967296:=by
  intro l
  induction l with
  | nil=>intro o _ h;exact h
  | cons x l ih =>
   intro o hl h
   refine ih (zc9 o x) (fun y hy=>hl y (List.mem_cons_of_mem _ hy)) ?_
   have hx:=hl x ylpQ
   cases o with
   | none=>exact hx
   | some q =>
    have eb:zc9 (some q) x=if q.lt x=true then some x else some q:=rfl
    rw [eb]
    by_cases e:q.lt x=true
    · rw [if_pos e];exact hx
    · rw [if_neg e];exact h
 refine go _ none (fun x hx=>?_) (by decide)
 obtain ⟨s,_,rfl⟩:=List.mem_map.1 hx
 exact ⟨zjc s (by decide) rfl,zjc s (by decide) rfl⟩
end C23
namespace C22
theorem stp_lv {d:Dk} (h:d.after=-1):stp d=({ d with steps:=d.steps+1 },0):=by
 unfold stp
 rw [if_neg (by omega),if_neg (by omega)]
theorem rd_lv {d:Dk} (hd:d.dead=false) {i:Nat} {c:Cel} (h:d.cs[i]?=some c):rd d i=celRd c:=by
 have hl:=(List.getElem?_eq_some_iff.1 h).1
 have hk:chk d i=0:=by unfold chk;rw [if_neg (by rw [hd];simp),if_neg (by omega)]
 unfold rd
 rw [if_neg (by rw [hk];simp),yleQ,h]
structure Lv (d:Dk) (n:Int):Prop where
 ok:Okd d
 live:d.dead=false
 aft:d.after=-1
 good:∀ c∈d.cs,c.bad=false
 st:d.steps≤n
def topS (c:Cel):Sec:=(c.op.getLast?).getD c.s
def zbr (d:Dk) (i:Nat):Sec:=topS ((d.cs[i]?).getD zkw)
section
variable {d:Dk} {n:Int}
theorem Lv.mono (h:Lv d n) {m:Int} (hm:n≤m):Lv d m:=⟨h.ok,h.live,h.aft,h.good,by have:=h.st;omega⟩
theorem Lv.rd (h:Lv d n) {i:Nat} (hi:i<d.cs.length):rd d i=(zbr d i,0):=by
 rw [rd_lv h.live (yliQ hi)]
 have hg:=h.good _ (List.getElem_mem hi)
 unfold zbr topS celRd
 rw [yliQ hi]
 simp only [Option.getD_some]
 cases d.cs[i].op.getLast? with
 | some s=>rfl
 | none=>simp [hg]
theorem Lv.chk (h:Lv d n) {i:Nat} (hi:i<d.cs.length):chk d i=0:=by
 unfold C22.chk
 rw [if_neg (by rw [h.live];simp),if_neg (by omega)]
theorem Lv.wr (h:Lv d n) (hn:n≤900000000) {a:Nat} (ha:a<d.cs.length) (s:Sec) :
 (wr d a s).2=0∧Lv (wr d a s).1 (n+1)∧(wr d a s).1.cs.length=d.cs.length∧∀ i,zbr (wr d a s).1 i=if i=a then s else zbr d i:=by
 have hs:=h.st
 have ho:=(wr_ok h.ok (by omega) a s).1
 have e:C22.wr d a s=({ d with steps:=d.steps+1,cs:=d.cs.modify a fun c=>{ c with op:=c.op++[s] } },0):=by
  unfold C22.wr
  rw [if_neg (by rw [h.chk ha];simp),stp_lv h.aft,if_neg (by simp),yleQ]
 rw [e] at ho ⊢
 refine ⟨rfl,⟨ho,h.live,h.aft,fun c hc=>?_,by simp only;omega⟩,by simp,fun i=>?_⟩
 · rcases mem_modify hc with hc|⟨y,hy,rfl⟩
   · exact h.good c hc
   · exact h.good y hy
 · unfold zbr
   simp only [List.getElem?_modify]
   by_cases e1:i=a
   · subst e1
     rw [if_pos rfl,yliQ ha]
     simp [topS]
   · rw [if_neg e1]
     cases hx:d.cs[i]? with
     | none=>rfl
     | some c=>simp [Ne.symm e1]
theorem Lv.sy (h:Lv d n) (hn:n≤900000000) :
 (sy d).2=0∧Lv (sy d).1 (n+1)∧(sy d).1.cs.length=d.cs.length∧∀ i,zbr (sy d).1 i=zbr d i:=by
 have hs:=h.st
 have ho:=(z4z h.ok (by omega)).1
 have e:C22.sy d=({ d with steps:=d.steps+1,cs:=d.cs.map syC },0):=by
  unfold C22.sy
  rw [if_neg (by rw [h.live];simp),stp_lv h.aft,if_neg (by simp)]
 rw [e] at ho ⊢
 refine ⟨rfl,⟨ho,h.live,h.aft,fun c hc=>?_,by simp only;omega⟩,by simp,fun i=>?_⟩
 · obtain ⟨y,hy,rfl⟩:=List.mem_map.1 hc
   unfold syC
   split
   · rfl
   · exact h.good y hy
 · unfold zbr
   simp only [ylhQ]
   cases hx:d.cs[i]? with
   | none=>rfl
   | some c =>
    simp only [Option.map_some,Option.getD_some,topS,syC]
    cases hl:c.op.getLast? with
    | none=>simp [hl]
    | some s=>rfl
end
end C22
namespace C23
open C22 (Sec Dk rd wr sy Lv zbr z0)
theorem zje {d:Dk} {n:Int} (h:Lv d n) (hn:n≤800000000) {a:Nat} (ha:a+1<d.cs.length) (s:Sec) :
 (wr2 d a s).2=0∧Lv (wr2 d a s).1 (n+2)∧(wr2 d a s).1.cs.length=d.cs.length∧∀ i,zbr (wr2 d a s).1 i=if i=a∨i=a+1 then s else zbr d i:=by
 obtain ⟨a1,a2,a3,a4⟩:=h.wr (by omega) (show a<d.cs.length by omega) s
 obtain ⟨b1,b2,b3,b4⟩:=a2.wr (by omega) (show a+1<(wr d a s).1.cs.length by omega) s
 have e:wr2 d a s=wr (wr d a s).1 ((a+1:Nat):Int) s:=if_neg (fun h=>h a1)
 rw [e]
 refine ⟨b1,b2.mono (by omega),by omega,fun i=>?_⟩
 rw [b4,a4]
 by_cases e1:i=a+1
 · rw [if_pos e1,if_pos (.inr e1)]
 · rw [if_neg e1]
   by_cases e2:i=a
   · rw [if_pos e2,if_pos (.inl e2)]
   · rw [if_neg e2,if_neg (by omega)]
def flg (s:Str) (k:Nat):Nat:=(if k=0 then 1 else 0)+if k+1=np s then 2 else 0
def pcs (s:Str):List (Nat×Str):=(List.range (np s)).map fun k=>(flg s k,pc s k)
theorem zk4 (s:Str):(pcs s).length=np s:=by simp [pcs]
def frs (g ses side:Nat):Str→Nat→List (Nat×Str)→List Sec
 | _,_,[]=>[]
 | lk,u,(f,c)::l=>mkF g ses lk f c side u::frs g ses side (tx (mkF g ses lk f c side u) 16 24) (u+1) l
def lkE (g ses side:Nat):Str→Nat→List (Nat×Str)→Str
 | lk,_,[]=>lk
 | lk,u,(f,c)::l=>lkE g ses side (tx (mkF g ses lk f c side u) 16 24) (u+1) l
def zg4 (at_ g ses side:Nat):Dk→Str→Nat→List (Nat×Str)→Dk
 | d,_,_,[]=>d
 | d,lk,u,(f,c)::l=>zg4 at_ g ses side (wr2 d ((at_+2+2 * u:Nat):Int) (mkF g ses lk f c side u)).1 (tx (mkF g ses lk f c side u) 16 24) (u+1) l
theorem zd7 (g ses side:Nat):∀ (l:List (Nat×Str)) (lk:Str) (u:Nat),(frs g ses side lk u l).length=l.length
 | [],_,_=>rfl
 | (f,c)::l,lk,u=>by rw [frs,List.length_cons,zd7 g ses side l,List.length_cons]
theorem ziv (g ses side:Nat):∀ (l m:List (Nat×Str)) (lk:Str) (u:Nat),frs g ses side lk u (l++m)=frs g ses side lk u l++frs g ses side (lkE g ses side lk u l) (u+l.length) m
 | [],m,lk,u=>rfl
 | (f,c)::l,m,lk,u=>by
   rw [List.cons_append,frs,frs,List.cons_append,ziv g ses side l m,lkE,List.length_cons,show u+(l.length+1)=u+1+l.length by omega]
theorem zg5 (g ses side:Nat):∀ (l m:List (Nat×Str)) (lk:Str) (u:Nat),lkE g ses side lk u (l++m)=lkE g ses side (lkE g ses side lk u l) (u+l.length) m
 | [],m,lk,u=>rfl
 | (f,c)::l,m,lk,u=>by
   rw [List.cons_append,lkE,zg5 g ses side l m,lkE,List.length_cons,show u+(l.length+1)=u+1+l.length by omega]
theorem znm (at_ g ses side:Nat):∀ (l m:List (Nat×Str)) (d:Dk) (lk:Str) (u:Nat),zg4 at_ g ses side d lk u (l++m)=zg4 at_ g ses side (zg4 at_ g ses side d lk u l) (lkE g ses side lk u l) (u+l.length) m
 | [],m,d,lk,u=>rfl
 | (f,c)::l,m,d,lk,u=>by
   rw [List.cons_append,zg4,znm at_ g ses side l m,lkE,zg4,List.length_cons,show u+(l.length+1)=u+1+l.length by omega]
theorem zc3 {g ses side:Nat}:∀ (l:List (Nat×Str)) {lk:Str} (u:Nat),lk.length=8→(lkE g ses side lk u l).length=8
 | [],lk,u,h=>h
 | (f,c)::l,lk,u,h=>zc3 l (u+1) (zas _ (by decide))
theorem ziw {at_ g ses side:Nat}:∀ (l:List (Nat×Str)) {d:Dk} {n:Int} (lk:Str) (u:Nat),Lv d n→n+2 * l.length≤800000000→at_+2+2 * (u+l.length)≤d.cs.length →
 Lv (zg4 at_ g ses side d lk u l) (n+2 * l.length)∧(zg4 at_ g ses side d lk u l).cs.length=d.cs.length ∧
 ∀ i,zbr (zg4 at_ g ses side d lk u l) i=if at_+2+2 * u≤i∧i<at_+2+2 * (u+l.length) then ((frs g ses side lk u l)[(i - (at_+2+2 * u)) / 2]?).getD z0 else zbr d i
 | [],d,n,lk,u,h,_,_=>by
   refine ⟨h.mono (by simp),rfl,fun i=>?_⟩
   rw [if_neg (by simp only [List.length_nil];omega)];rfl
 | (f,c)::l,d,n,lk,u,h,hn,hl=>by
   rw [List.length_cons] at hn hl
   obtain ⟨a1,a2,a3,a4⟩:=zje h (by omega) (a:=at_+2+2 * u) (by omega) (mkF g ses lk f c side u)
   obtain ⟨b1,b2,b3⟩:=ziw (at_:=at_) (g:=g) (ses:=ses) (side:=side) l (tx (mkF g ses lk f c side u) 16 24) (u+1) a2 (by omega) (by rw [a3];omega)
   refine ⟨b1.mono (by rw [List.length_cons];omega),b2.trans a3,fun i=>?_⟩
   rw [zg4,b3,a4,frs,List.length_cons]
   by_cases e1:at_+2+2 * u≤i∧i<at_+2+2 * (u+(l.length+1))
   · rw [if_pos e1]
     by_cases e2:i<at_+2+2 * (u+1)
     · rw [if_neg (by omega),if_pos (by omega),show (i - (at_+2+2 * u)) / 2=0 by omega];rfl
     · rw [if_pos (by omega),show (i - (at_+2+2 * u)) / 2=(i - (at_+2+2 * (u+1))) / 2+1 by omega,List.getElem?_cons_succ]
   · rw [if_neg e1,if_neg (by omega),if_neg (by omega)]
def zb8 (recs:List Str):List (Nat×Str):=recs.flatMap pcs
theorem zk5 (recs:List Str) (s:Str):zb8 (recs++[s])=zb8 recs++pcs s:=by simp [zb8]
theorem zya (s:Str):1≤np s:=Nat.le_max_left _ _
def npL (recs:List Str):Nat:=(recs.map np).sum
theorem zdp:∀ recs:List Str,(zb8 recs).length=npL recs
 | []=>rfl
 | s::l=>by
   have:=zdp l
   unfold zb8 npL at *
   rw [List.flatMap_cons,yk2Q,zk4,this];rfl
end C23
namespace C23
open C22 (Sec Dk rd wr sy Lv zbr z0)
def zcw (d:Dk) (a:Int) (T:Sec→Bool) (x:Sec):Prop:=x∈zpl d a∧∀ s∈zpl d a,T s=true→s=x
theorem zfw:∀ (l:List Sec) (b:Sec),∃ c,l.foldl zel (some b)=some c
 | [],b=>⟨b,rfl⟩
 | s::l,b=>by
   have e:zel (some b) s=if (zal b).n<(zal s).n then some s else some b:=rfl
   rw [List.foldl_cons,e]
   split
   · exact zfw l s
   · exact zfw l b
theorem zyb {l:List Sec} {x:Sec} (h1:x∈l) (h2:∀ s∈l,s=x):zlk l=some x:=by
 cases hb:zlk l with
 | none =>
  cases l with
  | nil=>cases h1
  | cons s l =>
   obtain ⟨c,hc⟩:=zfw l s
   have:zlk (s::l)=some c:=hc
   rw [hb] at this;cases this
 | some b=>rw [h2 b (zpo hb)]
theorem zuc {d:Dk} {at_:Int} {side k g:Nat} {lk:Str} {fst:Bool} {x:Sec} (h:zcw d (at_+2+2 * (k:Int)) (fun s=>isF s side k) x) (hf:fit side k g lk fst x=true):zda d at_ side k g lk fst=some x:=by
 refine zyb (List.mem_filter.2 ⟨h.1,hf⟩) fun s hs=>?_
 obtain ⟨h1,h2⟩:=List.mem_filter.1 hs
 refine h.2 s h1 ?_
 unfold fit at h2
 simp only [yk9Q] at h2
 exact h2.1.1.1.1
theorem zud {d:Dk} {at_:Int} {side k g:Nat} {lk:Str} {fst:Bool} {x:Sec} (h:zcw d (at_+2+2 * (k:Int)) (fun s=>isF s side k) x) (hf:fit side k g lk fst x=false):zda d at_ side k g lk fst=none:=by
 have e:(zpl d (at_+2+2 * (k:Int))).filter (fit side k g lk fst)=[]:=by
  refine List.filter_eq_nil_iff.2 fun s hs h2=>?_
  have h3:=h2
  unfold fit at h2
  simp only [yk9Q] at h2
  rw [h.2 s hs h2.1.1.1.1,hf] at h3
  cases h3
 unfold zda
 rw [e];rfl
theorem z9z {s:Sec} {a b i:Nat} {l:Str} (h:tx s a b=l) (hi:a+i<b) (_hb:b≤64) (x:UInt8) (hx:l[i]?=some x):sb s (a+i)=x:=by
 have:=z9w s hi
 rw [h,hx] at this
 unfold sb
 rw [← this];rfl
theorem zrf {g n:Nat} {ch:Str} {fl:Nat} {c:Str} (side slot:Nat) (hg:g<4294967296) (hn:n<4294967296) (h:8≤ch.length) (hc:c.length≤30):zal (mkF g n ch fl c side slot)=zsu g n (ch.take 8) fl c:=by
 obtain ⟨h1,h2,h3,h4,_⟩:=zpk (fl:=fl) side slot hg hn h hc
 obtain ⟨_,_,h5,_⟩:=zx4 g n fl side slot h hc
 have e:tx (mkF g n ch fl c side slot) 26 56=(tx (mkF g n ch fl c side slot) 24 56).drop 2:=by unfold tx;rw [List.drop_drop]
 have e2:tx (mkF g n ch fl c side slot) 26 56=c++List.replicate (30 - c.length) 0:=by rw [e,h5];rfl
 unfold zal zsu
 rw [h1,h2,h3,e2,show sb (mkF g n ch fl c side slot) 24=UInt8.ofNat fl from z9z (i:=0) h4 (by decide) (by decide) _ rfl,
  show sb (mkF g n ch fl c side slot) 25=UInt8.ofNat c.length from z9z (i:=1) h4 (by decide) (by decide) _ rfl]
def bgn (f:Nat):Bool:=decide (f=1) || decide (f=3)
def fin (f:Nat):Bool:=decide (f=2) || decide (f=3)
theorem zjs {g n:Nat} {lk:Str} {fl:Nat} {c:Str} (h:fl<256):(zsu g n lk fl c).begins=bgn fl∧(zsu g n lk fl c).ends=fin fl:=by
 have key:∀ k:Nat,k<256→decide (UInt8.ofNat fl=UInt8.ofNat k)=decide (fl=k):=by
  intro k hk
  by_cases e:fl=k
  · rw [e];simp
  · have:UInt8.ofNat fl≠UInt8.ofNat k:=by
     intro e2
     have:=congrArg UInt8.toNat e2
     simp only [UInt8.toNat_ofNat'] at this
     omega
    rw [decide_eq_false e,decide_eq_false this]
 unfold Fr.begins Fr.ends bgn fin zsu
 have k1:=key 1 (by decide)
 have k2:=key 2 (by decide)
 have k3:=key 3 (by decide)
 rw [← k1,← k2,← k3]
 exact ⟨rfl,rfl⟩
theorem z0s {g n:Nat} {lk:Str} {fl:Nat} {c:Str} (h:c.length≤30):(zsu g n lk fl c).content=c:=by
 unfold Fr.content zsu
 simp only
 rw [UInt8.toNat_ofNat',Nat.mod_eq_of_lt (by omega),ylnQ rfl]
theorem z90 {g n:Nat} {ch:Str} {fl:Nat} {c:Str} (side slot:Nat) (hg:g<4294967296) (hn:n<4294967296) (h:ch.length=8) (hc:c.length≤30) (hf:fl<256):fit side slot g ch (bgn fl) (mkF g n ch fl c side slot)=true:=by
 unfold fit
 rw [zrf side slot hg hn (by omega) hc,z9v g n fl side slot (by omega) hc,(zjs hf).1]
 have:ch.take 8=ch:=yk1Q (by omega)
 simp only [zsu,this,UInt8.toNat_ofNat',Bool.true_and,decide_true,beq_self_eq_true,Bool.and_true,decide_eq_true_eq]
 omega
theorem z91 {side slot g:Nat} {lk:Str} {fst:Bool} (hg:1≤g):fit side slot g lk fst z0=false:=by
 have:(zal z0).g=0:=rfl
 unfold fit
 rw [this,decide_eq_false (show ¬ 0=g by omega)]
 simp
def Wp:Bool→List (Nat×Str)→Prop
 | _,[]=>True
 | b,(f,c)::l=>bgn f=b∧f<256∧c.length≤30∧Wp (fin f) l
def enE:Bool→List (Nat×Str)→Bool
 | b,[]=>b
 | _,(f,_)::l=>enE (fin f) l
theorem zpp:∀ (l m:List (Nat×Str)) (b:Bool),Wp b (l++m)↔Wp b l∧Wp (enE b l) m
 | [],m,b=>by simp [Wp,enE]
 | (f,c)::l,m,b=>by
   rw [List.cons_append,Wp,Wp,zpp l m,enE]
   constructor
   · rintro ⟨a,b,c,d,e⟩;exact ⟨⟨a,b,c,d⟩,e⟩
   · rintro ⟨⟨a,b,c,d⟩,e⟩;exact ⟨a,b,c,d,e⟩
theorem znn:∀ (l m:List (Nat×Str)) (b:Bool),enE b (l++m)=enE (enE b l) m
 | [],m,b=>rfl
 | (f,c)::l,m,b=>by rw [List.cons_append,enE,znn l m,enE]
theorem z2i (g ses side:Nat) (l:List (Nat×Str)) (lk:Str) (u k:Nat) (f:Nat) (c:Str) (h:l[k]?=some (f,c)):(frs g ses side lk u l)[k]?=some (mkF g ses (lkE g ses side lk u (l.take k)) f c side (u+k)):=by
 have hk:=(List.getElem?_eq_some_iff.1 h).1
 have e:l=l.take k++(f,c)::l.drop (k+1):=by
  rw [← (List.getElem?_eq_some_iff.1 h).2,List.getElem_cons_drop,List.take_append_drop]
 have hl:(l.take k).length=k:=by rw [yk4Q];omega
 conv=>lhs;rw [e]
 rw [ziv,yllQ (by rw [zd7,hl];exact Nat.le_refl _),zd7,hl,Nat.sub_self]
 rfl
theorem zyc {l:List (Nat×Str)} {k:Nat} {x:Nat×Str} (h:l[k]?=some x):l.take (k+1)=l.take k++[x]:=by
 rw [List.take_add_one,h];rfl
def sc0 (lk:Str):Sc:=⟨[],0,0,[],lk⟩
theorem zpq {d:Dk} {at_:Int} {side g ses:Nat} {lk0:Str} {l:List (Nat×Str)} (hlk:lk0.length=8) (hg:g<4294967296) (hn:ses<4294967296) (hw:Wp true l)
 (hs:∀ (k:Nat) x,(frs g ses side lk0 0 l)[k]?=some x→zcw d (at_+2+2 * (k:Int)) (fun s=>isF s side k) x) :
 ∀ k,k≤l.length→chS d at_ side g lk0 k=some (lkE g ses side lk0 0 (l.take k),enE true (l.take k))∧scS d at_ side g lk0 k=(frs g ses side lk0 0 (l.take k)).foldl scB (sc0 lk0)
 | 0,_=>⟨rfl,rfl⟩
 | k+1,hk=>by
   obtain ⟨h1,h2⟩:=zpq hlk hg hn hw hs k (by omega)
   obtain ⟨⟨f,c⟩,hfc⟩:∃ x,l[k]?=some x:=⟨_,yliQ (by omega)⟩
   have hx:=z2i g ses side l lk0 0 k f c hfc
   rw [yltQ] at hx
   have hl:(l.take k).length=k:=by rw [yk4Q];omega
   have e:l=l.take k++(f,c)::l.drop (k+1):=by
    rw [← (List.getElem?_eq_some_iff.1 hfc).2,List.getElem_cons_drop,List.take_append_drop]
   have hw2:Wp (enE true (l.take k)) ((f,c)::l.drop (k+1)):=by
    rw [e] at hw;exact ((zpp _ _ _).1 hw).2
   obtain ⟨w1,w2,w3,_⟩:=hw2
   have hfit:zda d at_ side k g (lkE g ses side lk0 0 (l.take k)) (enE true (l.take k))=some (mkF g ses (lkE g ses side lk0 0 (l.take k)) f c side k):=by
    refine zuc (hs k _ hx) ?_
    rw [← w1]
    exact z90 side k hg hn (zc3 _ _ hlk) w3 w2
   have hfr:=zrf (fl:=f) (c:=c) side k hg hn (show 8≤(lkE g ses side lk0 0 (l.take k)).length by rw [zc3 _ _ hlk];exact Nat.le_refl _) w3
   rw [zyc hfc]
   constructor
   · show (match chS d at_ side g lk0 k with|none=>none|some (l,f)=>(zda d at_ side k g l f).map fun b=>(tx b 16 24,(zal b).ends))=_
     rw [h1]
     show ((zda d at_ side k g (lkE g ses side lk0 0 (l.take k)) (enE true (l.take k))).map fun b=>(tx b 16 24,(zal b).ends))=_
     rw [hfit,zg5,znn,hl,yltQ]
     show some (tx (mkF g ses (lkE g ses side lk0 0 (l.take k)) f c side k) 16 24,(zal (mkF g ses (lkE g ses side lk0 0 (l.take k)) f c side k)).ends)=some (tx (mkF g ses (lkE g ses side lk0 0 (l.take k)) f c side k) 16 24,fin f)
     rw [hfr,(zjs w2).2]
   · rw [znl h1 hfit,h2,ziv,List.foldl_append,hl,yltQ]
     rfl
theorem zyd (s:Str) (k:Nat):flg s k<256:=by unfold flg;split<;>split<;>decide
theorem zye (s:Str) (k:Nat):bgn (flg s k)=decide (k=0):=by
 unfold bgn flg
 by_cases h:k=0
 · rw [if_pos h,decide_eq_true h]
   split<;>rfl
 · rw [if_neg h,decide_eq_false h]
   split<;>rfl
theorem zyf (s:Str) (k:Nat):fin (flg s k)=decide (k+1=np s):=by
 unfold fin flg
 by_cases h:k=0
 · subst h
   by_cases h2:0+1=np s
   · rw [if_pos rfl,if_pos h2,decide_eq_true h2];rfl
   · rw [if_pos rfl,if_neg h2,decide_eq_false h2];rfl
 · by_cases h2:k+1=np s
   · rw [if_neg h,if_pos h2,decide_eq_true h2];rfl
   · rw [if_neg h,if_neg h2,decide_eq_false h2];rfl
theorem np_30 (s:Str):s.length≤30 * np s:=by unfold np;omega
def rng (s:Str) (j:Nat):List (Nat×Str):=(List.range j).map fun k=>(flg s k,pc s k)
theorem zjt (s:Str) (j:Nat):rng s (j+1)=rng s j++[(flg s j,pc s j)]:=by simp [rng,List.range_succ]
theorem zg6 (s:Str) (j:Nat):(rng s j).length=j:=by simp [rng]
theorem z2j (s:Str):∀ j,j≤np s→Wp true (rng s j)∧enE true (rng s j)=if j=0 then true else decide (j=np s)
 | 0,_=>⟨trivial,rfl⟩
 | j+1,hj=>by
   obtain ⟨h1,h2⟩:=z2j s j (by omega)
   rw [zjt,zpp,znn]
   have e:enE (enE true (rng s j)) [(flg s j,pc s j)]=fin (flg s j):=rfl
   refine ⟨⟨h1,?_,zyd s j,zmj s j,trivial⟩,by rw [e,zyf,if_neg (by omega)]⟩
   rw [h2,zye]
   by_cases e:j=0
   · rw [if_pos e,decide_eq_true e]
   · rw [if_neg e,decide_eq_false e,decide_eq_false (by omega)]
theorem z92 (s:Str):Wp true (pcs s)∧enE true (pcs s)=true:=by
 obtain ⟨h1,h2⟩:=z2j s (np s) (Nat.le_refl _)
 have:=zya s
 exact ⟨h1,by rw [show pcs s=rng s (np s) from rfl,h2,if_neg (by omega),decide_eq_true rfl]⟩
theorem zk6:∀ recs:List Str,Wp true (zb8 recs)∧enE true (zb8 recs)=true
 | []=>⟨trivial,rfl⟩
 | s::l=>by
   obtain ⟨h1,h2⟩:=z92 s
   obtain ⟨h3,h4⟩:=zk6 l
   have e:zb8 (s::l)=pcs s++zb8 l:=by simp [zb8]
   rw [e,zpp,znn,h2]
   exact ⟨⟨h1,h3⟩,h4⟩
theorem zs0 {g ses side:Nat} (hg:g<4294967296) (hn:ses<4294967296) (s:Str) (S:Sc) (u:Nat) (hu:S.k=u) {lk:Str} (hlk:lk.length=8):∀ j,j≤np s →
 (frs g ses side lk u (rng s j)).foldl scB S=if j=np s then ⟨s,u+j,u+j,S.recs++[s],lkE g ses side lk u (rng s j)⟩ else ⟨if j=0 then S.txt else s.take (30 * j),u+j,S.used,S.recs,S.el⟩
 | 0,_=>by
   have:=zya s
   rw [if_neg (by omega),if_pos rfl,← hu];rfl
 | j+1,hj=>by
   rw [zjt,ziv,List.foldl_append,zs0 hg hn s S u hu hlk j (by omega),if_neg (by omega),zg6,zg5,zg6]
   have hfr:=zrf (fl:=flg s j) (c:=pc s j) side (u+j) hg hn (show 8≤(lkE g ses side lk u (rng s j)).length by rw [zc3 _ _ hlk];exact Nat.le_refl _) (zmj s j)
   show scB _ (mkF g ses (lkE g ses side lk u (rng s j)) (flg s j) (pc s j) side (u+j))=_
   unfold scB
   rw [hfr,(zjs (zyd s j)).1,(zjs (zyd s j)).2,z0s (zmj s j),zye,zyf]
   have ht:(if decide (j=0)=true then [] else if j=0 then S.txt else s.take (30 * j))++pc s j=s.take (30 * (j+1)):=by
    by_cases e:j=0
    · subst e
      rw [if_pos (decide_eq_true rfl)];simp [pc]
    · rw [if_neg (by simp [e]),if_neg e,pc,show 30 * (j+1)=30 * j+30 by omega,List.take_add]
   simp only [ht]
   by_cases e:j+1=np s
   · have hf:s.take (30 * (j+1))=s:=yk1Q (by rw [e];exact np_30 s)
     rw [hf,if_pos (decide_eq_true e),if_pos (decide_eq_true e),if_pos (decide_eq_true e),if_pos e]
     rfl
   · rw [if_neg (by simp [e]),if_neg (by simp [e]),if_neg (by simp [e]),if_neg e,if_neg (by omega)]
     rfl
theorem zmk {g ses side:Nat} (hg:g<4294967296) (hn:ses<4294967296):∀ (recs:List Str) {lk:Str} (u:Nat) (S:Sc),lk.length=8→S.k=u→S.used=u→S.el=lk→∃ t,
 (frs g ses side lk u (zb8 recs)).foldl scB S=⟨t,u+npL recs,u+npL recs,S.recs++recs,lkE g ses side lk u (zb8 recs)⟩
 | [],lk,u,S,hlk,h1,h2,h3=>by
   obtain ⟨a,b,c,d,e⟩:=S
   obtain rfl:b=u:=h1
   obtain rfl:c=b:=h2
   obtain rfl:e=lk:=h3
   exact ⟨a,by rw [ylvQ];rfl⟩
 | s::l,lk,u,S,hlk,h1,h2,h3=>by
   have h:=zs0 (side:=side) hg hn s S u h1 hlk (np s) (Nat.le_refl _)
   rw [if_pos rfl] at h
   have hp:rng s (np s)=pcs s:=rfl
   rw [hp] at h
   obtain ⟨t,ht⟩:=zmk (side:=side) hg hn l (u+np s) ⟨s,u+np s,u+np s,S.recs++[s],lkE g ses side lk u (pcs s)⟩ (zc3 (g:=g) (ses:=ses) (side:=side) (pcs s) u hlk) rfl rfl rfl
   have e:zb8 (s::l)=pcs s++zb8 l:=by simp [zb8]
   have e2:npL (s::l)=np s+npL l:=by simp [npL]
   refine ⟨t,?_⟩
   rw [e,ziv,List.foldl_append,h,zg5,zk4,ht,e2,Nat.add_assoc]
   simp
theorem zyg {g ses side:Nat} (hg:g<4294967296) (hn:ses<4294967296) {lk:Str} (hlk:lk.length=8) (recs:List Str):∃ t,
 (frs g ses side lk 0 (zb8 recs)).foldl scB (sc0 lk)=⟨t,npL recs,npL recs,recs,lkE g ses side lk 0 (zb8 recs)⟩:=by
 obtain ⟨t,h⟩:=zmk (side:=side) hg hn recs 0 (sc0 lk) hlk rfl rfl rfl
 exact ⟨t,by rw [h,yltQ];rfl⟩
theorem zpr {d:Dk} {at_:Int} {side g ses q:Nat} {lk:Str} {recs:List Str} (hlk:lk.length=8) (hg:g<4294967296) (hg1:1≤g) (hn:ses<4294967296) (hq:npL recs≤q)
 (hs:∀ k:Nat,k<q→zcw d (at_+2+2 * (k:Int)) (fun s=>isF s side k) (((frs g ses side lk 0 (zb8 recs))[k]?).getD z0)) :
 ∃ t,scS d at_ side g lk q=⟨t,npL recs,npL recs,recs,lkE g ses side lk 0 (zb8 recs)⟩:=by
 obtain ⟨t,ht⟩:=zyg (side:=side) hg hn hlk recs
 have hl:=zdp recs
 have hc:=zpq (d:=d) (at_:=at_) (side:=side) (g:=g) (ses:=ses) (l:=zb8 recs) hlk hg hn (zk6 recs).1 (fun k x hx=>by
  have hk:=(List.getElem?_eq_some_iff.1 hx).1
  rw [zd7,hl] at hk
  have:=hs k (by omega)
  rwa [hx] at this) (npL recs) (by omega)
 rw [yk1Q (by omega)] at hc
 refine ⟨t,?_⟩
 rw [← ht,← hc.2]
 by_cases e:npL recs=q
 · rw [e]
 · refine zsy ?_ q hq
   show (match chS d at_ side g lk (npL recs) with|none=>none|some (l,f)=>(zda d at_ side (npL recs) g l f).map fun b=>(tx b 16 24,(zal b).ends))=none
   rw [hc.1]
   show ((zda d at_ side (npL recs) g (lkE g ses side lk 0 (zb8 recs)) (enE true (zb8 recs))).map fun b=>(tx b 16 24,(zal b).ends))=none
   have hp:=hs (npL recs) (by omega)
   rw [yljQ (by rw [zd7,hl];exact Nat.le_refl _)] at hp
   rw [zud hp (z91 hg1)];rfl
theorem zs1:∀ (l:List Hd) (h:Hd),(∀ x∈l,x=h)→l.foldl zc9 (some h)=some h
 | [],h,_=>rfl
 | x::l,h,hl=>by
   obtain rfl:=hl x ylpQ
   rw [List.foldl_cons]
   have e:zc9 (some x) x=if x.lt x=true then some x else some x:=rfl
   rw [e,ite_self]
   exact zs1 l x fun y hy=>hl y (List.mem_cons_of_mem _ hy)
theorem zdb {d:Dk} {at_:Int} {side:Nat} {x:Sec} (h:zcw d at_ (fun s=>isH s side) x):z1 (hds d at_ side)=if isH x side=true then some (hdOf x) else none:=by
 have hall:∀ y∈hds d at_ side,y=hdOf x:=by
  intro y hy
  obtain ⟨s,hs,rfl⟩:=List.mem_map.1 hy
  obtain ⟨h1,h2⟩:=List.mem_filter.1 hs
  rw [h.2 s h1 h2]
 by_cases e:isH x side=true
 · rw [if_pos e]
   have hm:hdOf x∈hds d at_ side:=List.mem_map.2 ⟨x,List.mem_filter.2 ⟨h.1,e⟩,rfl⟩
   cases hl:hds d at_ side with
   | nil=>rw [hl] at hm;cases hm
   | cons y l =>
    rw [hl] at hall
    obtain rfl:=hall y ylpQ
    exact zs1 l _ fun z hz=>hall z (List.mem_cons_of_mem _ hz)
 · rw [if_neg e]
   cases hl:hds d at_ side with
   | nil=>rfl
   | cons y l =>
    have hy:y∈hds d at_ side:=by rw [hl];exact ylpQ
    obtain ⟨s,hs,_⟩:=List.mem_map.1 hy
    obtain ⟨h1,h2⟩:=List.mem_filter.1 hs
    rw [h.2 s h1 h2] at h2
    exact absurd h2 e
structure ze6 (d:Dk) (at_:Int) (side q:Nat) (hx:Sec) (X:Nat→Sec):Prop where
 head:zcw d at_ (fun s=>isH s side) hx
 slot:∀ k:Nat,k<q→zcw d (at_+2+2 * (k:Int)) (fun s=>isF s side k) (X k)
theorem ze6.hdn {d:Dk} {at_:Int} {side q:Nat} {hx:Sec} {X:Nat→Sec} (h:ze6 d at_ side q hx X) {B:Nat} (hB:0<B) (h1:isH hx side=true→(hdOf hx).n<B):most ((hds d at_ side).map (·.n))<B:=by
 refine znk hB fun y hy=>?_
 obtain ⟨z,hz,rfl⟩:=List.mem_map.1 hy
 obtain ⟨s,hs,rfl⟩:=List.mem_map.1 hz
 obtain ⟨h3,h4⟩:=List.mem_filter.1 hs
 have:=h.head.2 s h3 h4
 subst this
 exact h1 h4
theorem ze6.fse {d:Dk} {at_:Int} {side q:Nat} {hx:Sec} {X:Nat→Sec} (h:ze6 d at_ side q hx X) {B:Nat} (hB:0<B) (h1:∀ k,k<q→be (tx (X k) 4 8)<B):∀ k,k≤q→zkz d at_ side k<B
 | 0,_=>hB
 | k+1,hk=>by
   refine Nat.max_lt.2 ⟨h.fse hB h1 k (by omega),znk hB fun y hy=>?_⟩
   obtain ⟨s,hs,rfl⟩:=List.mem_map.1 hy
   obtain ⟨h3,h4⟩:=List.mem_filter.1 hs
   rw [(h.slot k (by omega)).2 s h3 h4]
   exact h1 k (by omega)
theorem zfx {d:Dk} {first:Int} {half:Nat} {h0 h1:Sec} {X0 X1:Nat→Sec} (a:ze6 d first 0 (half / 2 - 1) h0 X0) (b:ze6 d (first+half) 1 (half / 2 - 1) h1 X1) {B:Nat} (hB:0<B)
 (a1:isH h0 0=true→(hdOf h0).n<B) (a2:∀ k,k<half / 2 - 1→be (tx (X0 k) 4 8)<B) (b1:isH h1 1=true→(hdOf h1).n<B) (b2:∀ k,k<half / 2 - 1→be (tx (X1 k) 4 8)<B):zz d first half≤B:=by
 have:=Nat.max_lt.2 ⟨Nat.max_lt.2 ⟨a.hdn hB a1,a.fse hB a2 _ (Nat.le_refl _)⟩,Nat.max_lt.2 ⟨b.hdn hB b1,b.fse hB b2 _ (Nat.le_refl _)⟩⟩
 unfold zz
 omega
theorem zs2 (side:Nat):isH z0 side=false:=rfl
end C23
namespace C23
open C22 (Sec Dk Cel rd wr sy Lv zbr z0 Okd)
structure zdd (d:Dk) (at_ q:Nat) (hx:Sec) (X:Nat→Sec):Prop where
 h0:zbr d at_=hx
 h1:zbr d (at_+1)=hx
 s0:∀ k,k<q→zbr d (at_+2+2 * k)=X k
 s1:∀ k,k<q→zbr d (at_+3+2 * k)=X k
theorem z45 {d:Dk} {n:Int} (h:Lv d n) {a:Nat} (ha:a+1<d.cs.length):zpl d (a:Int)=[zbr d a,zbr d (a+1)]:=by
 have e1:=h.rd (show a<d.cs.length by omega)
 have e2:=h.rd ha
 have e3:((a+1:Nat):Int)=(a:Int)+1:=by omega
 rw [e3] at e2
 unfold zpl
 rw [e1,e2];rfl
theorem zyh {d:Dk} {n:Int} (h:Lv d n) {a:Nat} (ha:a+1<d.cs.length) {x:Sec} (T:Sec→Bool) (h0:zbr d a=x) (h1:zbr d (a+1)=x):zcw d (a:Int) T x:=by
 rw [zcw,z45 h ha,h0,h1]
 refine ⟨ylpQ,fun s hs _=>?_⟩
 simpa using hs
theorem zdd.p {d:Dk} {n:Int} (hL:Lv d n) {at_ q:Nat} {hx:Sec} {X:Nat→Sec} (h:zdd d at_ q hx X) (hl:at_+2+2 * q≤d.cs.length) (side:Nat):ze6 d at_ side q hx X:=by
 refine ⟨zyh hL (by omega) _ h.h0 h.h1,fun k hk=>?_⟩
 have e:(at_:Int)+2+2 * (k:Int)=((at_+2+2 * k:Nat):Int):=by omega
 rw [e]
 exact zyh hL (by omega) _ (h.s0 k hk) (by rw [show at_+2+2 * k+1=at_+3+2 * k by omega];exact h.s1 k hk)
def XL (g ses side:Nat) (lk:Str) (l:List (Nat×Str)):Nat→Sec:=fun k=>((frs g ses side lk 0 l)[k]?).getD z0
theorem zdd.put {d:Dk} {n:Int} (hL:Lv d n) {at_ q g ses side:Nat} {hx:Sec} {lk:Str} {l m:List (Nat×Str)} (h:zdd d at_ q hx (XL g ses side lk l)) (hq:l.length+m.length≤q) (hl:at_+2+2 * q≤d.cs.length) (hn:n+2 * m.length≤800000000) :
 zdd (zg4 at_ g ses side d (lkE g ses side lk 0 l) l.length m) at_ q hx (XL g ses side lk (l++m)):=by
 obtain ⟨_,_,h3⟩:=ziw (at_:=at_) (g:=g) (ses:=ses) (side:=side) m (lkE g ses side lk 0 l) l.length hL hn (by omega)
 have key:∀ k,XL g ses side lk (l++m) k=if l.length≤k∧k<l.length+m.length then ((frs g ses side (lkE g ses side lk 0 l) l.length m)[k - l.length]?).getD z0 else XL g ses side lk l k:=by
  intro k
  unfold XL
  rw [ziv,yltQ]
  by_cases e:k<l.length
  · rw [ylkQ (by rw [zd7];exact e),if_neg (by omega)]
  · rw [yllQ (by rw [zd7];omega),zd7]
    by_cases e2:k<l.length+m.length
    · rw [if_pos ⟨by omega,e2⟩]
    · rw [if_neg (by omega),yljQ (by rw [zd7];omega),yljQ (by rw [zd7];omega)]
 refine ⟨by rw [h3,if_neg (by omega)];exact h.h0,by rw [h3,if_neg (by omega)];exact h.h1,fun k hk=>?_,fun k hk=>?_⟩
 · rw [h3,key,h.s0 k hk]
   by_cases e:l.length≤k∧k<l.length+m.length
   · rw [if_pos e,if_pos (by omega),show (at_+2+2 * k - (at_+2+2 * l.length)) / 2=k - l.length by omega]
   · rw [if_neg e,if_neg (by omega)]
 · rw [h3,key,h.s1 k hk]
   by_cases e:l.length≤k∧k<l.length+m.length
   · rw [if_pos e,if_pos (by omega),show (at_+3+2 * k - (at_+2+2 * l.length)) / 2=k - l.length by omega]
   · rw [if_neg e,if_neg (by omega)]
theorem zdd.frame {d d':Dk} {at_ q:Nat} {hx:Sec} {X:Nat→Sec} (h:zdd d at_ q hx X) (hs:∀ i,at_≤i→i<at_+2+2 * q→zbr d' i=zbr d i):zdd d' at_ q hx X :=
 ⟨by rw [hs _ (by omega) (by omega)];exact h.h0,by rw [hs _ (by omega) (by omega)];exact h.h1,fun k hk=>by rw [hs _ (by omega) (by omega)];exact h.s0 k hk,fun k hk=>by rw [hs _ (by omega) (by omega)];exact h.s1 k hk⟩
theorem zyi {g ses side:Nat} {lk:Str} {l:List (Nat×Str)} {B:Nat} (hlk:lk.length=8) (hg:g<4294967296) (hn:ses<4294967296) (hw:Wp true l) (hB:ses<B) (k:Nat):be (tx (XL g ses side lk l k) 4 8)<B:=by
 unfold XL
 cases hx:l[k]? with
 | none =>
  rw [yljQ (by rw [zd7];exact List.getElem?_eq_none_iff.1 hx)]
  show be (tx z0 4 8)<B
  have:be (tx z0 4 8)=0:=rfl
  omega
 | some fc =>
  obtain ⟨f,c⟩:=fc
  have hk:=(List.getElem?_eq_some_iff.1 hx).1
  have e:l=l.take k++(f,c)::l.drop (k+1):=by
   rw [← (List.getElem?_eq_some_iff.1 hx).2,List.getElem_cons_drop,List.take_append_drop]
  rw [e] at hw
  obtain ⟨w1,w2,w3,_⟩:=((zpp _ _ _).1 hw).2
  rw [z2i g ses side l lk 0 k f c hx]
  show be (tx (mkF g ses _ f c side (0+k)) 4 8)<B
  rw [(zpk (fl:=f) side (0+k) hg hn (by rw [zc3 _ _ hlk];exact Nat.le_refl _) w3).2.1]
  exact hB
theorem zfy (s:Sec):(tx s 48 56).length=8:=zas s (by decide)
theorem opn_A {d:Dk} {n:Int} {half:Nat} (hhalf:half=(n / 2).toNat) (hp:za9 d 0 n=0) {b0 s1 B:Nat} {recs:List Str} (h0:ze6 d 0 0 (half / 2 - 1) (mkH 1 b0 0) (XL 1 s1 0 (tx (mkH 1 b0 0) 48 56) (zb8 recs)))
 (h1:ze6 d (0+half) 1 (half / 2 - 1) z0 (fun _=>z0)) (hB:b0<B) (hs:s1<B) (hB2:B<4294967296) (hq:npL recs≤half / 2 - 1) :
 zg3 d 0 n=0∧∃ ses,ses≤B∧zx8 d 0 half=⟨1,ses,0,npL recs,lkE 1 s1 0 (tx (mkH 1 b0 0) 48 56) 0 (zb8 recs),recs⟩:=by
 have hb:zz d 0 half≤B:=zfx h0 h1 (by omega) (fun _=>by show be _<_;rw [(ze8 (by decide) (by omega) 0).2];exact hB)
  (fun k _=>zyi (zfy _) (by decide) (by omega) (zk6 recs).1 hs k) (fun h=>by cases h) (fun k _=>by show be (tx z0 4 8)<B;have:be (tx z0 4 8)=0:=rfl;omega)
 have e0:=zdb h0.head
 rw [if_pos (zst 1 b0 0)] at e0
 have eh:hdOf (mkH 1 b0 0)=⟨1,b0⟩:=by unfold hdOf;rw [(ze8 (g:=1) (n:=b0) (by decide) (by omega) 0).1,(ze8 (g:=1) (n:=b0) (by decide) (by omega) 0).2]
 rw [eh] at e0
 have e1:=zdb h1.head
 rw [if_neg (by simp [zs2])] at e1
 constructor
 · unfold zg3
   rw [if_neg (fun h=>h hp),← hhalf,e0,e1,if_neg (by simp),if_neg (by omega)]
 · obtain ⟨t,ht⟩:=zpr (d:=d) (at_:=0) (side:=0) (q:=half / 2 - 1) (recs:=recs) (zfy (mkH 1 b0 0)) (g:=1) (ses:=s1) (by decide) (by decide) (by omega) hq h0.slot
   refine ⟨_,hb,?_⟩
   unfold zx8
   rw [e0,e1]
   have es:zjd (some ⟨1,b0⟩) none=0:=rfl
   have ehd:zk3 (some ⟨1,b0⟩) none=⟨1,b0⟩:=rfl
   rw [es,ehd]
   unfold z2h
   have ea:(0:Int)+((0:Nat):Int) * (half:Int)=0:=by omega
   simp only [ea]
   rw [ht]
theorem opn_B {d:Dk} {n:Int} {half:Nat} (hhalf:half=(n / 2).toNat) (hp:za9 d 0 n=0) {b0 s2 B:Nat} {X0:Nat→Sec} {recs:List Str} (h0:ze6 d 0 0 (half / 2 - 1) (mkH 1 b0 0) X0)
 (h1:ze6 d (0+half) 1 (half / 2 - 1) (mkH 2 s2 1) (XL 2 s2 1 (tx (mkH 2 s2 1) 48 56) (zb8 recs))) (hB:b0<B) (hX:∀ k,k<half / 2 - 1→be (tx (X0 k) 4 8)<B) (hs2:s2<B) (hB2:B<4294967296) (hq:npL recs≤half / 2 - 1) :
 zg3 d 0 n=0∧∃ ses,ses≤B∧zx8 d 0 half=⟨2,ses,1,npL recs,lkE 2 s2 1 (tx (mkH 2 s2 1) 48 56) 0 (zb8 recs),recs⟩:=by
 have hb:zz d 0 half≤B:=zfx h0 h1 (by omega) (fun _=>by show be _<_;rw [(ze8 (by decide) (by omega) 0).2];exact hB)
  hX (fun _=>by show be _<_;rw [(ze8 (by decide) (by omega) 1).2];exact hs2) (fun k _=>zyi (zfy _) (by decide) (by omega) (zk6 recs).1 hs2 k)
 have e0:=zdb h0.head
 rw [if_pos (zst 1 b0 0)] at e0
 have eh:hdOf (mkH 1 b0 0)=⟨1,b0⟩:=by unfold hdOf;rw [(ze8 (g:=1) (n:=b0) (by decide) (by omega) 0).1,(ze8 (g:=1) (n:=b0) (by decide) (by omega) 0).2]
 rw [eh] at e0
 have e1:=zdb h1.head
 rw [if_pos (zst 2 s2 1)] at e1
 have eh2:hdOf (mkH 2 s2 1)=⟨2,s2⟩:=by unfold hdOf;rw [(ze8 (g:=2) (n:=s2) (by decide) (by omega) 1).1,(ze8 (g:=2) (n:=s2) (by decide) (by omega) 1).2]
 rw [eh2] at e1
 constructor
 · unfold zg3
   rw [if_neg (fun h=>h hp),← hhalf,e0,e1,if_neg (by simp),if_neg (by omega)]
 · obtain ⟨t,ht⟩:=zpr (d:=d) (at_:=0+half) (side:=1) (q:=half / 2 - 1) (recs:=recs) (zfy (mkH 2 s2 1)) (g:=2) (ses:=s2) (by decide) (by decide) (by omega) hq h1.slot
   refine ⟨_,hb,?_⟩
   unfold zx8
   rw [e0,e1]
   have es:zjd (some ⟨1,b0⟩) (some ⟨2,s2⟩)=1:=rfl
   have ehd:zk3 (some ⟨1,b0⟩) (some ⟨2,s2⟩)=⟨2,s2⟩:=rfl
   rw [es,ehd]
   unfold z2h
   have ea:(0:Int)+((1:Nat):Int) * (half:Int)=0+half:=by omega
   simp only [ea]
   rw [ht]
theorem zno {N:Nat} (h1:1≤N) (h2:N≤65536):Lv (C22.fresh N) 0∧(C22.fresh N).cs.length=N∧∀ i,zbr (C22.fresh N) i=z0:=by
 refine ⟨⟨C22.okd_fresh h1 h2,rfl,rfl,fun c hc=>?_,Int.le_refl _⟩,by simp [C22.fresh],fun i=>?_⟩
 · obtain rfl:=(List.mem_replicate.1 hc).2;rfl
 · unfold zbr C22.fresh
   simp only [List.getElem?_replicate]
   split<;>rfl
theorem z47 {d:Dk} {n:Int} (h:d.dead=false) (h8:8≤n) (hl:n≤d.cs.length):za9 d 0 n=0:=by
 unfold za9
 rw [if_neg (by omega),if_neg (by rw [h];simp)]
theorem zyj {N:Nat} {n:Int} {half:Nat} (hhalf:half=(n / 2).toNat) (h8:8≤n) (hN:n≤N) (hN2:N≤65536) :
 (fmt (C22.fresh N) 0 n).2=0∧Lv (fmt (C22.fresh N) 0 n).1 5∧(fmt (C22.fresh N) 0 n).1.cs.length=N∧∃ b0,b0≤1 ∧
 zdd (fmt (C22.fresh N) 0 n).1 0 (half / 2 - 1) (mkH 1 b0 0) (fun _=>z0)∧zdd (fmt (C22.fresh N) 0 n).1 half (half / 2 - 1) z0 (fun _=>z0):=by
 obtain ⟨l1,l2,l3⟩:=zno (N:=N) (by omega) hN2
 have hp:=z47 l1.live h8 (by rw [l2];omega)
 have q0:zdd (C22.fresh N) 0 (half / 2 - 1) z0 (fun _=>z0):=⟨l3 _,l3 _,fun _ _=>l3 _,fun _ _=>l3 _⟩
 have q1:zdd (C22.fresh N) half (half / 2 - 1) z0 (fun _=>z0):=⟨l3 _,l3 _,fun _ _=>l3 _,fun _ _=>l3 _⟩
 have p0:=q0.p l1 (by rw [l2];omega) 0
 have p1:=q1.p l1 (by rw [l2];omega) 1
 have hz:be (tx z0 4 8)<1:=by decide
 have ez:((0:Nat):Int)=0:=rfl
 rw [ez] at p0
 have e2:(0:Int)+(half:Int)=((half:Nat):Int):=by omega
 have hb:zz (C22.fresh N) 0 half≤1:=zfx p0 (by rw [e2];exact p1) (by decide) (fun h=>by cases h) (fun _ _=>hz) (fun h=>by cases h) (fun _ _=>hz)
 obtain ⟨b0,hb0⟩:∃ b0,b0=zz (C22.fresh N) 0 half:=⟨_,rfl⟩
 rw [← hb0] at hb
 obtain ⟨w1,w2,w3,w4⟩:=zje l1 (by decide) (a:=0) (by rw [l2];omega) (mkH 1 b0 0)
 rw [ez] at w1 w2 w3 w4
 obtain ⟨v1,v2,v3,v4⟩:=zje w2 (by decide) (a:=half) (by rw [w3,l2];omega) z0
 obtain ⟨u1,u2,u3,u4⟩:=v2.sy (by decide)
 have hd:(n:Int) / 2=(half:Int):=by omega
 have e:fmt (C22.fresh N) 0 n=sy (wr2 (wr2 (C22.fresh N) 0 (mkH 1 b0 0)).1 (half:Int) z0).1:=by
  unfold fmt
  rw [if_neg (fun h=>h hp),← hhalf,← hb0,if_neg (by omega),if_neg (fun h=>h w1),hd,e2,if_neg (fun h=>h v1)]
 rw [e]
 refine ⟨u1,u2.mono (by decide),by rw [u3,v3,w3,l2],b0,hb,?_,?_⟩
 · refine ⟨by rw [u4,v4,w4];simp;omega,by rw [u4,v4,w4];simp;omega,fun k hk=>?_,fun k hk=>?_⟩
   all_goals rw [u4,v4,w4,if_neg (by omega),if_neg (by omega),l3]
 · refine ⟨by rw [u4,v4,if_pos (.inl rfl)],by rw [u4,v4,if_pos (.inr rfl)],fun k hk=>?_,fun k hk=>?_⟩
   all_goals rw [u4,v4,w4,if_neg (by omega),if_neg (by omega),l3]
end C23
namespace C23
open C22 (Sec Dk Cel rd wr sy Lv zbr z0 Okd zir zev kept flp z9r rot)
def Syn (d:Dk):Prop:=∀ c∈d.cs,c.op=[]
def bs (d:Dk):List (Sec×Bool):=d.cs.map fun c=>(c.s,c.bad)
theorem z2k {d:Dk} {n:Int} (h:Lv d n):Syn (sy d).1:=by
 intro c hc
 have e:C22.sy d=({ d with steps:=d.steps+1,cs:=d.cs.map C22.syC },0):=by
  unfold C22.sy
  rw [if_neg (by rw [h.live];simp),C22.stp_lv h.aft,if_neg (by simp)]
 rw [e] at hc
 obtain ⟨y,hy,rfl⟩:=List.mem_map.1 hc
 unfold C22.syC
 split
 · rfl
 · rename_i hl;exact List.getLast?_eq_none_iff.1 hl
theorem z48 (d:Dk) (i:Int) (s:Sec):bs (wr d i s).1=bs d:=by
 unfold wr
 split
 · rfl
 · split
   · unfold C22.stp;split<;>rfl
   · unfold bs
     simp only
     apply List.ext_getElem?
     intro k
     rw [ylhQ,ylhQ,List.getElem?_modify]
     cases d.cs[k]? with
     | none=>rfl
     | some x=>simp only [Option.map_some];split<;>rfl
theorem z93 (d:Dk) (i:Int) (s:Sec):bs (wr2 d i s).1=bs d:=by
 unfold wr2
 split
 · exact z48 d i s
 · rw [z48,z48]
theorem zyk (at_ g ses side:Nat):∀ (l:List (Nat×Str)) (d:Dk) (lk:Str) (u:Nat),bs (zg4 at_ g ses side d lk u l)=bs d
 | [],d,lk,u=>rfl
 | (f,c)::l,d,lk,u=>by rw [zg4,zyk at_ g ses side l,z93]
theorem zyl (c:Cel):kept c 0=⟨c.s,c.bad,[]⟩:=by
 unfold kept
 have:C22.remOf c.op.length 0=0:=by
  unfold C22.remOf
  have:(Int.tmod 0 ((c.op.length:Int)+3))=0:=Int.zero_tmod _
  rw [this,Int.zero_add]
  exact Int.tmod_self
 rw [if_pos this]
theorem zg7:∀ (l:List Cel) (n:Nat),zev [0] l n=l.map fun c=>⟨c.s,c.bad,[]⟩
 | [],_=>rfl
 | c::l,n=>by
   have hk:C22.keepAt [0] n=0:=by
    unfold C22.keepAt
    rw [if_neg (by simp)]
    have:n % [(0:Int)].length=0:=Nat.mod_one n
    rw [this];rfl
   rw [zev]
   split
   · rename_i h
     rw [zg7 l n,List.map_cons]
     congr 1
     cases c;simp only at h;subst h;rfl
   · rw [hk,zyl,zg7 l (n+1),List.map_cons]
theorem z0t {d e:Dk} {n:Int} (h:Lv e n) (hs:Syn e) (hb:bs d=bs e):Lv (zir d [0]) 0∧(zir d [0]).cs.length=e.cs.length∧∀ i,zbr (zir d [0]) i=zbr e i:=by
 have e1:(zir d [0]).cs=e.cs:=by
  show zev [0] d.cs 0=e.cs
  rw [zg7]
  have k1:d.cs.map (fun c=>(⟨c.s,c.bad,[]⟩:Cel))=(bs d).map fun x=>⟨x.1,x.2,[]⟩:=by unfold bs;rw [List.map_map];rfl
  rw [k1,hb]
  unfold bs
  rw [List.map_map]
  have:∀ c∈e.cs,((fun x:Sec×Bool=>(⟨x.1,x.2,[]⟩:Cel)) ∘ fun c=>(c.s,c.bad)) c=id c:=by
   intro c hc
   have:=hs c hc
   cases c;simp only at this;subst this;rfl
  rw [List.map_congr_left this,List.map_id]
 refine ⟨⟨⟨?_,?_,?_,?_,?_,?_⟩,rfl,rfl,?_,Int.le_refl _⟩,by rw [e1],fun i=>by unfold zbr;rw [e1]⟩
 · rw [e1];exact h.ok.pos
 · rw [e1];exact h.ok.most
 · rw [e1];exact h.ok.rot
 · simp [zir]
 · rw [e1];intro c hc;rw [hs c hc];simp [zir]
 · simp [zir]
 · rw [e1];exact h.good
def zfz (d:Dk) (a:Nat) (x:Sec):Prop:=d.cs[a]?=some ⟨x,false,[]⟩
theorem zps {d:Dk} {n:Int} (h:Lv d n) (hs:Syn d) {a:Nat} (ha:a<d.cs.length):zfz d a (zbr d a):=by
 unfold zfz zbr
 rw [yliQ ha]
 have h1:=h.good _ (List.getElem_mem ha)
 have h2:=hs _ (List.getElem_mem ha)
 show some d.cs[a]=some ⟨C22.topS d.cs[a],false,[]⟩
 generalize d.cs[a]=c at *
 cases c
 simp only at h1 h2
 subst h1 h2;rfl
theorem znp {d:Dk} (hd:d.dead=false) {a:Nat} {c:Cel} (h:d.cs[a]?=some c):rd d (a:Int)=C22.celRd c:=C22.rd_lv hd h
theorem zue {d d':Dk} (hd:d.dead=false) (hd':d'.dead=false) {a:Nat} (h0:d'.cs[a]?=d.cs[a]?) (h1:d'.cs[a+1]?=d.cs[a+1]?) (hl:d'.cs.length=d.cs.length):zpl d' (a:Int)=zpl d (a:Int):=by
 have key:∀ b:Nat,d'.cs[b]?=d.cs[b]?→rd d' (b:Int)=rd d (b:Int):=by
  intro b hb
  unfold rd C22.chk
  rw [hd,hd',hl,yleQ,hb]
 have e3:(a:Int)+1=((a+1:Nat):Int):=by omega
 unfold zpl
 rw [e3,key a h0,key (a+1) h1]
theorem zuf {d d':Dk} (hd:d.dead=false) (hd':d'.dead=false) {a:Nat} (h0:d'.cs[a]?=d.cs[a]?) (h1:d'.cs[a+1]?=d.cs[a+1]?) (hl:d'.cs.length=d.cs.length) {T:Sec→Bool} {x:Sec} (h:zcw d (a:Int) T x):zcw d' (a:Int) T x:=by
 unfold zcw
 rw [zue hd hd' h0 h1 hl]
 exact h
theorem zk7 {d:Dk} (hd:d.dead=false) {a:Nat} {x:Sec} (T:Sec→Bool) (h0:zfz d a x) (h1:zfz d (a+1) x):zcw d (a:Int) T x:=by
 have e1:=znp hd h0
 have e2:=znp hd h1
 have e3:((a+1:Nat):Int)=(a:Int)+1:=by omega
 rw [e3] at e2
 unfold zcw zpl
 rw [e1,e2]
 refine ⟨ylpQ,fun s hs _=>?_⟩
 simpa [C22.celRd] using hs
theorem zpt {d:Dk} (hd:d.dead=false) {a b i:Nat} {x:Sec} {T:Sec→Bool} (hi:i=a∧b=a+1∨i=a+1∧b=a) (hb:zfz d b x) (h:(rd d (i:Int)).2=0→T (rd d (i:Int)).1=true→False):zcw d (a:Int) T x:=by
 have e1:=znp hd hb
 have e3:((a+1:Nat):Int)=(a:Int)+1:=by omega
 have ev:C22.celRd ⟨x,false,[]⟩=(x,0):=rfl
 rw [ev] at e1
 have hT:∀ s∈(if (rd d (i:Int)).2=0 then [(rd d (i:Int)).1] else []),T s=true→s=x:=by
  intro s hs ht
  split at hs
  · rename_i h2
    obtain rfl:s=(rd d (i:Int)).1:=by simpa using hs
    exact absurd ht (fun h3=>h h2 h3)
  · cases hs
 unfold zcw zpl
 rcases hi with ⟨rfl,rfl⟩|⟨rfl,rfl⟩
 · rw [e3] at e1
   rw [e1]
   refine ⟨List.mem_append_right _ ylpQ,fun s hs ht=>?_⟩
   rcases List.mem_append.1 hs with hs|hs
   · exact hT s hs ht
   · simpa using hs
 · rw [e3] at hT
   rw [e1]
   refine ⟨List.mem_append_left _ ylpQ,fun s hs ht=>?_⟩
   rcases List.mem_append.1 hs with hs|hs
   · simpa using hs
   · exact hT s hs ht
def pAt (half s pr:Nat):Nat:=s * half+2 * pr
def pT (s pr:Nat) (x:Sec):Bool:=if pr=0 then isH x s else isF x s (pr - 1)
def pX (h0 h1:Sec) (X0 X1:Nat→Sec) (s pr:Nat):Sec:=if pr=0 then (if s=0 then h0 else h1) else (if s=0 then X0 (pr - 1) else X1 (pr - 1))
structure zug (d:Dk) (N half k:Nat) (W:Nat→Nat→Sec):Prop where
 ok:Okd d
 live:d.dead=false
 len:d.cs.length=N
 st:d.steps≤1000000
 done:∀ s pr,s<2→2 * pr+1<half→2 * pr+s<k→zcw d (pAt half s pr:Int) (pT s pr) (W s pr)
 rest:∀ s pr,s<2→2 * pr+1<half→k≤2 * pr+s→zfz d (pAt half s pr) (W s pr)∧zfz d (pAt half s pr+1) (W s pr)
theorem zug.skip {d:Dk} {N half k:Nat} {W:Nat→Nat→Sec} (h:zug d N half k W):zug d N half (k+1) W:=by
 refine ⟨h.ok,h.live,h.len,h.st,fun s pr hs hp hk=>?_,fun s pr hs hp hk=>h.rest s pr hs hp (by omega)⟩
 by_cases e:2 * pr+s<k
 · exact h.done s pr hs hp e
 · obtain ⟨a,b⟩:=h.rest s pr hs hp (by omega)
   exact zk7 h.live _ a b
theorem zug.step {d d':Dk} {N half k s pr i:Nat} {W:Nat→Nat→Sec} (h:zug d N half k W) (hk:k=2 * pr+s) (hs:s<2) (hp:2 * pr+1<half) (hi:i=pAt half s pr∨i=pAt half s pr+1)
 (ok:Okd d') (live:d'.dead=false) (len:d'.cs.length=N) (st:d'.steps≤1000000) (hc:∀ b,b≠i→d'.cs[b]?=d.cs[b]?)
 (hT:(rd d' (i:Int)).2=0→pT s pr (rd d' (i:Int)).1=true→False):zug d' N half (k+1) W:=by
 have hd:∀ s' pr',s'<2→2 * pr'+1<half→¬ (s'=s∧pr'=pr)→pAt half s' pr'≠i∧pAt half s' pr'+1≠i:=by
  intro s' pr' hs' hp' hne
  unfold pAt at *
  have c1:s=0∨s=1:=by omega
  have c2:s'=0∨s'=1:=by omega
  rcases c1 with rfl|rfl<;>rcases c2 with rfl|rfl<;>simp only [Nat.zero_mul,Nat.one_mul,yltQ,true_and] at * <;> omega
 refine ⟨ok,live,len,st,fun s' pr' hs' hp' hk'=>?_,fun s' pr' hs' hp' hk'=>?_⟩
 · by_cases e:s'=s∧pr'=pr
   · obtain ⟨rfl,rfl⟩:=e
     obtain ⟨a,b⟩:=h.rest s' pr' hs' hp' (by omega)
     rcases hi with rfl|rfl
     · exact zpt live (b:=pAt half s' pr'+1) (.inl ⟨rfl,rfl⟩) (by unfold zfz;rw [hc _ (by omega)];exact b) hT
     · exact zpt live (b:=pAt half s' pr') (.inr ⟨rfl,rfl⟩) (by unfold zfz;rw [hc _ (by omega)];exact a) hT
   · obtain ⟨n1,n2⟩:=hd s' pr' hs' hp' e
     have:2 * pr'+s'<k:=by omega
     exact zuf h.live live (hc _ n1) (hc _ n2) (by rw [len,h.len]) (h.done s' pr' hs' hp' this)
 · obtain ⟨a,b⟩:=h.rest s' pr' hs' hp' (by omega)
   obtain ⟨n1,n2⟩:=hd s' pr' hs' hp' (by omega)
   exact ⟨by unfold zfz;rw [hc _ n1];exact a,by unfold zfz;rw [hc _ n2];exact b⟩
theorem zsr {d:Dk} (h:Okd d) (hd:d.dead=false) {i:Nat} (hi:i<d.cs.length):Okd (rot d i).1∧(rot d i).2=0∧(rot d i).1.dead=false∧(rot d i).1.cs.length=d.cs.length∧(rot d i).1.steps=d.steps ∧
 (∀ b,b≠i→(rot d i).1.cs[b]?=d.cs[b]?)∧(d.cs[i].op=[]→(rd (rot d i).1 (i:Int)).2≠0):=by
 have hc:C22.chk d i=0:=by unfold C22.chk;rw [if_neg (by rw [hd];simp),if_neg (by omega)]
 have e:rot d i=({ d with cs:=d.cs.modify i fun c=>{ c with s:=z0,bad:=true } },0):=by
  unfold rot
  rw [if_neg (fun h=>h hc),yleQ]
 rw [e]
 refine ⟨⟨by simpa using h.pos,by simpa using h.most,fun c hc=>?_,h.st,fun c hc=>?_,h.aft⟩,rfl,hd,by simp,rfl,fun b hb=>?_,fun hop=>?_⟩
 · rcases C22.mem_modify hc with hc|⟨y,hy,rfl⟩
   · exact h.rot c hc
   · intro _;rfl
 · rcases C22.mem_modify hc with hc|⟨y,hy,rfl⟩
   · exact h.few c hc
   · exact h.few y hy
 · simp only [List.getElem?_modify]
   cases d.cs[b]? with
   | none=>rfl
   | some c=>simp [Ne.symm hb]
 · have hg:(d.cs.modify i fun c=>{ c with s:=z0,bad:=true })[i]?=some ⟨z0,true,d.cs[i].op⟩:=by
    rw [List.getElem?_modify,yliQ hi]
    simp
   have hr:=znp (d:={ d with cs:=d.cs.modify i fun c=>{ c with s:=z0,bad:=true } }) hd hg
   rw [hop] at hr
   show (rd { d with cs:=d.cs.modify i fun c=>{ c with s:=z0,bad:=true } } (i:Int)).2≠0
   rw [hr]
   decide
end C23
namespace C23
open C22 (Sec Dk Cel rd wr sy Lv zbr z0 Okd)
theorem zdd.sy {d:Dk} {n:Int} (hL:Lv d n) (hn:n≤800000000) {at_ q:Nat} {hx:Sec} {X:Nat→Sec} (h:zdd d at_ q hx X):zdd (sy d).1 at_ q hx X :=
 h.frame fun i _ _=>(hL.sy (by omega)).2.2.2 i
structure JT (d:Dk) (n:Int) (N half:Nat) (h0 h1:Sec) (X0 X1:Nat→Sec):Prop where
 lv:Lv d n
 len:d.cs.length=N
 room:2 * half≤N
 s0:zdd d 0 (half / 2 - 1) h0 X0
 s1:zdd d half (half / 2 - 1) h1 X1
theorem JT.put0 {d:Dk} {n:Int} {N half:Nat} {h0 h1:Sec} {X1:Nat→Sec} {g ses:Nat} {lk:Str} {l m:List (Nat×Str)} (h:JT d n N half h0 h1 (XL g ses 0 lk l) X1) (hq:l.length+m.length≤half / 2 - 1) (hn:n+2 * m.length≤800000000) (h4:4≤half) :
 JT (zg4 0 g ses 0 d (lkE g ses 0 lk 0 l) l.length m) (n+2 * m.length) N half h0 h1 (XL g ses 0 lk (l++m)) X1:=by
 have hr:=h.room
 have hl:=h.len
 obtain ⟨a1,a2,a3⟩:=ziw (at_:=0) (g:=g) (ses:=ses) (side:=0) m (lkE g ses 0 lk 0 l) l.length h.lv hn (by omega)
 refine ⟨a1,a2.trans hl,hr,h.s0.put h.lv hq (by omega) hn,h.s1.frame fun i h1 _=>?_⟩
 rw [a3,if_neg (by omega)]
theorem JT.syn {d:Dk} {n:Int} {N half:Nat} {h0 h1:Sec} {X0 X1:Nat→Sec} (h:JT d n N half h0 h1 X0 X1) (hn:n≤800000000):JT (sy d).1 (n+1) N half h0 h1 X0 X1∧(sy d).2=0∧Syn (sy d).1:=by
 obtain ⟨a1,a2,a3,a4⟩:=h.lv.sy (by omega)
 exact ⟨⟨a2,a3.trans h.len,h.room,h.s0.sy h.lv hn,h.s1.sy h.lv hn⟩,a1,z2k h.lv⟩
theorem JT.rw1 {d:Dk} {n:Int} {N half:Nat} {h0:Sec} {X0:Nat→Sec} {g ses:Nat} {m:List (Nat×Str)} (h:JT d n N half h0 z0 X0 (fun _=>z0)) (hq:m.length≤half / 2 - 1) (hn:n+2 * m.length≤700000000) (h4:4≤half) :
 JT (sy (wr2 (sy (zg4 half g ses 1 d (tx (mkH g ses 1) 48 56) 0 m)).1 (half:Int) (mkH g ses 1)).1).1 (n+2 * m.length+4) N half h0 (mkH g ses 1) X0 (XL g ses 1 (tx (mkH g ses 1) 48 56) m) ∧
 Syn (sy (wr2 (sy (zg4 half g ses 1 d (tx (mkH g ses 1) 48 56) 0 m)).1 (half:Int) (mkH g ses 1)).1).1:=by
 have hr:=h.room
 have hl:=h.len
 have ez:(fun _:Nat=>z0)=XL g ses 1 (tx (mkH g ses 1) 48 56) []:=by funext k;rfl
 have s1:=h.s1
 rw [ez] at s1
 obtain ⟨a1,a2,a3⟩:=ziw (at_:=half) (g:=g) (ses:=ses) (side:=1) m (tx (mkH g ses 1) 48 56) 0 h.lv (by omega) (by omega)
 have p1a:=s1.put h.lv (m:=m) (by simpa using hq) (by omega) (by omega)
 have p0:zdd (zg4 half g ses 1 d (tx (mkH g ses 1) 48 56) 0 m) 0 (half / 2 - 1) h0 X0:=h.s0.frame fun i _ h2=>by rw [a3,if_neg (by omega)]
 have p1:zdd (zg4 half g ses 1 d (tx (mkH g ses 1) 48 56) 0 m) half (half / 2 - 1) z0 (XL g ses 1 (tx (mkH g ses 1) 48 56) m):=p1a
 clear p1a s1 ez
 generalize zg4 half g ses 1 d (tx (mkH g ses 1) 48 56) 0 m=e at *
 generalize XL g ses 1 (tx (mkH g ses 1) 48 56) m=X at *
 generalize mkH g ses 1=hx at *
 obtain ⟨b1,b2,b3,b4⟩:=a1.sy (by omega)
 have q0:=p0.sy a1 (by omega)
 have q1:=p1.sy a1 (by omega)
 obtain ⟨c1,c2,c3,c4⟩:=zje b2 (by omega) (a:=half) (by omega) hx
 have r0:zdd (wr2 (sy e).1 (half:Int) hx).1 0 (half / 2 - 1) h0 X0:=q0.frame fun i _ h2=>by rw [c4,if_neg (by omega)]
 have r1:zdd (wr2 (sy e).1 (half:Int) hx).1 half (half / 2 - 1) hx X:=by
  refine ⟨by rw [c4,if_pos (.inl rfl)],by rw [c4,if_pos (.inr rfl)],fun k hk=>?_,fun k hk=>?_⟩
  · rw [c4,if_neg (by omega)];exact q1.s0 k hk
  · rw [c4,if_neg (by omega)];exact q1.s1 k hk
 obtain ⟨d1,d2,d3,d4⟩:=c2.sy (by omega)
 exact ⟨⟨d2.mono (by omega),by omega,hr,r0.sy c2 (by omega),r1.sy c2 (by omega)⟩,z2k c2⟩
theorem zug.start {d:Dk} {n:Int} {N half:Nat} {h0 h1:Sec} {X0 X1:Nat→Sec} (h:JT d n N half h0 h1 X0 X1) (hs:Syn d) (hn:n≤1000000):zug d N half 0 (pX h0 h1 X0 X1):=by
 have hr:=h.room
 have hl:=h.len
 have hst:=h.lv.st
 refine ⟨h.lv.ok,h.lv.live,hl,by omega,fun s pr _ _ hk=>absurd hk (by omega),fun s pr h2 hp _=>?_⟩
 have i0:=zps h.lv hs (a:=pAt half s pr) (by unfold pAt;rcases (by omega:s=0∨s=1) with rfl|rfl<;>omega)
 have i1:=zps h.lv hs (a:=pAt half s pr+1) (by unfold pAt;rcases (by omega:s=0∨s=1) with rfl|rfl<;>omega)
 have e0:zbr d (pAt half s pr)=pX h0 h1 X0 X1 s pr:=by
  unfold pAt pX
  by_cases e:pr=0
  · subst e
    rcases (by omega:s=0∨s=1) with rfl|rfl
    · simpa using h.s0.h0
    · simpa using h.s1.h0
  · rw [if_neg e]
    rcases (by omega:s=0∨s=1) with rfl|rfl
    · have:=h.s0.s0 (pr - 1) (by omega)
      rw [show 0+2+2 * (pr - 1)=0 * half+2 * pr by omega] at this
      simpa using this
    · have:=h.s1.s0 (pr - 1) (by omega)
      rw [show half+2+2 * (pr - 1)=1 * half+2 * pr by omega] at this
      simpa using this
 have e1:zbr d (pAt half s pr+1)=pX h0 h1 X0 X1 s pr:=by
  unfold pAt pX
  by_cases e:pr=0
  · subst e
    rcases (by omega:s=0∨s=1) with rfl|rfl
    · simpa using h.s0.h1
    · simpa using h.s1.h1
  · rw [if_neg e]
    rcases (by omega:s=0∨s=1) with rfl|rfl
    · have:=h.s0.s1 (pr - 1) (by omega)
      rw [show 0+3+2 * (pr - 1)=0 * half+2 * pr+1 by omega] at this
      simpa using this
    · have:=h.s1.s1 (pr - 1) (by omega)
      rw [show half+3+2 * (pr - 1)=1 * half+2 * pr+1 by omega] at this
      simpa using this
 rw [← e0]
 refine ⟨i0,?_⟩
 rw [e0,← e1]
 exact i1
theorem zug.pairs {d:Dk} {N half k:Nat} {W:Nat→Nat→Sec} (h:zug d N half k W) {s pr:Nat} (hs:s<2) (hp:2 * pr+1<half):zcw d (pAt half s pr:Int) (pT s pr) (W s pr):=by
 by_cases e:2 * pr+s<k
 · exact h.done s pr hs hp e
 · obtain ⟨a,b⟩:=h.rest s pr hs hp (by omega)
   exact zk7 h.live _ a b
theorem zug.sides {d:Dk} {N half k:Nat} {h0 h1:Sec} {X0 X1:Nat→Sec} (h:zug d N half k (pX h0 h1 X0 X1)) (h4:4≤half):ze6 d 0 0 (half / 2 - 1) h0 X0∧ze6 d (0+half) 1 (half / 2 - 1) h1 X1:=by
 constructor
 · refine ⟨?_,fun k hk=>?_⟩
   · have:=h.pairs (s:=0) (pr:=0) (by decide) (by omega)
     unfold pAt at this
     rw [show ((0 * half+2 * 0:Nat):Int)=0 by omega] at this
     exact this
   · have:=h.pairs (s:=0) (pr:=k+1) (by decide) (by omega)
     unfold pAt at this
     rw [show ((0 * half+2 * (k+1):Nat):Int)=0+2+2 * (k:Int) by omega] at this
     exact this
 · refine ⟨?_,fun k hk=>?_⟩
   · have:=h.pairs (s:=1) (pr:=0) (by decide) (by omega)
     unfold pAt at this
     rw [show ((1 * half+2 * 0:Nat):Int)=0+(half:Int) by omega] at this
     exact this
   · have:=h.pairs (s:=1) (pr:=k+1) (by decide) (by omega)
     unfold pAt at this
     rw [show ((1 * half+2 * (k+1):Nat):Int)=0+(half:Int)+2+2 * (k:Int) by omega] at this
     exact this
end C23
namespace C23
open C22 (Sec Dk Cel rd wr sy Lv zbr z0 Okd)
theorem partF {d:Dk} {a n:Int} (h:d.dead=false) (h8:8≤n) (h0:0≤a) (hl:a+n≤d.cs.length):za9 d a n=0:=by
 unfold za9
 rw [if_neg (by omega),if_neg (by rw [h];simp)]
theorem zml {N:Nat} {a half:Nat} (hN:a+2 * half≤N) (h4:4≤half) (hN2:N≤65536) :
 z1 (hds (C22.fresh N) (a:Int) 0)=none∧z1 (hds (C22.fresh N) ((a:Int)+half) 1)=none∧zz (C22.fresh N) (a:Int) half≤1:=by
 obtain ⟨l1,l2,l3⟩:=zno (N:=N) (by omega) hN2
 have q0:zdd (C22.fresh N) a (half / 2 - 1) z0 (fun _=>z0):=⟨l3 _,l3 _,fun _ _=>l3 _,fun _ _=>l3 _⟩
 have q1:zdd (C22.fresh N) (a+half) (half / 2 - 1) z0 (fun _=>z0):=⟨l3 _,l3 _,fun _ _=>l3 _,fun _ _=>l3 _⟩
 have p0:=q0.p l1 (by rw [l2];omega) 0
 have p1:=q1.p l1 (by rw [l2];omega) 1
 have hz:be (tx z0 4 8)<1:=by decide
 have e2:(a:Int)+(half:Int)=((a+half:Nat):Int):=by omega
 have hb:zz (C22.fresh N) (a:Int) half≤1:=zfx p0 (by rw [e2];exact p1) (by decide) (fun h=>by cases h) (fun _ _=>hz) (fun h=>by cases h) (fun _ _=>hz)
 have b0:=zdb p0.head
 rw [if_neg (by simp [zs2])] at b0
 have b1:=zdb p1.head
 rw [if_neg (by simp [zs2])] at b1
 rw [e2]
 exact ⟨b0,b1,hb⟩
theorem zuh {N:Nat} {a:Nat} {n:Int} {half:Nat} (hhalf:half=(n / 2).toNat) (h8:8≤n) (hN:a+n≤N) (hN2:N≤65536) :
 ∃ b0:Nat,z1 (hds (fmt (C22.fresh N) a n).1 (a:Int) 0)=some ⟨1,b0⟩∧z1 (hds (fmt (C22.fresh N) a n).1 ((a:Int)+half) 1)=none ∧
 zz (fmt (C22.fresh N) a n).1 (a:Int) half≤4294967295∧∀ k:Nat,k<2→rd (fmt (C22.fresh N) a n).1 ((a:Int)+2+k)=(z0,0):=by
 obtain ⟨l1,l2,l3⟩:=zno (N:=N) (by omega) hN2
 obtain ⟨f0,f1,hb⟩:=zml (N:=N) (a:=a) (half:=half) (by omega) (by omega) hN2
 have hp:=partF (a:=a) l1.live h8 (by omega) (by rw [l2];omega)
 have e2:(a:Int)+(half:Int)=((a+half:Nat):Int):=by omega
 obtain ⟨b0,hb0⟩:∃ b0,b0=zz (C22.fresh N) a half:=⟨_,rfl⟩
 rw [← hb0] at hb
 obtain ⟨w1,w2,w3,w4⟩:=zje l1 (by decide) (a:=a) (by rw [l2];omega) (mkH 1 b0 0)
 obtain ⟨v1,v2,v3,v4⟩:=zje w2 (by decide) (a:=a+half) (by rw [w3,l2];omega) z0
 obtain ⟨u1,u2,u3,u4⟩:=v2.sy (by decide)
 have hd:(n:Int) / 2=(half:Int):=by omega
 have e:fmt (C22.fresh N) a n=sy (wr2 (wr2 (C22.fresh N) a (mkH 1 b0 0)).1 ((a+half:Nat):Int) z0).1:=by
  unfold fmt
  rw [if_neg (fun h=>h hp),← hhalf,← hb0,if_neg (by omega),if_neg (fun h=>h w1),hd,e2,if_neg (fun h=>h v1)]
 have hlen:(fmt (C22.fresh N) a n).1.cs.length=N:=by rw [e,u3,v3,w3,l2]
 rw [e] at hlen ⊢
 have q0:zdd (sy (wr2 (wr2 (C22.fresh N) a (mkH 1 b0 0)).1 ((a+half:Nat):Int) z0).1).1 a (half / 2 - 1) (mkH 1 b0 0) (fun _=>z0):=by
  refine ⟨by rw [u4,v4,w4];simp;omega,by rw [u4,v4,w4];simp;omega,fun k hk=>?_,fun k hk=>?_⟩
  all_goals rw [u4,v4,w4,if_neg (by omega),if_neg (by omega),l3]
 have q1:zdd (sy (wr2 (wr2 (C22.fresh N) a (mkH 1 b0 0)).1 ((a+half:Nat):Int) z0).1).1 (a+half) (half / 2 - 1) z0 (fun _=>z0):=by
  refine ⟨by rw [u4,v4,if_pos (.inl rfl)],by rw [u4,v4,if_pos (.inr rfl)],fun k hk=>?_,fun k hk=>?_⟩
  all_goals rw [u4,v4,w4,if_neg (by omega),if_neg (by omega),l3]
 generalize (sy (wr2 (wr2 (C22.fresh N) a (mkH 1 b0 0)).1 ((a+half:Nat):Int) z0).1).1=d at *
 have p0:=q0.p u2 (by rw [hlen];omega) 0
 have p1:=q1.p u2 (by rw [hlen];omega) 1
 have e0:=zdb p0.head
 rw [if_pos (zst 1 b0 0)] at e0
 have eh:hdOf (mkH 1 b0 0)=⟨1,b0⟩:=by unfold hdOf;rw [(ze8 (g:=1) (n:=b0) (by decide) (by omega) 0).1,(ze8 (g:=1) (n:=b0) (by decide) (by omega) 0).2]
 rw [eh] at e0
 have e1:=zdb p1.head
 rw [if_neg (by simp [zs2])] at e1
 have hz:be (tx z0 4 8)<2:=by decide
 have hb2:zz d (a:Int) half≤2:=zfx p0 (by rw [e2];exact p1) (by decide) (fun _=>by show be _<_;rw [(ze8 (by decide) (by omega) 0).2];omega)
  (fun _ _=>hz) (fun h=>by cases h) (fun _ _=>hz)
 refine ⟨b0,e0,by rw [e2];exact e1,by omega,fun k hk=>?_⟩
 have hr:=u2.rd (i:=a+2+k) (by rw [hlen];omega)
 have ea:(a:Int)+2+(k:Int)=((a+2+k:Nat):Int):=by omega
 rw [ea,hr]
 have:zbr d (a+2+k)=z0:=by
  have s0:=q0.s0 0 (by omega)
  have s1:=q0.s1 0 (by omega)
  rcases (show k=0∨k=1 by omega) with rfl|rfl
  · exact s0
  · exact s1
 rw [this]
end C23
namespace C22
structure Wd (d:Dk) (n:Int):Prop where
 ok:Okd d
 len:d.cs.length=16
 live:d.dead=false
 aft:d.after=-1
 good:∀ c∈d.cs,c.bad=false
 st:d.steps≤n
def syT (cs:List Cel) (t:Nat):List Cel:=(cs.take t).map syC++cs.drop t
theorem zix (cs:List Cel) (t:Nat):(syT cs t).length=cs.length:=by unfold syT;simp;omega
theorem z0u (cs:List Cel):syT cs 0=cs:=by simp [syT]
theorem z49 (cs:List Cel):syT cs cs.length=cs.map syC:=by simp [syT]
theorem zym {cs:List Cel} {t:Nat} (h:t<cs.length):(syT cs t)[t]'(by rw [zix];exact h)=cs[t]:=by
 unfold syT
 have e:((cs.take t).map syC).length=t:=by simp;omega
 rw [List.getElem_append_right (by omega)]
 simp only [e,Nat.sub_self,List.getElem_drop,Nat.add_zero]
theorem z0v {cs:List Cel} {t:Nat} (h:t<cs.length):syT cs (t+1)=(syT cs t).set t (syC cs[t]):=by
 unfold syT
 rw [yldQ h,yk6Q,List.set_append_right _ _ (by simp;omega),yk5Q]
 congr 1
 have e:t - ((cs.take t).map syC).length=0:=by simp;omega
 rw [e,List.drop_eq_getElem_cons h]
 rfl
end C22
namespace C22
section
variable {d:Dk} {n:Int} {i b:Nat}
