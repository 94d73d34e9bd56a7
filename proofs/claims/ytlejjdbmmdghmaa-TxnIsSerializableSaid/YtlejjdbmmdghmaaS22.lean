/-
 Layer 21 (disk): what a disk is and does,as plain mathematics: of no program.
 Conditions: of each law as it says.
-/
import Init
namespace C22
abbrev Str:=List UInt8
abbrev Sec:={l:List UInt8 // l.length=64}
def z0:Sec:=⟨List.replicate 64 0,by simp⟩
structure Cel where
 s:Sec
 bad:Bool
 op:List Sec
 deriving DecidableEq
structure Dk where
 cs:List Cel
 steps:Int
 after:Int
 dead:Bool
 deriving DecidableEq
def zn7:Cel:=⟨z0,false,[]⟩
def fresh (n:Nat):Dk:=⟨List.replicate n zn7,0,-1,false⟩
structure Okd (d:Dk):Prop where
 pos:1≤d.cs.length
 most:d.cs.length≤65536
 rot:∀ c∈d.cs,c.bad=true→c.s=z0
 st:0≤d.steps∧d.steps≤2000000000
 few:∀ c∈d.cs,(c.op.length:Int)≤d.steps
 aft:-1≤d.after∧d.after≤9223372036854775807
def zd5 (d:Dk) (i:Int):List Sec:=if i<0 then [] else ((d.cs[i.toNat]?).map (·.op)).getD []
def chk (d:Dk) (i:Int):Int:=if d.dead=true then 12 else if i<0∨(d.cs.length:Int)≤i then 1 else 0
def zku (c:Cel):Sec×Int:=match c.op.getLast? with|some s=>(s,0)|none=>if c.bad=true then (z0,14) else (c.s,0)
def rd (d:Dk) (i:Int):Sec×Int:=if chk d i≠0 then (z0,chk d i) else match d.cs[i.toNat]? with|some c=>zku c|none=>(z0,0)
def stp (d:Dk):Dk×Int:=if d.after=0 then ({ d with dead:=true },12) else ({ d with after:=if 0<d.after then d.after - 1 else d.after,steps:=d.steps+1 },0)
def wr (d:Dk) (i:Int) (s:Sec):Dk×Int :=
 if chk d i≠0 then (d,chk d i) else
 if (stp d).2≠0 then stp d else
 ({ (stp d).1 with cs:=d.cs.modify i.toNat fun c=>{ c with op:=c.op++[s] } },0)
def syC (c:Cel):Cel:=match c.op.getLast? with|some s=>⟨s,false,[]⟩|none=>c
def sy (d:Dk):Dk×Int :=
 if d.dead=true then (d,12) else
 if (stp d).2≠0 then stp d else
 ({ (stp d).1 with cs:=d.cs.map syC },0)
def torn (before out:Sec):Sec:=⟨out.1.take 32++before.1.drop 32,by simp [out.2,before.2]⟩
def zxu (n:Nat) (x:Int):Int:=(x.tmod (n+3)+n+3).tmod (n+3)
def kept (c:Cel) (x:Int):Cel :=
 if zxu c.op.length x=0 then ⟨c.s,c.bad,[]⟩ else
 if zxu c.op.length x≤c.op.length then ⟨(c.op[(zxu c.op.length x).toNat - 1]?).getD z0,false,[]⟩ else
 if zxu c.op.length x=c.op.length+1 then ⟨z0,true,[]⟩ else
 ⟨torn (if 1<c.op.length then (c.op[c.op.length - 2]?).getD z0 else c.s) ((c.op[c.op.length - 1]?).getD z0),false,[]⟩
def rot (d:Dk) (i:Int):Dk×Int :=
 if chk d i≠0 then (d,chk d i) else
 ({ d with cs:=d.cs.modify i.toNat fun c=>{ c with s:=z0,bad:=true } },0)
theorem zn8 {n:Nat} (h1:1≤n) (h2:n≤65536):Okd (fresh n):=by
 refine ⟨by simpa [fresh] using h1,by simpa [fresh] using h2,fun c hc=>?_,by simp [fresh],fun c hc=>?_,by simp [fresh]⟩
 · obtain rfl:=(List.mem_replicate.1 hc).2;simp [zn7]
 · obtain rfl:=(List.mem_replicate.1 hc).2;simp [zn7,fresh]
theorem zef {α:Type} {l:List α} {k:Nat} {f:α→α} {x:α} (h:x∈l.modify k f):x∈l∨∃ y∈l,x=f y:=by
 obtain ⟨i,hi,rfl⟩:=List.getElem_of_mem h
 rw [List.length_modify] at hi
 rw [List.getElem_modify]
 split
 · exact .inr ⟨_,List.getElem_mem hi,rfl⟩
 · exact .inl (List.getElem_mem hi)
theorem zra {d:Dk} {i:Int} (h:chk d i=0):d.dead=false∧0≤i∧i<d.cs.length:=by
 unfold chk at h
 split at h
 · cases h
 · split at h
   · cases h
   · rename_i h1 h2;exact ⟨by simpa using h1,by omega,by omega⟩
theorem zvg {d:Dk} (h:Okd d) (hn:d.steps≤1000000000):Okd (stp d).1∧(stp d).1.steps≤d.steps+1∧d.steps≤(stp d).1.steps∧(stp d).1.cs=d.cs:=by
 unfold stp
 split
 · exact ⟨⟨h.pos,h.most,h.rot,h.st,h.few,h.aft⟩,by simp;omega,by simp,rfl⟩
 · refine ⟨⟨h.pos,h.most,h.rot,by have:=h.st;simp;omega,fun c hc=>by have:=h.few c hc;simp;omega,?_⟩,by simp,by simp;omega,rfl⟩
   have:=h.aft
   simp only
   split<;>omega
theorem zxv {d:Dk} (h:Okd d) (hn:d.steps≤1000000000) (i:Int) (s:Sec):Okd (wr d i s).1∧(wr d i s).1.steps≤d.steps+1:=by
 unfold wr
 obtain ⟨h1,h2,h3,h4⟩:=zvg h hn
 split
 · exact ⟨h,by simp;omega⟩
 · split
   · exact ⟨h1,h2⟩
   · rename_i hs
     have hst:(stp d).1.steps=d.steps+1:=by
      revert hs;unfold stp;split
      · simp
      · simp
     refine ⟨⟨by simpa using h.pos,by simpa using h.most,fun c hc=>?_,h1.st,fun c hc=>?_,h1.aft⟩,h2⟩
     · rcases zef hc with hc|⟨y,hy,rfl⟩
       · exact h.rot c hc
       · exact h.rot y hy
     · simp only [hst]
       rcases zef hc with hc|⟨y,hy,rfl⟩
       · have:=h.few c hc;omega
       · have:=h.few y hy;simp;omega
theorem zxw {d:Dk} (h:Okd d) (hn:d.steps≤1000000000):Okd (sy d).1∧(sy d).1.steps≤d.steps+1:=by
 unfold sy
 obtain ⟨h1,h2,h3,h4⟩:=zvg h hn
 split
 · exact ⟨h,by simp;omega⟩
 · split
   · exact ⟨h1,h2⟩
   · refine ⟨⟨by simpa using h.pos,by simpa using h.most,fun c hc=>?_,h1.st,fun c hc=>?_,h1.aft⟩,h2⟩
     · obtain ⟨y,hy,rfl⟩:=List.mem_map.1 hc
       unfold syC;split
       · simp
       · exact h.rot y hy
     · obtain ⟨y,hy,rfl⟩:=List.mem_map.1 hc
       have:=h.few y hy
       have:=h1.st
       unfold syC;split
       · simpa using h1.st.1
       · rename_i hn
         rw [List.getLast?_eq_none_iff] at hn
         simp only [hn,List.length_nil]
         exact h1.st.1
theorem zi4 {d:Dk} {i:Nat} (h:i<d.cs.length):zd5 d i=d.cs[i].op:=by
 unfold zd5
 rw [if_neg (by omega)]
 simp [h]
theorem zxx {d:Dk} {i:Int} (h:i<0∨(d.cs.length:Int)≤i):zd5 d i=[]:=by
 unfold zd5
 split
 · rfl
 · rw [List.getElem?_eq_none (by omega)];rfl
theorem zvh {d:Dk} {i:Int} (h:zd5 d i≠[]):0≤i∧i<d.cs.length:=by
 apply Classical.byContradiction
 intro hn
 exact h (zxx (by omega))
end C22
namespace C22
end C22
