/-
 Layer 22 (slots): what the calls do,as plain mathematics.
 Conditions: of each law as it says.
-/
import Derived.Test.YtlejjdbmmdghmaaS22c
namespace C22
structure Fnd where
 s:Sec
 at':Int
 good:Bool
 deriving DecidableEq
def zF:Fnd:=⟨z0,0,false⟩
def readC (d:Dk) (a:Int):Fnd×Int:=(⟨(rd d a).1,a,decide ((rd d a).2=0) && zd4 (rd d a).1⟩,if (rd d a).2=14 then 0 else (rd d a).2)
def slotR (d:Dk) (first i:Int):Fnd×Fnd×Int :=
 if (readC d (first+2 * i)).2≠0 then (zF,zF,(readC d (first+2 * i)).2) else
 if (readC d (first+2 * i+1)).2≠0 then (zF,zF,(readC d (first+2 * i+1)).2) else
 if (readC d (first+2 * i+1)).1.good=true∧((readC d (first+2 * i)).1.good=false∨zbz (readC d (first+2 * i)).1.s 0<zbz (readC d (first+2 * i+1)).1.s 0) then ((readC d (first+2 * i+1)).1,(readC d (first+2 * i)).1,0) else
 ((readC d (first+2 * i)).1,(readC d (first+2 * i+1)).1,0)
def writeR (d:Dk) (a:Int) (s:Sec):Dk×Int:=if (wr d a s).2≠0 then wr d a s else sy (wr d a s).1
def healR (d:Dk) (best other:Fnd):Dk×Int:=if best.good=false∨(other.good=true∧other.s=best.s) then (d,0) else writeR d other.at' best.s
def fmtL (d:Dk) (first:Int):Nat→Dk×Int
 | 0=>(d,0)
 | k+1=>if (fmtL d first k).2≠0 then fmtL d first k else wr (fmtL d first k).1 (first+k) (mk1 1 [])
def zb1 (d:Dk) (first n:Int):Bool:=!(decide (n<1) || decide (first<0) || decide ((d.cs.length:Int)<first) || decide (((d.cs.length:Int) - first) / 2<n))
def fmtR (d:Dk) (first n:Int):Dk×Int :=
 if zb1 d first n=false then (d,1) else
 if (fmtL d first (2 * n.toNat)).2≠0 then fmtL d first (2 * n.toNat) else sy (fmtL d first (2 * n.toNat)).1
def zj9 (d:Dk) (first:Int) (i:Nat):Dk×Bool×Int :=
 let x:=slotR d first i
 if x.2.2≠0 then (d,false,x.2.2) else
 if x.1.good=true then ((healR d x.1 x.2.1).1,false,(healR d x.1 x.2.1).2) else
 ((fmtR d (first+2 * i) 1).1,true,(fmtR d (first+2 * i) 1).2)
def openN (d:Dk) (first:Int):Nat→Dk×List Int×Int
 | 0=>(d,[],0)
 | k+1=>if (openN d first k).2.2≠0 then openN d first k else
   ((zj9 (openN d first k).1 first k).1,(if (zj9 (openN d first k).1 first k).2.1=true then (openN d first k).2.1++[(k:Int)] else (openN d first k).2.1),(zj9 (openN d first k).1 first k).2.2)
def zhc (d:Dk) (first n:Int):Dk×List Int×Int :=
 if zb1 d first n=false then (d,[],1) else
 if (openN d first n.toNat).2.2≠0 then ((openN d first n.toNat).1,[],(openN d first n.toNat).2.2) else openN d first n.toNat
def zgj (s:Sec):Str:=(s.1.drop 4).take (min (zaa s 36) 28)++(s.1.drop 37).take (zaa s 36 - 28)
def getR (d:Dk) (first n i:Int):Str×Int :=
 if i<0∨n≤i then ([],1) else
 if (slotR d first i).2.2≠0 then ([],(slotR d first i).2.2) else
 if (slotR d first i).1.good=false then ([],14) else
 if zaa (slotR d first i).1.s 36=0 then ([],8) else (zgj (slotR d first i).1.s,0)
def zpo (best:Fnd):Int:=if best.good=true then ((zbz best.s 0:Int)+1) % 4294967296 else 1
def zh6 (d:Dk) (first i:Int) (s:Sec):Dk×Int :=
 if (writeR d (first+2 * i+1) s).2≠0 then writeR d (first+2 * i+1) s else writeR (writeR d (first+2 * i+1) s).1 (first+2 * i) s
def changeR (d:Dk) (first i:Int) (b:Str):Dk×Int :=
 if (slotR d first i).2.2≠0 then (d,(slotR d first i).2.2) else
 if (healR d (slotR d first i).1 (slotR d first i).2.1).2≠0 then healR d (slotR d first i).1 (slotR d first i).2.1 else
 zh6 (healR d (slotR d first i).1 (slotR d first i).2.1).1 first i (mk1 (zpo (slotR d first i).1) b)
def zxy (d:Dk) (first n i:Int) (b:Str):Dk×Int:=if i<0∨n≤i∨b.length<1∨55<b.length then (d,1) else changeR d first i b
def zme (d:Dk) (first n i:Int):Dk×Int:=if i<0∨n≤i then (d,1) else changeR d first i []
def Up (d d':Dk) (k:Int):Prop:=Okd d'∧d'.cs.length=d.cs.length∧d'.steps≤d.steps+k
theorem Up.refl {d:Dk} (h:Okd d):Up d d 0:=⟨h,rfl,by omega⟩
theorem Up.trans {d d' d'':Dk} {k k':Int} (h:Up d d' k) (h':Up d' d'' k'):Up d d'' (k+k'):=⟨h'.1,h'.2.1.trans h.2.1,by have:=h.2.2;have:=h'.2.2;omega⟩
theorem Up.mono {d d':Dk} {k k':Int} (h:Up d d' k) (hk:k≤k'):Up d d' k':=⟨h.1,h.2.1,by have:=h.2.2;omega⟩
theorem z5k (d:Dk) (i:Int) (s:Sec):(wr d i s).1.cs.length=d.cs.length:=by
 unfold wr stp
 split
 · rfl
 · split
   · split<;>simp
   · split<;>simp
theorem z5l (d:Dk):(sy d).1.cs.length=d.cs.length:=by
 unfold sy stp
 split
 · rfl
 · split
   · split<;>simp
   · split<;>simp
theorem z04 {d:Dk} (h:Okd d) (hn:d.steps≤1000000000) (i:Int) (s:Sec):Up d (wr d i s).1 1:=⟨(zxv h hn i s).1,z5k d i s,(zxv h hn i s).2⟩
theorem z5m {d:Dk} (h:Okd d) (hn:d.steps≤1000000000):Up d (sy d).1 1:=⟨(zxw h hn).1,z5l d,(zxw h hn).2⟩
theorem zka {d:Dk} (h:Okd d) (hn:d.steps≤999999999) (a:Int) (s:Sec):Up d (writeR d a s).1 2:=by
 have h1:=z04 h (by omega) a s
 unfold writeR
 split
 · exact h1.mono (by omega)
 · exact h1.trans (z5m h1.1 (by have:=h1.2.2;omega))
theorem zrb {d:Dk} (h:Okd d) (hn:d.steps≤999999999) (b o:Fnd):Up d (healR d b o).1 2:=by
 unfold healR
 split
 · exact (Up.refl h).mono (by omega)
 · exact zka h hn _ _
theorem zpp {d:Dk} (h:Okd d) (first:Int) (k:Nat) (hn:d.steps+k≤1000000000):Up d (fmtL d first k).1 k:=by
 induction k with
 | zero=>exact Up.refl h
 | succ k ih =>
  have h1:=ih (by omega)
  unfold fmtL
  split
  · exact h1.mono (by omega)
  · have:=h1.trans (z04 h1.1 (by have:=h1.2.2;omega) (first+k) (mk1 1 []))
    exact this.mono (by omega)
theorem zgk {d:Dk} {first n:Int} (h:zb1 d first n=true):1≤n∧0≤first∧first+2 * n≤d.cs.length:=by
 unfold zb1 at h
 simp only [Bool.not_eq_true',Bool.or_eq_false_iff,decide_eq_false_iff_not] at h
 omega
theorem z05 {d:Dk} (h:Okd d) (first n:Int) (hn:d.steps≤900000000):Up d (fmtR d first n).1 (2 * n.toNat+1):=by
 unfold fmtR
 split
 · exact (Up.refl h).mono (by omega)
 · rename_i hp
   have hp2:=zgk (by simpa using hp)
   have hm:=h.most
   have h1:=zpp h first (2 * n.toNat) (by omega)
   split
   · exact h1.mono (by omega)
   · exact (h1.trans (z5m h1.1 (by have:=h1.2.2;omega))).mono (by omega)
theorem zxz {d:Dk} (h:Okd d) (first:Int) (i:Nat) (hn:d.steps≤900000000):Up d (zj9 d first i).1 3:=by
 unfold zj9
 simp only
 split
 · exact (Up.refl h).mono (by omega)
 · split
   · exact (zrb h (by omega) _ _).mono (by omega)
   · exact (z05 h _ 1 hn).mono (by omega)
theorem zx0 {d:Dk} (h:Okd d) (first:Int) (k:Nat) (hn:d.steps+3 * k≤900000000):Up d (openN d first k).1 (3 * k):=by
 induction k with
 | zero=>exact Up.refl h
 | succ k ih =>
  have h1:=ih (by omega)
  unfold openN
  split
  · exact h1.mono (by omega)
  · exact (h1.trans (zxz h1.1 first k (by have:=h1.2.2;omega))).mono (by omega)
end C22
namespace C22
structure Lv (d:Dk) (n:Int):Prop where
 ok:Okd d
 live:d.dead=false
 aft:d.after=-1
 good:∀ c∈d.cs,c.bad=false
 st:d.steps≤n
def z8e (c:Cel):Sec:=(c.op.getLast?).getD c.s
def zb4 (d:Dk) (i:Nat):Sec:=z8e ((d.cs[i]?).getD zn7)
section
variable {d:Dk} {n:Int}
theorem Lv.mono (h:Lv d n) {m:Int} (hm:n≤m):Lv d m:=⟨h.ok,h.live,h.aft,h.good,by have:=h.st;omega⟩
theorem Lv.rd (h:Lv d n) {i:Nat} (hi:i<d.cs.length):rd d i=(zb4 d i,0):=by
 rw [zvi h.live (List.getElem?_eq_getElem hi)]
 have hg:=h.good _ (List.getElem_mem hi)
 unfold zb4 z8e zku
 rw [List.getElem?_eq_getElem hi]
 simp only [Option.getD_some]
 cases d.cs[i].op.getLast? with
 | some s=>rfl
 | none=>simp [hg]
theorem Lv.chk (h:Lv d n) {i:Nat} (hi:i<d.cs.length):chk d i=0:=by
 unfold C22.chk
 rw [if_neg (by rw [h.live];simp),if_neg (by omega)]
theorem Lv.wr (h:Lv d n) (hn:n≤900000000) {a:Nat} (ha:a<d.cs.length) (s:Sec) :
 (wr d a s).2=0∧Lv (wr d a s).1 (n+1)∧(wr d a s).1.cs.length=d.cs.length∧∀ i,zb4 (wr d a s).1 i=if i=a then s else zb4 d i:=by
 have hs:=h.st
 have ho:=(zxv h.ok (by omega) a s).1
 have e:C22.wr d a s=({ d with steps:=d.steps+1,cs:=d.cs.modify a fun c=>{ c with op:=c.op++[s] } },0):=by
  unfold C22.wr
  rw [if_neg (by rw [h.chk ha];simp),zi5 h.aft,if_neg (by simp),Int.toNat_natCast]
 rw [e] at ho ⊢
 refine ⟨rfl,⟨ho,h.live,h.aft,fun c hc=>?_,by simp only;omega⟩,by simp,fun i=>?_⟩
 · rcases zef hc with hc|⟨y,hy,rfl⟩
   · exact h.good c hc
   · exact h.good y hy
 · unfold zb4
   simp only [List.getElem?_modify]
   by_cases e1:i=a
   · subst e1
     rw [if_pos rfl,List.getElem?_eq_getElem ha]
     simp [z8e]
   · rw [if_neg e1]
     cases hx:d.cs[i]? with
     | none=>rfl
     | some c=>simp [Ne.symm e1]
theorem Lv.sy (h:Lv d n) (hn:n≤900000000) :
 (sy d).2=0∧Lv (sy d).1 (n+1)∧(sy d).1.cs.length=d.cs.length∧∀ i,zb4 (sy d).1 i=zb4 d i:=by
 have hs:=h.st
 have ho:=(zxw h.ok (by omega)).1
 have e:C22.sy d=({ d with steps:=d.steps+1,cs:=d.cs.map syC },0):=by
  unfold C22.sy
  rw [if_neg (by rw [h.live];simp),zi5 h.aft,if_neg (by simp)]
 rw [e] at ho ⊢
 refine ⟨rfl,⟨ho,h.live,h.aft,fun c hc=>?_,by simp only;omega⟩,by simp,fun i=>?_⟩
 · obtain ⟨y,hy,rfl⟩:=List.mem_map.1 hc
   unfold syC
   split
   · rfl
   · exact h.good y hy
 · unfold zb4
   simp only [List.getElem?_map]
   cases hx:d.cs[i]? with
   | none=>rfl
   | some c =>
    simp only [Option.map_some,Option.getD_some,z8e,syC]
    cases hl:c.op.getLast? with
    | none=>simp [hl]
    | some s=>rfl
theorem Lv.writeR (h:Lv d n) (hn:n≤800000000) {a:Nat} (ha:a<d.cs.length) (s:Sec) :
 (writeR d a s).2=0∧Lv (writeR d a s).1 (n+2)∧(writeR d a s).1.cs.length=d.cs.length∧∀ i,zb4 (writeR d a s).1 i=if i=a then s else zb4 d i:=by
 obtain ⟨h1,h2,h3,h4⟩:=h.wr (by omega) ha s
 obtain ⟨g1,g2,g3,g4⟩:=h2.sy (by omega)
 unfold C22.writeR
 rw [if_neg (by rw [h1];simp)]
 exact ⟨g1,g2.mono (by omega),g3.trans h3,fun i=>by rw [g4,h4]⟩
theorem Lv.readC (h:Lv d n) {a:Nat} (ha:a<d.cs.length):readC d a=(⟨zb4 d a,a,zd4 (zb4 d a)⟩,0):=by
 unfold C22.readC
 rw [h.rd ha]
 simp
def fOf (d:Dk) (a:Nat):Fnd:=⟨zb4 d a,a,zd4 (zb4 d a)⟩
theorem Lv.slotR (h:Lv d n) {f i:Nat} (hi:f+2 * i+1<d.cs.length) :
 slotR d f i=if zd4 (zb4 d (f+2 * i+1))=true∧(zd4 (zb4 d (f+2 * i))=false∨zbz (zb4 d (f+2 * i)) 0<zbz (zb4 d (f+2 * i+1)) 0) then (fOf d (f+2 * i+1),fOf d (f+2 * i),0) else (fOf d (f+2 * i),fOf d (f+2 * i+1),0):=by
 have h0:=h.readC (a:=f+2 * i) (by omega)
 have h1:=h.readC (a:=f+2 * i+1) hi
 have e0:((f+2 * i:Nat):Int)=(f:Int)+2 * (i:Int):=by omega
 have e1:((f+2 * i+1:Nat):Int)=(f:Int)+2 * (i:Int)+1:=by omega
 rw [e0] at h0
 rw [e1] at h1
 unfold C22.slotR
 rw [h0,h1,if_neg (by simp),if_neg (by simp)]
 unfold fOf
 rw [e0,e1]
theorem Lv.slot2 (h:Lv d n) {f i:Nat} (hi:f+2 * i+1<d.cs.length) :
 ∃ a b:Nat,(a=f+2 * i∧b=f+2 * i+1∨a=f+2 * i+1∧b=f+2 * i)∧C22.slotR d f i=(fOf d a,fOf d b,0):=by
 rw [h.slotR hi]
 split
 · exact ⟨_,_,.inr ⟨rfl,rfl⟩,rfl⟩
 · exact ⟨_,_,.inl ⟨rfl,rfl⟩,rfl⟩
theorem Lv.healR (h:Lv d n) (hn:n≤800000000) {a b:Nat} (hb:b<d.cs.length) :
 (healR d (fOf d a) (fOf d b)).2=0∧Lv (healR d (fOf d a) (fOf d b)).1 (n+2)∧(healR d (fOf d a) (fOf d b)).1.cs.length=d.cs.length∧∀ i,i≠b→zb4 (healR d (fOf d a) (fOf d b)).1 i=zb4 d i:=by
 unfold C22.healR
 split
 · exact ⟨rfl,h.mono (by omega),rfl,fun _ _=>rfl⟩
 · obtain ⟨h1,h2,h3,h4⟩:=h.writeR hn hb (fOf d a).s
   exact ⟨h1,h2,h3,fun i hi=>by rw [show (fOf d b).at'=(b:Int) from rfl,h4,if_neg hi]⟩
theorem Lv.changeR (h:Lv d n) (hn:n≤700000000) {f i:Nat} (hi:f+2 * i+1<d.cs.length) (b:Str) :
 (changeR d f i b).2=0∧Lv (changeR d f i b).1 (n+6)∧(changeR d f i b).1.cs.length=d.cs.length∧∀ j,j≠f+2 * i→j≠f+2 * i+1→zb4 (changeR d f i b).1 j=zb4 d j:=by
 obtain ⟨a,c,hac,hs⟩:=h.slot2 hi
 unfold C22.changeR
 rw [hs]
 obtain ⟨h1,h2,h3,h4⟩:=h.healR (by omega) (a:=a) (b:=c) (by omega)
 simp only
 rw [if_neg (by simp),if_neg (by rw [h1];simp)]
 generalize (C22.healR d (fOf d a) (fOf d c)).1=d2 at h2 h3 h4
 generalize mk1 (zpo (fOf d a)) b=s
 have e0:(f:Int)+2 * (i:Int)=((f+2 * i:Nat):Int):=by omega
 have e1:(f:Int)+2 * (i:Int)+1=((f+2 * i+1:Nat):Int):=by omega
 unfold zh6
 rw [e1,e0]
 obtain ⟨g1,g2,g3,g4⟩:=h2.writeR (by omega) (a:=f+2 * i+1) (by omega) s
 rw [if_neg (by rw [g1];simp)]
 obtain ⟨k1,k2,k3,k4⟩:=g2.writeR (by omega) (a:=f+2 * i) (by omega) s
 refine ⟨k1,k2.mono (by omega),by omega,fun j hj hj2=>?_⟩
 rw [k4,if_neg hj,g4,if_neg hj2,h4 j (by omega)]
theorem Lv.fmtL (h:Lv d n) {f:Nat}:∀ (k:Nat),n+k≤800000000→f+k≤d.cs.length →
 (fmtL d f k).2=0∧Lv (fmtL d f k).1 (n+k)∧(fmtL d f k).1.cs.length=d.cs.length∧∀ j,zb4 (fmtL d f k).1 j=if f≤j∧j<f+k then mk1 1 [] else zb4 d j
 | 0,_,_=>⟨rfl,h.mono (by omega),rfl,fun j=>by rw [if_neg (by omega)];rfl⟩
 | k+1,hn,hk=>by
   obtain ⟨h1,h2,h3,h4⟩:=h.fmtL (f:=f) k (by omega) (by omega)
   unfold C22.fmtL
   rw [if_neg (by rw [h1];simp)]
   obtain ⟨g1,g2,g3,g4⟩:=h2.wr (by omega) (a:=f+k) (by omega) (mk1 1 [])
   have e:(f:Int)+(k:Int)=((f+k:Nat):Int):=by omega
   rw [e]
   refine ⟨g1,g2.mono (by omega),by omega,fun j=>?_⟩
   rw [g4,h4]
   by_cases e1:j=f+k
   · rw [if_pos e1,if_pos (by omega)]
   · rw [if_neg e1]
     by_cases e2:f≤j∧j<f+k
     · rw [if_pos e2,if_pos (by omega)]
     · rw [if_neg e2,if_neg (by omega)]
theorem Lv.fmtR (h:Lv d n) (hn:n≤700000000) {f m:Nat} (hm:1≤m) (hl:f+2 * m≤d.cs.length) :
 (fmtR d f m).2=0∧Lv (fmtR d f m).1 (n+2 * m+1)∧(fmtR d f m).1.cs.length=d.cs.length∧∀ j,zb4 (fmtR d f m).1 j=if f≤j∧j<f+2 * m then mk1 1 [] else zb4 d j:=by
 have hp:zb1 d f m=true:=by
  unfold zb1
  simp
  omega
 have hmost:=h.ok.most
 obtain ⟨h1,h2,h3,h4⟩:=h.fmtL (f:=f) (2 * m) (by omega) hl
 obtain ⟨g1,g2,g3,g4⟩:=h2.sy (by omega)
 unfold C22.fmtR
 rw [if_neg (by rw [hp];simp),Int.toNat_natCast,if_neg (by rw [h1];simp)]
 exact ⟨g1,g2.mono (by omega),by omega,fun j=>by rw [g4,h4]⟩
end
theorem Lv.openN {d:Dk} {n:Int} (h:Lv d n) {f:Nat}:∀ (k:Nat),f+2 * k≤d.cs.length→(∀ i,i<k→zb4 d (f+2 * i)=zb4 d (f+2 * i+1)∧zd4 (zb4 d (f+2 * i))=true)→openN d f k=(d,[],0)
 | 0,_,_=>rfl
 | k+1,hk,hg=>by
   have ih:=h.openN k (by omega) fun i hi=>hg i (by omega)
   obtain ⟨e1,e2⟩:=hg k (by omega)
   have ho:zj9 d f k=(d,false,0):=by
    have hsl:C22.slotR d f k=(fOf d (f+2 * k),fOf d (f+2 * k+1),0):=by rw [h.slotR (by omega),if_neg (by rw [← e1,e2];simp)]
    have hg2:(fOf d (f+2 * k)).good=true:=e2
    unfold zj9
    rw [hsl]
    simp only [hg2,if_true]
    rw [if_neg (by simp)]
    have:C22.healR d (fOf d (f+2 * k)) (fOf d (f+2 * k+1))=(d,0):=by
     unfold C22.healR
     rw [if_pos (.inr ⟨by unfold fOf;simp only;rw [← e1];exact e2,by unfold fOf;exact e1.symm⟩)]
    rw [this]
   unfold C22.openN
   rw [ih,if_neg (by simp),ho]
   simp
end C22
