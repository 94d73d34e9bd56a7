/-
 Layer 22 (slots): copies,as plain mathematics.
 Conditions: of each law as it says.
-/
import Derived.Test.YtioojmlhmhgeeaaS22c
namespace C22
def byteI (b:Int):UInt8:=UInt8.ofNat (b % 256).toNat
def qb (q:Int):List UInt8:=[byteI (q / 16777216),byteI (q / 65536),byteI (q / 256),byteI q]
def pad (n:Nat) (l:Str):Str:=l ++ List.replicate (n - l.length) 0
theorem pad_len {n:Nat} {l:Str} (h:l.length≤n):(pad n l).length=n:=by unfold pad;simp;omega
def mk1 (q:Int) (b:Str):Sec:=⟨(qb q ++ pad 28 (b.take 28) ++ qb q ++ [UInt8.ofNat b.length] ++ pad 27 ((b.drop 28).take 27)).take 64,by
 have h1:(pad 28 (b.take 28)).length=28:=pad_len (by simp;omega)
 have h2:(pad 27 ((b.drop 28).take 27)).length=27:=pad_len (by simp;omega)
 simp only [List.length_take,List.length_append,h1,h2,qb,List.length_cons,List.length_nil]
 omega⟩
def byteAt (s:Sec) (i:Nat):Nat:=((s.1[i]?).getD 0).toNat
def numAt (s:Sec) (a:Nat):Nat:=byteAt s a*16777216+byteAt s (a+1)*65536+byteAt s (a+2)*256+byteAt s (a+3)
theorem byteAt_lt (s:Sec) (i:Nat):byteAt s i < 256:=UInt8.toNat_lt _
theorem numAt_lt (s:Sec) (a:Nat):numAt s a < 4294967296:=by
 have:=byteAt_lt s a;have:=byteAt_lt s (a+1);have:=byteAt_lt s (a+2);have:=byteAt_lt s (a+3)
 unfold numAt;omega
theorem byteAt_get (s:Sec) {i:Nat} (h:i < 64):byteAt s i=(s.1[i]'(by rw [s.2];exact h)).toNat:=by
 unfold byteAt
 rw [List.getElem?_eq_getElem (by rw [s.2];exact h)];rfl
def goodS (s:Sec):Bool:=decide (numAt s 0=numAt s 32)&&decide (1≤numAt s 0)&&decide (byteAt s 36≤55)
end C22
/-
 Layer 22 (slots): what the calls do,as plain mathematics.
 Conditions: of each law as it says.
-/
namespace C22
structure Fnd where
 s:Sec
 at':Int
 good:Bool
 deriving DecidableEq
def zF:Fnd:=⟨z0,0,false⟩
def readC (d:Dk) (a:Int):Fnd×Int:=(⟨(rd d a).1,a,decide ((rd d a).2=0)&&goodS (rd d a).1⟩,if (rd d a).2=14 then 0 else (rd d a).2)
def slotR (d:Dk) (first i:Int):Fnd×Fnd×Int :=
 if (readC d (first+2*i)).2≠0 then (zF,zF,(readC d (first+2*i)).2) else
 if (readC d (first+2*i+1)).2≠0 then (zF,zF,(readC d (first+2*i+1)).2) else
 if (readC d (first+2*i+1)).1.good=true∧((readC d (first+2*i)).1.good=false∨numAt (readC d (first+2*i)).1.s 0 < numAt (readC d (first+2*i+1)).1.s 0) then ((readC d (first+2*i+1)).1,(readC d (first+2*i)).1,0) else
 ((readC d (first+2*i)).1,(readC d (first+2*i+1)).1,0)
def writeR (d:Dk) (a:Int) (s:Sec):Dk×Int:=if (wr d a s).2≠0 then wr d a s else sy (wr d a s).1
def healR (d:Dk) (best other:Fnd):Dk×Int:=if best.good=false∨(other.good=true∧other.s=best.s) then (d,0) else writeR d other.at' best.s
def fmtL (d:Dk) (first:Int):Nat→Dk×Int
 | 0=>(d,0)
 | k+1=>if (fmtL d first k).2≠0 then fmtL d first k else wr (fmtL d first k).1 (first+k) (mk1 1 [])
def placeB (d:Dk) (first n:Int):Bool:=!(decide (n < 1) || decide (first < 0) || decide ((d.cs.length:Int) < first) || decide (((d.cs.length:Int) - first) / 2 < n))
def fmtR (d:Dk) (first n:Int):Dk×Int :=
 if placeB d first n=false then (d,1) else
 if (fmtL d first (2*n.toNat)).2≠0 then fmtL d first (2*n.toNat) else sy (fmtL d first (2*n.toNat)).1
def open1 (d:Dk) (first:Int) (i:Nat):Dk×Bool×Int :=
 let x:=slotR d first i
 if x.2.2≠0 then (d,false,x.2.2) else
 if x.1.good=true then ((healR d x.1 x.2.1).1,false,(healR d x.1 x.2.1).2) else
 ((fmtR d (first+2*i) 1).1,true,(fmtR d (first+2*i) 1).2)
def openN (d:Dk) (first:Int):Nat→Dk×List Int×Int
 | 0=>(d,[],0)
 | k+1=>if (openN d first k).2.2≠0 then openN d first k else
   ((open1 (openN d first k).1 first k).1,(if (open1 (openN d first k).1 first k).2.1=true then (openN d first k).2.1 ++ [(k:Int)] else (openN d first k).2.1),(open1 (openN d first k).1 first k).2.2)
def openR (d:Dk) (first n:Int):Dk×List Int×Int :=
 if placeB d first n=false then (d,[],1) else
 if (openN d first n.toNat).2.2≠0 then ((openN d first n.toNat).1,[],(openN d first n.toNat).2.2) else openN d first n.toNat
def bytesOf (s:Sec):Str:=(s.1.drop 4).take (min (byteAt s 36) 28) ++ (s.1.drop 37).take (byteAt s 36 - 28)
def getR (d:Dk) (first n i:Int):Str×Int :=
 if i < 0∨n≤i then ([],1) else
 if (slotR d first i).2.2≠0 then ([],(slotR d first i).2.2) else
 if (slotR d first i).1.good=false then ([],14) else
 if byteAt (slotR d first i).1.s 36=0 then ([],8) else (bytesOf (slotR d first i).1.s,0)
def nextQ (best:Fnd):Int:=if best.good=true then ((numAt best.s 0:Int)+1) % 4294967296 else 1
def change2 (d:Dk) (first i:Int) (s:Sec):Dk×Int :=
 if (writeR d (first+2*i+1) s).2≠0 then writeR d (first+2*i+1) s else writeR (writeR d (first+2*i+1) s).1 (first+2*i) s
def changeR (d:Dk) (first i:Int) (b:Str):Dk×Int :=
 if (slotR d first i).2.2≠0 then (d,(slotR d first i).2.2) else
 if (healR d (slotR d first i).1 (slotR d first i).2.1).2≠0 then healR d (slotR d first i).1 (slotR d first i).2.1 else
 change2 (healR d (slotR d first i).1 (slotR d first i).2.1).1 first i (mk1 (nextQ (slotR d first i).1) b)
def putR (d:Dk) (first n i:Int) (b:Str):Dk×Int:=if i < 0∨n≤i∨b.length < 1∨55 < b.length then (d,1) else changeR d first i b
def killR (d:Dk) (first n i:Int):Dk×Int:=if i < 0∨n≤i then (d,1) else changeR d first i []
def Up (d d':Dk) (k:Int):Prop:=Okd d'∧d'.cs.length=d.cs.length∧d'.steps≤d.steps+k
theorem Up.refl {d:Dk} (h:Okd d):Up d d 0:=⟨h,rfl,by omega⟩
theorem Up.trans {d d' d'':Dk} {k k':Int} (h:Up d d' k) (h':Up d' d'' k'):Up d d'' (k+k'):=⟨h'.1,h'.2.1.trans h.2.1,by have:=h.2.2;have:=h'.2.2;omega⟩
theorem Up.mono {d d':Dk} {k k':Int} (h:Up d d' k) (hk:k≤k'):Up d d' k':=⟨h.1,h.2.1,by have:=h.2.2;omega⟩
theorem wr_len (d:Dk) (i:Int) (s:Sec):(wr d i s).1.cs.length=d.cs.length:=by
 unfold wr stp
 split
 · rfl
 · split
   · split<;>simp
   · split<;>simp
theorem sy_len (d:Dk):(sy d).1.cs.length=d.cs.length:=by
 unfold sy stp
 split
 · rfl
 · split
   · split<;>simp
   · split<;>simp
theorem wr_up {d:Dk} (h:Okd d) (hn:d.steps≤1000000000) (i:Int) (s:Sec):Up d (wr d i s).1 1:=⟨(wr_ok h hn i s).1,wr_len d i s,(wr_ok h hn i s).2⟩
theorem sy_up {d:Dk} (h:Okd d) (hn:d.steps≤1000000000):Up d (sy d).1 1:=⟨(sy_ok h hn).1,sy_len d,(sy_ok h hn).2⟩
theorem writeR_up {d:Dk} (h:Okd d) (hn:d.steps≤999999999) (a:Int) (s:Sec):Up d (writeR d a s).1 2:=by
 have h1:=wr_up h (by omega) a s
 unfold writeR
 split
 · exact h1.mono (by omega)
 · exact h1.trans (sy_up h1.1 (by have:=h1.2.2;omega))
theorem healR_up {d:Dk} (h:Okd d) (hn:d.steps≤999999999) (b o:Fnd):Up d (healR d b o).1 2:=by
 unfold healR
 split
 · exact (Up.refl h).mono (by omega)
 · exact writeR_up h hn _ _
theorem fmtL_up {d:Dk} (h:Okd d) (first:Int) (k:Nat) (hn:d.steps+k≤1000000000):Up d (fmtL d first k).1 k:=by
 induction k with
 | zero=>exact Up.refl h
 | succ k ih =>
  have h1:=ih (by omega)
  unfold fmtL
  split
  · exact h1.mono (by omega)
  · have:=h1.trans (wr_up h1.1 (by have:=h1.2.2;omega) (first+k) (mk1 1 []))
    exact this.mono (by omega)
theorem placeB_true {d:Dk} {first n:Int} (h:placeB d first n=true):1≤n∧0≤first∧first+2*n≤d.cs.length:=by
 unfold placeB at h
 simp only [Bool.not_eq_true',Bool.or_eq_false_iff,decide_eq_false_iff_not] at h
 omega
theorem fmtR_up {d:Dk} (h:Okd d) (first n:Int) (hn:d.steps≤900000000):Up d (fmtR d first n).1 (2*n.toNat+1):=by
 unfold fmtR
 split
 · exact (Up.refl h).mono (by omega)
 · rename_i hp
   have hp2:=placeB_true (by simpa using hp)
   have hm:=h.most
   have h1:=fmtL_up h first (2*n.toNat) (by omega)
   split
   · exact h1.mono (by omega)
   · exact (h1.trans (sy_up h1.1 (by have:=h1.2.2;omega))).mono (by omega)
theorem open1_up {d:Dk} (h:Okd d) (first:Int) (i:Nat) (hn:d.steps≤900000000):Up d (open1 d first i).1 3:=by
 unfold open1
 simp only
 split
 · exact (Up.refl h).mono (by omega)
 · split
   · exact (healR_up h (by omega) _ _).mono (by omega)
   · exact (fmtR_up h _ 1 hn).mono (by omega)
theorem openN_up {d:Dk} (h:Okd d) (first:Int) (k:Nat) (hn:d.steps+3*k≤900000000):Up d (openN d first k).1 (3*k):=by
 induction k with
 | zero=>exact Up.refl h
 | succ k ih =>
  have h1:=ih (by omega)
  unfold openN
  split
  · exact h1.mono (by omega)
  · exact (h1.trans (open1_up h1.1 first k (by have:=h1.2.2;omega))).mono (by omega)
theorem changeR_up {d:Dk} (h:Okd d) (hn:d.steps≤900000000) (first i:Int) (b:Str):Up d (changeR d first i b).1 6:=by
 unfold changeR
 split
 · exact (Up.refl h).mono (by omega)
 · have h1:=healR_up h (by omega) (slotR d first i).1 (slotR d first i).2.1
   split
   · exact h1.mono (by omega)
   · have h2:=h1.2.2
     unfold change2
     generalize (healR d (slotR d first i).1 (slotR d first i).2.1).1=d1 at h1 h2
     have h3:=writeR_up h1.1 (by omega) (first+2*i+1) (mk1 (nextQ (slotR d first i).1) b)
     have h4:=h3.2.2
     split
     · exact (h1.trans h3).mono (by omega)
     · exact ((h1.trans h3).trans (writeR_up h3.1 (by omega) _ _)).mono (by omega)
end C22
