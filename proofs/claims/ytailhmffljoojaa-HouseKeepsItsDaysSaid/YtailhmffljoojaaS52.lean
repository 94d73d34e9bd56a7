/-
 Layer 22 (slots): slots on a disk that works,as plain mathematics: what each slot holds.
 Conditions: of each law as it says.
-/
import Derived.Test.YtailhmffljoojaaS22i
namespace C22
structure SlD (d:Dk) (m:Int) (c:List Str):Prop where
 lv:Lv d m
 len:2 * c.length≤d.cs.length
 sl:∀ (i:Nat) (h:i<c.length),∃ q:Int,1≤q∧q≤m+1∧zbq d (2 * i)=mk1 q c[i]∧zbq d (2 * i+1)=mk1 q c[i]∧c[i].length≤55
section
variable {d:Dk} {m:Int} {c:List Str}
theorem SlD.mono (h:SlD d m c) {k:Int} (hk:m≤k):SlD d k c :=
 ⟨h.lv.mono hk,h.len,fun i hi=>by obtain ⟨q,h1,h2,h3⟩:=h.sl i hi;exact ⟨q,h1,by omega,h3⟩⟩
theorem SlD.slot (h:SlD d m c) (hm:m≤700000000) {i:Nat} (hi:i<c.length) :
 slotR d 0 i=(fOf d (2 * i),fOf d (2 * i+1),0)∧zdn (zbq d (2 * i))=true:=by
 obtain ⟨q,h1,h2,h3,h4,h5⟩:=h.sl i hi
 have hl:=h.len
 have hg:zdn (mk1 q c[i])=true:=zuc h1 (by omega) h5
 have hs:=h.lv.slotR (f:=0) (i:=i) (by omega)
 rw [if_neg (by simp only [Nat.zero_add];rw [h3,h4,hg];simp)] at hs
 simp only [Nat.zero_add] at hs
 exact ⟨hs,by rw [h3];exact hg⟩
theorem SlD.get (h:SlD d m c) (hm:m≤700000000) {i:Nat} (hi:i<c.length) :
 zsc d 0 c.length i=if c[i]=[] then ([],8) else (c[i],0):=by
 obtain ⟨hs,hg⟩:=h.slot hm hi
 obtain ⟨q,h1,h2,h3,h4,h5⟩:=h.sl i hi
 unfold zsc
 rw [if_neg (by omega),hs,if_neg (by simp)]
 simp only
 rw [if_neg (by unfold fOf;simp [hg])]
 have e:(fOf d (2 * i)).s=mk1 q c[i]:=h3
 rw [e,znd q h5,zr4 q h5]
 simp only [List.length_eq_zero_iff]
theorem SlD.change (h:SlD d m c) (hm:m≤600000000) {i:Nat} (hi:i<c.length) {b:Str} (hb:b.length≤55) :
 (changeR d 0 i b).2=0∧SlD (changeR d 0 i b).1 (m+6) (c.set i b):=by
 obtain ⟨hs,hg⟩:=h.slot (by omega) hi
 obtain ⟨q,h1,h2,h3,h4,h5⟩:=h.sl i hi
 have hl:=h.len
 have hh:healR d (fOf d (2 * i)) (fOf d (2 * i+1))=(d,0):=by
  unfold healR
  rw [if_pos (.inr ⟨by unfold fOf;simp only;rw [h4,← h3];exact hg,by unfold fOf;simp only;rw [h4,h3]⟩)]
 have hq:znb (fOf d (2 * i))=q+1:=by
  unfold znb
  rw [if_pos (show (fOf d (2 * i)).good=true from hg)]
  have e:(fOf d (2 * i)).s=mk1 q c[i]:=h3
  rw [e,zr2 (by omega) (by omega)]
  omega
 unfold changeR
 rw [hs]
 simp only
 rw [if_neg (by simp),hh,if_neg (by simp),hq]
 unfold zg6
 have e0:(0:Int)+2 * (i:Int)=((2 * i:Nat):Int):=by omega
 have e1:(0:Int)+2 * (i:Int)+1=((2 * i+1:Nat):Int):=by omega
 rw [e1,e0]
 simp only
 obtain ⟨g1,g2,g3,g4⟩:=h.lv.writeR (by omega) (a:=2 * i+1) (by omega) (mk1 (q+1) b)
 rw [if_neg (by rw [g1];simp)]
 obtain ⟨k1,k2,k3,k4⟩:=g2.writeR (by omega) (a:=2 * i) (by omega) (mk1 (q+1) b)
 refine ⟨k1,k2.mono (by omega),by rw [List.length_set];omega,fun j hj=>?_⟩
 rw [List.length_set] at hj
 by_cases e:j=i
 · subst e
   refine ⟨q+1,by omega,by omega,?_,?_,?_⟩
   · rw [k4,if_pos rfl,List.getElem_set_self]
   · rw [k4,if_neg (by omega),g4,if_pos rfl,List.getElem_set_self]
   · rw [List.getElem_set_self];exact hb
 · obtain ⟨p,p1,p2,p3,p4,p5⟩:=h.sl j hj
   refine ⟨p,p1,by omega,?_,?_,?_⟩
   · rw [k4,if_neg (by omega),g4,if_neg (by omega),List.getElem_set_ne (Ne.symm e)];exact p3
   · rw [k4,if_neg (by omega),g4,if_neg (by omega),List.getElem_set_ne (Ne.symm e)];exact p4
   · rw [List.getElem_set_ne (Ne.symm e)];exact p5
theorem SlD.put (h:SlD d m c) (hm:m≤600000000) {i:Nat} (hi:i<c.length) {b:Str} (hb:b.length≤55) (hp:1≤b.length) :
 (zt8 d 0 c.length i b).2=0∧SlD (zt8 d 0 c.length i b).1 (m+6) (c.set i b):=by
 unfold zt8
 rw [if_neg (by omega)]
 exact h.change hm hi hb
theorem SlD.kill (h:SlD d m c) (hm:m≤600000000) {i:Nat} (hi:i<c.length) :
 (zkt d 0 c.length i).2=0∧SlD (zkt d 0 c.length i).1 (m+6) (c.set i []):=by
 unfold zkt
 rw [if_neg (by omega)]
 exact h.change hm hi (by simp)
theorem SlD.fmt (h:Lv d m) (hm0:0≤m) (hm:m≤600000000) {n:Nat} (h1:1≤n) (hl:2 * n≤d.cs.length) :
 (fmtR d 0 n).2=0∧SlD (fmtR d 0 n).1 (m+2 * n+1) (List.replicate n []):=by
 obtain ⟨k1,k2,k3,k4⟩:=h.fmtR (by omega) (f:=0) h1 (by omega)
 have e:((0:Nat):Int)=0:=rfl
 rw [e] at k1 k2 k3 k4
 refine ⟨k1,k2,by rw [List.length_replicate];omega,fun i hi=>?_⟩
 rw [List.length_replicate] at hi
 refine ⟨1,by omega,by omega,?_,?_,?_⟩
 · rw [k4,if_pos (by omega),List.getElem_replicate]
 · rw [k4,if_pos (by omega),List.getElem_replicate]
 · rw [List.getElem_replicate];simp
theorem SlD.opn (h:SlD d m c) (hm:m≤600000000) (h1:1≤c.length):zge d 0 c.length=(d,[],0):=by
 have hl:=h.len
 have hp:zbo d 0 c.length=true:=by
  unfold zbo
  simp
  omega
 have ho:openN d 0 c.length=(d,[],0):=by
  have:=h.lv.openN (f:=0) c.length (by omega) fun i hi=>by
   obtain ⟨q,a1,a2,a3,a4,a5⟩:=h.sl i hi
   obtain ⟨_,hg⟩:=h.slot (by omega) hi
   simp only [Nat.zero_add]
   exact ⟨by rw [a3,a4],hg⟩
  exact this
 unfold zge
 rw [if_neg (by rw [hp];simp),Int.toNat_natCast,ho,if_neg (by simp)]
end
end C22
namespace C52
open C22
structure Rf where
 k:Int
 o:Int
 n:Int
 p:Int
 deriving DecidableEq
structure En where
 r:Rf
 keep:Int
 til:Int
 tag:Int
 b:Str
def zu (l:Nat):Nat:=(l+53) / 54+1
def part (b:Str) (k:Nat):Str:=2::(b.drop (54 * k)).take 54
def zkx (n:Nat) (b:Str) (k:Nat):List Str:=[]::((List.range k).map (part b)++List.replicate (n - 1 - k) [])
def zmc (n:Nat):Option En→List Str→Prop
 | none,c=>c=List.replicate n []
 | some e,c=>1≤e.b.length∧e.b.length≤432∧zu e.b.length≤n∧∃ h:Str,h≠[]∧c=(zkx n e.b ((e.b.length+53) / 54)).set 0 h
theorem zh0 {n:Nat} (b:Str) {k:Nat} (h:k+1≤n):(zkx n b k).length=n:=by
 unfold zkx;simp;omega
theorem zr5 {n:Nat} (b:Str) (h:1≤n):zkx n b 0=List.replicate n []:=by
 unfold zkx
 obtain ⟨m,rfl⟩:∃ m,n=m+1:=⟨n - 1,by omega⟩
 simp [List.replicate_succ]
theorem zr6 {n:Nat} (b:Str) {k:Nat} (h:k+1<n):(zkx n b k).set (k+1) (part b k)=zkx n b (k+1):=by
 unfold zkx
 rw [List.set_cons_succ,List.range_succ,List.map_append,List.set_append_right _ _ (by simp)]
 obtain ⟨m,hm⟩:∃ m,n - 1 - k=m+1:=⟨n - 1 - k - 1,by omega⟩
 have e:n - 1 - (k+1)=m:=by omega
 rw [hm,e]
 simp [List.replicate_succ]
theorem zud {n:Nat} (b:Str) {k i:Nat} (hi:i<k) (h:k+1≤n) (x:Str):((zkx n b k).set 0 x)[i+1]'(by rw [List.length_set,zh0 b h];omega)=part b i:=by
 rw [List.getElem_set_ne (by omega)]
 unfold zkx
 rw [List.getElem_cons_succ,List.getElem_append_left (by simpa using hi)]
 simp
theorem zmc.len {n:Nat} {o:Option En} {c:List Str} (h:zmc n o c):c.length=n:=by
 cases o with
 | none=>rw [h,List.length_replicate]
 | some e =>
  obtain ⟨_,_,h2,x,_,rfl⟩:=h
  unfold zu at h2
  rw [List.length_set,zh0 e.b h2]
theorem zr7 {c:List Str} {k:Nat} (h:k<c.length):(List.replicate k []++c.drop k).set k []=List.replicate (k+1) []++c.drop (k+1):=by
 rw [List.set_append_right _ _ (by simp),List.length_replicate,Nat.sub_self,List.drop_eq_getElem_cons h,List.set_cons_zero,List.replicate_succ',List.append_assoc]
 rfl
theorem zue {n:Nat} {e:En} {c:List Str} (h:zmc n (some e) c):List.replicate (zu e.b.length) []++c.drop (zu e.b.length)=List.replicate n []:=by
 obtain ⟨_,_,h2,x,_,rfl⟩:=h
 unfold zu at h2 ⊢
 unfold zkx
 rw [List.set_cons_zero,List.drop_succ_cons,List.drop_left' (by simp),List.replicate_append_replicate]
 congr 1
 omega
theorem zr8 (b:Str) (k:Nat):b.take (54 * k)++(b.drop (54 * k)).take 54=b.take (54 * (k+1)):=by
 rw [Nat.mul_add,Nat.mul_one,List.take_add]
theorem zuf (b:Str):b.take (54 * ((b.length+53) / 54))=b:=List.take_of_length_le (by omega)
end C52
