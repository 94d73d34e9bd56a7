/-
 Layer 22 (slots): slots on a disk that works,as plain mathematics: what each slot holds.
 Conditions: of each law as it says.
-/
import Derived.Test.YtlejjdbmmdghmaaS22i
namespace C22
structure SlD (d:Dk) (m:Int) (c:List Str):Prop where
 lv:Lv d m
 len:2 * c.length≤d.cs.length
 sl:∀ (i:Nat) (h:i<c.length),∃ q:Int,1≤q∧q≤m+1∧zb4 d (2 * i)=mk1 q c[i]∧zb4 d (2 * i+1)=mk1 q c[i]∧c[i].length≤55
section
variable {d:Dk} {m:Int} {c:List Str}
theorem SlD.mono (h:SlD d m c) {k:Int} (hk:m≤k):SlD d k c :=
 ⟨h.lv.mono hk,h.len,fun i hi=>by obtain ⟨q,h1,h2,h3⟩:=h.sl i hi;exact ⟨q,h1,by omega,h3⟩⟩
theorem SlD.slot (h:SlD d m c) (hm:m≤700000000) {i:Nat} (hi:i<c.length) :
 slotR d 0 i=(fOf d (2 * i),fOf d (2 * i+1),0)∧zd4 (zb4 d (2 * i))=true:=by
 obtain ⟨q,h1,h2,h3,h4,h5⟩:=h.sl i hi
 have hl:=h.len
 have hg:zd4 (mk1 q c[i])=true:=zx2 h1 (by omega) h5
 have hs:=h.lv.slotR (f:=0) (i:=i) (by omega)
 rw [if_neg (by simp only [Nat.zero_add];rw [h3,h4,hg];simp)] at hs
 simp only [Nat.zero_add] at hs
 exact ⟨hs,by rw [h3];exact hg⟩
theorem SlD.get (h:SlD d m c) (hm:m≤700000000) {i:Nat} (hi:i<c.length) :
 getR d 0 c.length i=if c[i]=[] then ([],8) else (c[i],0):=by
 obtain ⟨hs,hg⟩:=h.slot hm hi
 obtain ⟨q,h1,h2,h3,h4,h5⟩:=h.sl i hi
 unfold getR
 rw [if_neg (by omega),hs,if_neg (by simp)]
 simp only
 rw [if_neg (by unfold fOf;simp [hg])]
 have e:(fOf d (2 * i)).s=mk1 q c[i]:=h3
 rw [e,zpq q h5,zvo q h5]
 simp only [List.length_eq_zero_iff]
theorem SlD.change (h:SlD d m c) (hm:m≤600000000) {i:Nat} (hi:i<c.length) {b:Str} (hb:b.length≤55) :
 (changeR d 0 i b).2=0∧SlD (changeR d 0 i b).1 (m+6) (c.set i b):=by
 obtain ⟨hs,hg⟩:=h.slot (by omega) hi
 obtain ⟨q,h1,h2,h3,h4,h5⟩:=h.sl i hi
 have hl:=h.len
 have hh:healR d (fOf d (2 * i)) (fOf d (2 * i+1))=(d,0):=by
  unfold healR
  rw [if_pos (.inr ⟨by unfold fOf;simp only;rw [h4,← h3];exact hg,by unfold fOf;simp only;rw [h4,h3]⟩)]
 have hq:zpo (fOf d (2 * i))=q+1:=by
  unfold zpo
  rw [if_pos (show (fOf d (2 * i)).good=true from hg)]
  have e:(fOf d (2 * i)).s=mk1 q c[i]:=h3
  rw [e,zvm (by omega) (by omega)]
  omega
 unfold changeR
 rw [hs]
 simp only
 rw [if_neg (by simp),hh,if_neg (by simp),hq]
 unfold zh6
 have e0:(0:Int)+2 * (i:Int)=((2 * i:Nat):Int):=by omega
 have e1:(0:Int)+2 * (i:Int)+1=((2 * i+1:Nat):Int):=by omega
 rw [e1,e0]
 simp only
 obtain ⟨g1,g2,g3,g4⟩:=h.lv.writeR (by omega) (a:=2 * i+1) (by omega) (mk1 (q+1) b)
 rw [if_neg (by rw [g1];simp)]
 obtain ⟨k1,k2,k3,k4⟩:=g2.writeR (by omega) (a:=2 * i) (by omega) (mk1 (q+1) b)
 refine ⟨k1,k2.mono (by omega),by rw [List.length_set];omega,fun j hj=>?_⟩
 rw [List.length_set] at hj
 by_cases e:j=i
 · subst e
   refine ⟨q+1,by omega,by omega,?_,?_,?_⟩
   · rw [k4,if_pos rfl,List.getElem_set_self]
   · rw [k4,if_neg (by omega),g4,if_pos rfl,List.getElem_set_self]
   · rw [List.getElem_set_self];exact hb
 · obtain ⟨p,p1,p2,p3,p4,p5⟩:=h.sl j hj
   refine ⟨p,p1,by omega,?_,?_,?_⟩
   · rw [k4,if_neg (by omega),g4,if_neg (by omega),List.getElem_set_ne (Ne.symm e)];exact p3
   · rw [k4,if_neg (by omega),g4,if_neg (by omega),List.getElem_set_ne (Ne.symm e)];exact p4
   · rw [List.getElem_set_ne (Ne.symm e)];exact p5
theorem SlD.put (h:SlD d m c) (hm:m≤600000000) {i:Nat} (hi:i<c.length) {b:Str} (hb:b.length≤55) (hp:1≤b.length) :
 (zxy d 0 c.length i b).2=0∧SlD (zxy d 0 c.length i b).1 (m+6) (c.set i b):=by
 unfold zxy
 rw [if_neg (by omega)]
 exact h.change hm hi hb
theorem SlD.kill (h:SlD d m c) (hm:m≤600000000) {i:Nat} (hi:i<c.length) :
 (zme d 0 c.length i).2=0∧SlD (zme d 0 c.length i).1 (m+6) (c.set i []):=by
 unfold zme
 rw [if_neg (by omega)]
 exact h.change hm hi (by simp)
theorem SlD.fmt (h:Lv d m) (hm0:0≤m) (hm:m≤600000000) {n:Nat} (h1:1≤n) (hl:2 * n≤d.cs.length) :
 (fmtR d 0 n).2=0∧SlD (fmtR d 0 n).1 (m+2 * n+1) (List.replicate n []):=by
 obtain ⟨k1,k2,k3,k4⟩:=h.fmtR (by omega) (f:=0) h1 (by omega)
 have e:((0:Nat):Int)=0:=rfl
 rw [e] at k1 k2 k3 k4
 refine ⟨k1,k2,by rw [List.length_replicate];omega,fun i hi=>?_⟩
 rw [List.length_replicate] at hi
 refine ⟨1,by omega,by omega,?_,?_,?_⟩
 · rw [k4,if_pos (by omega),List.getElem_replicate]
 · rw [k4,if_pos (by omega),List.getElem_replicate]
 · rw [List.getElem_replicate];simp
theorem SlD.opn (h:SlD d m c) (hm:m≤600000000) (h1:1≤c.length):zhc d 0 c.length=(d,[],0):=by
 have hl:=h.len
 have hp:zb1 d 0 c.length=true:=by
  unfold zb1
  simp
  omega
 have ho:openN d 0 c.length=(d,[],0):=by
  have:=h.lv.openN (f:=0) c.length (by omega) fun i hi=>by
   obtain ⟨q,a1,a2,a3,a4,a5⟩:=h.sl i hi
   obtain ⟨_,hg⟩:=h.slot (by omega) hi
   simp only [Nat.zero_add]
   exact ⟨by rw [a3,a4],hg⟩
  exact this
 unfold zhc
 rw [if_neg (by rw [hp];simp),Int.toNat_natCast,ho,if_neg (by simp)]
end
end C22
namespace C40
open C22
def b6 (n:Nat) (k:Nat):UInt8:=UInt8.ofNat (n / 256 ^ (5 - k))
def zfe (n:Nat):Str:=[b6 n 0,b6 n 1,b6 n 2,b6 n 3,b6 n 4,b6 n 5]
theorem za2 (n:Nat):(zfe n).length=6:=rfl
theorem zvp (n:Nat) (s:Str):zfe n++s≠[]:=by simp [zfe]
def vk (s:Str) (k:Nat):Nat:=(s.take k).foldl (fun a b=>a * 256+b.toNat) 0
def zsu (s:Str):Nat:=vk s 6
theorem zvq {s:Str} {k:Nat} (h:k<s.length):vk s (k+1)=vk s k * 256+s[k].toNat:=by
 unfold vk
 rw [List.take_add_one,List.getElem?_eq_getElem h,List.foldl_append]
 rfl
theorem vk_lt (s:Str) (k:Nat):vk s k<256 ^ k:=by
 induction k with
 | zero=>simp [vk]
 | succ k ih =>
  rcases Nat.lt_or_ge k s.length with h|h
  · rw [zvq h,Nat.pow_succ]
    have:=s[k].toNat_lt
    omega
  · have e:vk s (k+1)=vk s k:=by unfold vk;rw [List.take_of_length_le h,List.take_of_length_le (by omega)]
    rw [e,Nat.pow_succ];omega
theorem zrd {n:Nat} (h:n<281474976710656) (s:Str):zsu (zfe n++s)=n:=by
 simp only [zsu,vk,zfe,List.cons_append,List.nil_append,List.take_succ_cons,List.take_zero,List.foldl_cons,List.foldl_nil,b6,UInt8.toNat_ofNat']
 omega
end C40
