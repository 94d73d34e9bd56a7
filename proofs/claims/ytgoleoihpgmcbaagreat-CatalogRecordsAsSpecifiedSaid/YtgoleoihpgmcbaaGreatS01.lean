/-
 The encoding of integers,byte strings and lists as bytes,in plain mathematics.
 Conditions: none; definitions and laws with no program in sight.
-/
import Derived.Test.YtgoleoihpgmcbaaGreatEN13
namespace CW
abbrev Str:=List UInt8
def zig (n:Int):Nat:=if n < 0 then (2 * (-1 - n) + 1).toNat else (2 * n).toNat
def unzig (z:Nat):Int:=if z % 2=1 then -1 - (z / 2:Nat) else (z / 2:Nat)
theorem unzig_zig (n:Int):unzig (zig n)=n:=by
 unfold unzig zig
 split<;>split<;>omega
theorem zig_unzig (z:Nat):zig (unzig z)=z:=by
 unfold unzig zig
 split<;>split<;>omega
def leb (z:Nat):Str:=if h:z < 128 then [UInt8.ofNat z] else UInt8.ofNat (z % 128 + 128)::leb (z / 128)
termination_by z
decreasing_by omega
theorem leb_lo {z:Nat} (h:z < 128):leb z=[UInt8.ofNat z]:=by rw [leb,dif_pos h]
theorem leb_hi {z:Nat} (h:¬ z < 128):leb z=UInt8.ofNat (z % 128 + 128)::leb (z / 128):=by rw [leb,dif_neg h]
def intB (n:Int):Str:=leb (zig n)
def bytesB (s:Str):Str:=intB s.length ++ s
def intsB (l:List Int):Str:=intB l.length ++ (l.map intB).flatten
def i64 (n:Int):Prop:=-9223372036854775808≤n∧n≤9223372036854775807
theorem zig_lt {n:Int} (h:i64 n):zig n < 18446744073709551616:=by
 obtain ⟨h1,h2⟩:=h
 unfold zig; split<;>omega
theorem unzig_i64 {z:Nat} (h:z < 18446744073709551616):i64 (unzig z):=by
 unfold i64 unzig; split<;>omega
theorem leb_len:∀ (k z:Nat),z < 128 ^ (k + 1)→(leb z).length≤k + 1
 | 0,z,h=>by rw [leb_lo (by simpa using h)]; simp
 | k + 1,z,h=>by
   by_cases h1:z < 128
   · rw [leb_lo h1]; simp
   · rw [leb_hi h1,List.length_cons]
     have:=leb_len k (z / 128) (Nat.div_lt_of_lt_mul (by rw [Nat.mul_comm,← Nat.pow_succ]; exact h))
     omega
theorem leb_pos (z:Nat):1≤(leb z).length:=by
 by_cases h:z < 128
 · rw [leb_lo h]; simp
 · rw [leb_hi h]; simp
theorem intB_len {n:Int} (h:i64 n):(intB n).length≤10:=leb_len 9 _ (Nat.lt_of_lt_of_le (zig_lt h) (by decide))
theorem intB_pos (n:Int):1≤(intB n).length:=leb_pos _
theorem ints_len:∀ {l:List Int},(∀ n ∈ l,i64 n)→((l.map intB).flatten).length≤10 * l.length
 | [],_=>by simp
 | n::l,h=>by
   have h1:=intB_len (h n (by simp))
   have h2:=ints_len (l:=l) fun m hm=>h m (by simp [hm])
   simp only [List.map_cons,List.flatten_cons,List.length_append,List.length_cons]; omega
abbrev eEnc:Int:=11
abbrev eTrunc:Int:=10
def getP:Nat→Nat→Str→Int × Int × Int
 | _,_,[]=>(0,0,eTrunc)
 | k,z,c::r =>
  if (k=9∧1 < c.toNat)∨(0 < k∧c.toNat=0) then (0,0,eEnc)
  else if c.toNat < 128 then (unzig (z + c.toNat % 128 * 128 ^ k),k + 1,0)
  else getP (k + 1) (z + c.toNat % 128 * 128 ^ k) r
def getI (b:Str):Int × Int × Int:=getP 0 0 b
def val:Str→Nat
 | []=>0
 | c::r=>c.toNat % 128 + 128 * val r
theorem val_lt:∀ l:Str,val l < 128 ^ l.length
 | []=>by simp [val]
 | c::r=>by
   have:=val_lt r
   have h2:c.toNat % 128 < 128:=Nat.mod_lt _ (by decide)
   rw [val,List.length_cons,Nat.pow_succ]
   have:128 * val r + 128≤128 ^ r.length * 128:=by omega
   omega
theorem val_app:∀ (a b:Str),val (a ++ b)=val a + 128 ^ a.length * val b
 | [],b=>by simp [val]
 | c::a,b=>by
   have e:128 ^ a.length * 128 * val b=128 * (128 ^ a.length * val b):=by rw [Nat.mul_comm _ 128,Nat.mul_assoc]
   rw [List.cons_append,val,val,val_app a b,List.length_cons,Nat.pow_succ,Nat.mul_add,e,Nat.add_assoc]
theorem getP_run:∀ (p:Str) (k z:Nat) (r:Str),(∀ c ∈ p,128≤c.toNat)→k + p.length≤9→getP k z (p ++ r)=getP (k + p.length) (z + 128 ^ k * val p) r
 | [],k,z,r,_,_=>by simp [val]
 | c::p,k,z,r,h,hk=>by
   have hc:=h c (by simp)
   simp only [List.length_cons] at hk ⊢
   rw [List.cons_append,getP,if_neg (by omega),if_neg (by omega),getP_run p (k + 1) _ r (fun c' hc'=>h c' (by simp [hc'])) (by omega),val]
   rw [show k + 1 + p.length=k + (p.length + 1) by omega,Nat.pow_succ,Nat.mul_add,Nat.mul_comm (128 ^ k) (c.toNat % 128),Nat.mul_assoc,Nat.add_assoc]
theorem getP_long {p:Str} {z:Nat} {r:Str} {c:UInt8} (h:∀ c ∈ p,128≤c.toNat) (hp:p.length=9) (hc:128≤c.toNat):getP 0 z (p ++ c::r)=(0,0,eEnc):=by
 rw [getP_run p 0 z _ h (by omega),hp,getP,if_pos (by omega)]
theorem getP_short {p:Str} (h:∀ c ∈ p,128≤c.toNat) (hp:p.length≤9):getP 0 0 p=(0,0,eTrunc):=by
 have:=getP_run p 0 0 [] h (by omega)
 rw [List.append_nil] at this
 rw [this]; rfl
theorem getP_end {p:Str} {r:Str} {c:UInt8} (h:∀ c ∈ p,128≤c.toNat) (hp:p.length≤9) (hc:c.toNat < 128) :
 getP 0 0 (p ++ c::r)=if (p.length=9∧1 < c.toNat)∨(0 < p.length∧c.toNat=0) then ((0:Int),(0:Int),eEnc) else (unzig (val (p ++ [c])),(p.length:Int) + 1,(0:Int)):=by
 rw [getP_run p 0 0 _ h (by omega),getP]
 have e1:0 + p.length=p.length:=by omega
 have e2:0 + 128 ^ 0 * val p + c.toNat % 128 * 128 ^ (0 + p.length)=val (p ++ [c]):=by
  rw [val_app,e1]; simp only [val]; rw [Nat.mul_comm (c.toNat % 128)]; simp
 rw [e2,e1,if_pos hc]
theorem val_u64 {p:Str} {c:UInt8} (hp:p.length≤9) (hc:c.toNat < 128) (hn:¬ (p.length=9∧1 < c.toNat)):val (p ++ [c]) < 18446744073709551616:=by
 have h1:=val_lt p
 have h2:c.toNat % 128=c.toNat:=Nat.mod_eq_of_lt hc
 rw [val_app]
 simp only [val,h2,Nat.mul_zero,Nat.add_zero]
 by_cases h9:p.length=9
 · rw [h9] at h1 ⊢
   have:c.toNat≤1:=by omega
   have:128 ^ 9 * c.toNat≤128 ^ 9 * 1:=Nat.mul_le_mul_left _ this
   have e:(128:Nat) ^ 9=9223372036854775808:=by decide
   omega
 · have:(128:Nat) ^ p.length≤128 ^ 8:=Nat.pow_le_pow_right (by decide) (by omega)
   have h3:128 ^ p.length * c.toNat≤128 ^ 8 * 127:=Nat.mul_le_mul this (by omega)
   have e:(128:Nat) ^ 8=72057594037927936:=by decide
   omega
def top (k:Nat):Nat:=2 ^ (64 - 7 * k)
theorem top_succ:∀ k,k≤8→top k=128 * top (k + 1):=by
 intro k hk
 match k,hk with
 | 0,_|1,_|2,_|3,_|4,_|5,_|6,_|7,_|8,_=>decide
theorem top_ge:∀ k,k≤8→256≤top k:=by
 intro k hk
 match k,hk with
 | 0,_|1,_|2,_|3,_|4,_|5,_|6,_|7,_|8,_=>decide
theorem ofNat_lo {z:Nat} (h:z < 256):(UInt8.ofNat z).toNat=z:=by
 rw [UInt8.toNat_ofNat']; exact Nat.mod_eq_of_lt h
theorem ofNat_toNat (c:UInt8):UInt8.ofNat c.toNat=c:=by simp
theorem getP_leb:∀ (k z acc:Nat) (r:Str),k≤9→z < top k→(k=0∨0 < z)→getP k acc (leb z ++ r)=(unzig (acc + z * 128 ^ k),((k + (leb z).length:Nat):Int),0):=by
 intro k
 induction h:9 - k generalizing k with
 | zero =>
  intro z acc r hk hz h0
  obtain rfl:k=9:=by omega
  have hz:z < 2:=hz
  have hc:=ofNat_lo (z:=z) (by omega)
  rw [leb_lo (by omega)]
  show getP 9 acc (UInt8.ofNat z::r)=_
  rw [getP,hc,if_neg (by omega),if_pos (by omega),Nat.mod_eq_of_lt (by omega)]; rfl
 | succ n ih =>
  intro z acc r hk hz h0
  have hk8:k≤8:=by omega
  by_cases hlo:z < 128
  · have hc:=ofNat_lo (z:=z) (by omega)
    rw [leb_lo hlo]
    show getP k acc (UInt8.ofNat z::r)=_
    rw [getP,hc,if_neg (by omega),if_pos hlo,Nat.mod_eq_of_lt hlo]; rfl
  · have hm:z % 128 < 128:=Nat.mod_lt _ (by decide)
    have hc:=ofNat_lo (z:=z % 128 + 128) (by omega)
    have ht:=top_succ k hk8
    rw [leb_hi hlo,List.cons_append,getP,hc,if_neg (by omega),if_neg (by omega),ih (k + 1) (by omega) (z / 128) _ r (by omega) (by omega) (.inr (by omega))]
    have e1:(z % 128 + 128) % 128=z % 128:=by omega
    have e2:z % 128 * 128 ^ k + z / 128 * 128 ^ (k + 1)=z * 128 ^ k:=by
     rw [Nat.pow_succ,Nat.mul_comm (128 ^ k) 128,← Nat.mul_assoc,← Nat.add_mul]; congr 1; omega
    rw [e1,Nat.add_assoc,e2,List.length_cons]
    have e3:k + 1 + (leb (z / 128)).length=k + ((leb (z / 128)).length + 1):=by omega
    rw [e3]
theorem getI_int {n:Int} (h:i64 n) (r:Str):getI (intB n ++ r)=(n,((intB n).length:Int),0):=by
 rw [getI,intB,getP_leb 0 (zig n) 0 r (by omega) (zig_lt h) (.inl rfl)]
 simp [unzig_zig]
theorem getP_canon:∀ (r:Str) (k acc:Nat) (x u:Int),k≤9→getP k acc r=(x,u,0) →
 ∃ z n,u=((k + n:Nat):Int)∧x=unzig (acc + z * 128 ^ k)∧1≤n∧n≤r.length∧r.take n=leb z∧z < top k∧(k=0∨0 < z)
 | [],k,acc,x,u,_,h=>by simp [getP,eTrunc] at h
 | c::r,k,acc,x,u,hk,h=>by
   have hc:=c.toNat_lt
   rw [getP] at h
   split at h
   · simp [eEnc] at h
   rename_i hg
   split at h
   · rename_i hlo
     have hm:c.toNat % 128=c.toNat:=Nat.mod_eq_of_lt hlo
     simp only [Prod.mk.injEq,and_true] at h
     refine ⟨c.toNat,1,by rw [← h.2]; rfl,by rw [← h.1,hm],Nat.le_refl _,by simp,by rw [leb_lo hlo,ofNat_toNat]; rfl,?_,by omega⟩
     by_cases h9:k=9
     · subst h9; show c.toNat < 2; omega
     · have:=top_ge k (by omega); omega
   · rename_i hhi
     have hk8:k≤8:=by omega
     obtain ⟨z,n,h1,h2,h3,h4,h5,h6,h7⟩:=getP_canon r (k + 1) _ x u (by omega) h
     have ht:=top_succ k hk8
     refine ⟨c.toNat % 128 + 128 * z,n + 1,by rw [h1,show k + 1 + n=k + (n + 1) by omega],?_,by omega,by simpa using h4,?_,by omega,by omega⟩
     · rw [h2,Nat.pow_succ,Nat.add_assoc,Nat.add_mul,Nat.mul_comm (128 ^ k) 128,← Nat.mul_assoc,Nat.mul_comm z 128]
     · rw [leb_hi (by omega),List.take_succ_cons,h5]
       have e1:(c.toNat % 128 + 128 * z) % 128 + 128=c.toNat:=by omega
       have e2:(c.toNat % 128 + 128 * z) / 128=z:=by omega
       rw [e1,e2,ofNat_toNat]
theorem getI_canon {b:Str} {x u:Int} (h:getI b=(x,u,0)):∃ n:Nat,u=n∧1≤n∧n≤b.length∧b.take n=intB x∧i64 x:=by
 obtain ⟨z,n,h1,h2,h3,h4,h5,h6,_⟩:=getP_canon b 0 0 x u (by omega) h
 have h2:x=unzig z:=by rw [h2]; simp
 refine ⟨n,by rw [h1]; simp,h3,h4,?_,?_⟩
 · rw [h5,intB,h2,zig_unzig]
 · rw [h2]; exact unzig_i64 h6
def lenQ (b:Str):Int × Int × Int :=
 if (getI b).2.2 ≠ 0 then (0,0,(getI b).2.2)
 else if (getI b).1 < 0 then (0,0,eEnc)
 else if (b.length:Int) - (getI b).2.1 < (getI b).1 then (0,0,eTrunc)
 else ((getI b).1,(getI b).2.1,0)
theorem lenQ_ok {b:Str} {n a:Int} (h:lenQ b=(n,a,0)):∃ k m:Nat,n=k∧a=m∧m + k≤b.length∧b.take m=intB n∧i64 n:=by
 unfold lenQ at h
 split at h
 · rename_i h0; simp at h; exact absurd h.2.2 h0
 rename_i h0
 split at h
 · simp [eEnc] at h
 split at h
 · simp [eTrunc] at h
 simp only [Prod.mk.injEq,and_true] at h
 obtain ⟨rfl,rfl⟩:=h
 obtain ⟨m,h1,h2,h3,h4,h5⟩:=getI_canon (b:=b) (x:=(getI b).1) (u:=(getI b).2.1) (by rw [← Classical.not_not.1 h0])
 exact ⟨(getI b).1.toNat,m,by omega,h1,by omega,h4,h5⟩
theorem lenQ_int {n:Nat} (h:i64 n) {r:Str} (hr:n≤r.length):lenQ (intB n ++ r)=((n:Int),((intB n).length:Int),0):=by
 unfold lenQ
 rw [getI_int h]
 rw [if_neg (by simp),if_neg (by omega),if_neg (by rw [List.length_append]; push_cast; omega)]
def getN (b:Str):Nat→Nat→List Int→List Int × Int × Int
 | 0,at_,out=>(out,at_,0)
 | n + 1,at_,out=>if (getI (b.drop at_)).2.2 ≠ 0 then ([],0,(getI (b.drop at_)).2.2) else getN b n (at_ + (getI (b.drop at_)).2.1.toNat) (out ++ [(getI (b.drop at_)).1])
def getInts (b:Str):List Int × Int × Int:=if (lenQ b).2.2 ≠ 0 then ([],0,(lenQ b).2.2) else getN b (lenQ b).1.toNat (lenQ b).2.1.toNat []
def getBytes (b:Str):Str × Int × Int:=if (lenQ b).2.2 ≠ 0 then ([],0,(lenQ b).2.2) else ((b.drop (lenQ b).2.1.toNat).take (lenQ b).1.toNat,(lenQ b).2.1 + (lenQ b).1,0)
theorem getN_canon {b:Str}:∀ (n at_:Nat) (out l:List Int) (u:Int),at_≤b.length→getN b n at_ out=(l,u,0) →
 ∃ (q:List Int) (m:Nat),l=out ++ q∧u=m∧q.length=n∧at_≤m∧m≤b.length∧(b.drop at_).take (m - at_)=(q.map intB).flatten∧∀ x ∈ q,i64 x
 | 0,at_,out,l,u,ha,h=>by
   simp only [getN,Prod.mk.injEq,and_true] at h
   exact ⟨[],at_,by rw [← h.1]; simp,h.2.symm,rfl,Nat.le_refl _,ha,by simp,by simp⟩
 | n + 1,at_,out,l,u,ha,h=>by
   rw [getN] at h
   split at h
   · rename_i h0; simp at h; exact absurd h.2.2 h0
   rename_i h0
   obtain ⟨m,h1,h2,h3,h4,h5⟩:=getI_canon (b:=b.drop at_) (x:=(getI (b.drop at_)).1) (u:=(getI (b.drop at_)).2.1) (by rw [← Classical.not_not.1 h0])
   rw [List.length_drop] at h3
   rw [h1] at h
   obtain ⟨q,m2,g1,g2,g3,g4,g5,g6,g7⟩:=getN_canon n _ _ l u (by simp; omega) h
   simp only [Int.toNat_natCast] at g4 g6
   refine ⟨(getI (b.drop at_)).1::q,m2,by rw [g1]; simp,g2,by simp [g3],by omega,g5,?_,fun x hx=>?_⟩
   · rw [List.map_cons,List.flatten_cons,← h4,← g6,← List.drop_drop,← List.take_add]
     congr 1; omega
   · rcases List.mem_cons.1 hx with rfl|hx
     · exact h5
     · exact g7 x hx
theorem getInts_canon {b:Str} {l:List Int} {u:Int} (h:getInts b=(l,u,0)):∃ m:Nat,u=m∧m≤b.length∧b.take m=intsB l∧∀ x ∈ l,i64 x:=by
 unfold getInts at h
 split at h
 · rename_i h0; simp at h; exact absurd h.2.2 h0
 rename_i h0
 obtain ⟨k,m,h1,h2,h3,h4,h5⟩:=lenQ_ok (b:=b) (n:=(lenQ b).1) (a:=(lenQ b).2.1) (by rw [← Classical.not_not.1 h0])
 rw [h1,h2] at h
 obtain ⟨q,m2,g1,g2,g3,g4,g5,g6,g7⟩:=getN_canon _ _ _ l u (by simp; omega) h
 simp only [Int.toNat_natCast,List.nil_append] at g1 g3 g4 g6
 subst g1
 refine ⟨m2,g2,g5,?_,g7⟩
 rw [intsB,g3,← h1,← h4,← g6,← List.take_add]
 congr 1; omega
theorem getN_ints {b:Str}:∀ (q:List Int) (pre r:Str) (out:List Int),(∀ x ∈ q,i64 x)→b=pre ++ ((q.map intB).flatten ++ r) →
 getN b q.length pre.length out=(out ++ q,((pre.length + ((q.map intB).flatten).length:Nat):Int),0)
 | [],pre,r,out,_,_=>by simp [getN]
 | x::q,pre,r,out,hq,hb=>by
   have hd:b.drop pre.length=intB x ++ ((q.map intB).flatten ++ r):=by rw [hb,List.drop_left]; simp
   have e:=getN_ints (b:=b) q (pre ++ intB x) r (out ++ [x]) (fun y hy=>hq y (by simp [hy])) (by rw [hb]; simp)
   rw [List.length_cons,getN,hd,getI_int (hq x (by simp)),if_neg (by simp)]
   simp only [Int.toNat_natCast]
   rw [List.length_append] at e
   rw [e]
   simp [Nat.add_assoc]
theorem flat_pos:∀ (l:List Int),l.length≤((l.map intB).flatten).length
 | []=>by simp
 | x::l=>by
   have h1:=intB_pos x
   have h2:=flat_pos l
   simp only [List.map_cons,List.flatten_cons,List.length_append,List.length_cons]; omega
theorem getInts_ints {l:List Int} (hl:∀ x ∈ l,i64 x) (hn:i64 l.length) (r:Str):getInts (intsB l ++ r)=(l,((intsB l).length:Int),0):=by
 have h1:=flat_pos l
 have h:=lenQ_int (n:=l.length) hn (r:=(l.map intB).flatten ++ r) (by rw [List.length_append]; omega)
 unfold getInts
 rw [intsB,List.append_assoc,h,if_neg (by simp)]
 simp only [Int.toNat_natCast]
 rw [getN_ints l (intB l.length) r [] hl rfl,List.length_append]
 simp
theorem getBytes_canon {b s:Str} {u:Int} (h:getBytes b=(s,u,0)):∃ m:Nat,u=m∧m≤b.length∧b.take m=bytesB s:=by
 unfold getBytes at h
 split at h
 · rename_i h0; simp at h; exact absurd h.2.2 h0
 rename_i h0
 obtain ⟨k,m,h1,h2,h3,h4,h5⟩:=lenQ_ok (b:=b) (n:=(lenQ b).1) (a:=(lenQ b).2.1) (by rw [← Classical.not_not.1 h0])
 rw [h1,h2] at h
 simp only [Int.toNat_natCast,Prod.mk.injEq,and_true] at h
 obtain ⟨rfl,rfl⟩:=h
 refine ⟨m + k,by omega,h3,?_⟩
 rw [bytesB,List.length_take,List.length_drop,Nat.min_eq_left (by omega),← h1,← h4,List.take_add]
theorem getBytes_bytes {s:Str} (hn:i64 s.length) (r:Str):getBytes (bytesB s ++ r)=(s,((bytesB s).length:Int),0):=by
 have h:=lenQ_int (n:=s.length) hn (r:=s ++ r) (by rw [List.length_append]; omega)
 unfold getBytes
 rw [bytesB,List.append_assoc,h,if_neg (by simp)]
 simp only [Int.toNat_natCast]
 rw [List.drop_left,List.take_left,List.length_append]
 simp
end CW
/-
 Words: what the operations on bits give,for the encoding of integers.
 Conditions: of each law as it says.
-/
namespace Go.E2
open CW
theorem ofInt_toNat (w n:Nat) (h:n < 2 ^ w):(BitVec.ofInt w (n:Int)).toNat=n:=by
 rw [BitVec.toNat_ofInt]
 rw [show ((2 ^ w:Nat):Int)=(2:Int) ^ w from by simp]
 have h2:(n:Int) < 2 ^ w:=by exact_mod_cast h
 rw [Int.emod_eq_of_lt (by omega) h2]; simp
theorem b_and8 (a b:Int):binD .and (.int .u8 a) (.int .u8 b)=some (.int .u8 (IntKind.u8.wrap ((BitVec.ofInt 8 a &&& BitVec.ofInt 8 b).toNat:Int))):=rfl
theorem b_and64 (a b:Int):binD .and (.int .u64 a) (.int .u64 b)=some (.int .u64 (IntKind.u64.wrap ((BitVec.ofInt 64 a &&& BitVec.ofInt 64 b).toNat:Int))):=rfl
theorem b_or8 (a b:Int):binD .or (.int .u8 a) (.int .u8 b)=some (.int .u8 (IntKind.u8.wrap ((BitVec.ofInt 8 a ||| BitVec.ofInt 8 b).toNat:Int))):=rfl
theorem b_or64 (a b:Int):binD .or (.int .u64 a) (.int .u64 b)=some (.int .u64 (IntKind.u64.wrap ((BitVec.ofInt 64 a ||| BitVec.ofInt 64 b).toNat:Int))):=rfl
theorem b_xor64 (a b:Int):binD .xor (.int .u64 a) (.int .u64 b)=some (.int .u64 (IntKind.u64.wrap ((BitVec.ofInt 64 a ^^^ BitVec.ofInt 64 b).toNat:Int))):=rfl
theorem b_xori (a b:Int):binD .xor (.int .i64 a) (.int .i64 b)=some (.int .i64 (IntKind.i64.wrap ((BitVec.ofInt 64 a ^^^ BitVec.ofInt 64 b).toNat:Int))):=rfl
theorem w_and127 (c:UInt8):binD .and (.int .u8 c.toNat) (.int .u8 127)=some (.int .u8 ((c.toNat % 128:Nat):Int)):=by
 have hc:=c.toNat_lt
 have h1:=ofInt_toNat 8 c.toNat hc
 have h2:=ofInt_toNat 8 127 (by decide)
 rw [b_and8,BitVec.toNat_and]
 rw [h1,show ((127:Int))=((127:Nat):Int) from rfl,h2,show 127=2 ^ 7 - 1 from rfl,Nat.and_two_pow_sub_one_eq_mod]
 rw [wrap_u8 (by omega) (by omega)]
theorem w_and1 {z:Nat} (hz:z < 18446744073709551616):binD .and (.int .u64 z) (.int .u64 1)=some (.int .u64 ((z % 2:Nat):Int)):=by
 have h1:=ofInt_toNat 64 z hz
 have h2:=ofInt_toNat 64 1 (by decide)
 rw [b_and64,BitVec.toNat_and]
 rw [h1,show ((1:Int))=((1:Nat):Int) from rfl,h2,show 1=2 ^ 1 - 1 from rfl,Nat.and_two_pow_sub_one_eq_mod]
 rw [wrap_u64 (by omega) (by omega)]
theorem pow7 (k:Nat):2 ^ (7 * k)=128 ^ k:=by rw [Nat.pow_mul]
theorem w_shl7 {x k:Nat} (hk:k≤9) (h:x * 128 ^ k < 18446744073709551616):binD .shl (.int .u64 x) (.int .i64 (7 * k))=some (.int .u64 ((x * 128 ^ k:Nat):Int)):=by
 have e:(7 * (k:Int)).toNat=7 * k:=by omega
 simp only [binD]
 rw [if_neg (by omega),e,Nat.min_eq_left (by simp only [IntKind.bits]; omega),show ((x:Int) * 2 ^ (7 * k))=((x * 128 ^ k:Nat):Int) from by rw [← pow7]; push_cast; rfl,wrap_u64 (by omega) (by omega)]
theorem w_or7 {z d k:Nat} (hz:z < 128 ^ k) (h:z + d * 128 ^ k < 18446744073709551616):binD .or (.int .u64 z) (.int .u64 ((d * 128 ^ k:Nat):Int))=some (.int .u64 ((z + d * 128 ^ k:Nat):Int)):=by
 have h1:=ofInt_toNat 64 z (by omega)
 have h2:=ofInt_toNat 64 (d * 128 ^ k) (by omega)
 rw [b_or64,BitVec.toNat_or]
 rw [h1,h2,← pow7,Nat.or_comm,Nat.mul_comm d,← Nat.two_pow_add_eq_or_of_lt (by rw [pow7]; exact hz),Nat.add_comm,pow7,Nat.mul_comm _ d]
 rw [wrap_u64 (by omega) (by omega)]
theorem w_shr1 (z:Nat):binD .shr (.int .u64 z) (.int .u64 1)=some (.int .u64 ((z / 2:Nat):Int)):=by
 simp only [binD]
 rw [if_neg (by omega),Int.fdiv_eq_ediv_of_nonneg _ (Int.pow_nonneg (by omega))]
 rfl
theorem w_shr7 (z:Nat):binD .shr (.int .u64 z) (.int .u64 7)=some (.int .u64 ((z / 128:Nat):Int)):=by
 simp only [binD]
 rw [if_neg (by omega),Int.fdiv_eq_ediv_of_nonneg _ (Int.pow_nonneg (by omega))]
 rfl
theorem wrap_i64_hi {x:Int} (h1:9223372036854775808≤x) (h2:x < 18446744073709551616):IntKind.i64.wrap x=x - 18446744073709551616:=by
 have h:x % 18446744073709551616=x:=Int.emod_eq_of_lt (by omega) h2
 simp [IntKind.wrap,IntKind.bits,IntKind.signed,h]; omega
theorem ofInt_neg1:BitVec.ofInt 64 (-1)=BitVec.allOnes 64:=by decide
theorem w_unzig {z:Nat} (hz:z < 18446744073709551616):binD .xor (.int .i64 ((z / 2:Nat):Int)) (.int .i64 (0 - ((z % 2:Nat):Int)))=some (.int .i64 (unzig z)):=by
 have h1:=ofInt_toNat 64 (z / 2) (by omega)
 rw [b_xori]
 unfold unzig
 by_cases h:z % 2=1
 · rw [if_pos h,h,show (0 - ((1:Nat):Int))=-1 from rfl,ofInt_neg1,BitVec.xor_allOnes,BitVec.toNat_not,h1]
   congr 2
   have e:((2 ^ 64 - 1 - z / 2:Nat):Int)=18446744073709551615 - ((z / 2:Nat):Int):=by omega
   rw [e,wrap_i64_hi (by omega) (by omega)]
   omega
 · have h0:z % 2=0:=by omega
   rw [if_neg h,h0,show (0 - ((0:Nat):Int))=0 from rfl,show BitVec.ofInt 64 0=0#64 from rfl,BitVec.xor_zero,h1,wrap_i64 (by omega) (by omega)]
theorem w_or128 (z:Nat):binD .or (.int .u8 (IntKind.u8.wrap z)) (.int .u8 128)=some (.int .u8 ((UInt8.ofNat (z % 128 + 128)).toNat:Int)):=by
 have hw:IntKind.u8.wrap z=((z % 256:Nat):Int):=by
  rw [IntKind.wrap]; simp [IntKind.bits,IntKind.signed]
 have h1:=ofInt_toNat 8 (z % 256) (Nat.mod_lt _ (by decide))
 have h2:=ofInt_toNat 8 128 (by decide)
 rw [b_or8,BitVec.toNat_or]
 rw [hw,h1,show ((128:Int))=((128:Nat):Int) from rfl,h2,ofNat_lo (by omega)]
 have e:z % 256 ||| 128=z % 128 + 128:=by
  have hm:z % 128 < 2 ^ 7:=Nat.mod_lt _ (by decide)
  have h3:=Nat.two_pow_add_eq_or_of_lt hm 1
  have h4:z % 256=z % 128∨z % 256=2 ^ 7 * 1 + z % 128:=by omega
  rcases h4 with h4|h4
  · rw [h4,Nat.or_comm,show 128=2 ^ 7 * 1 from rfl,← h3]; omega
  · rw [h4,h3,show 128=2 ^ 7 * 1 from rfl,Nat.or_comm,← Nat.or_assoc,Nat.or_self,← h3]; omega
 rw [e,wrap_u8 (by omega) (by omega)]
theorem w_zig {n:Int} (h:i64 n):∃ x y:Int,binD .shl (.int .u64 (IntKind.u64.wrap n)) (.int .u64 1)=some (.int .u64 x)∧binD .shr (.int .i64 n) (.int .u64 63)=some (.int .i64 y) ∧
 binD .xor (.int .u64 x) (.int .u64 (IntKind.u64.wrap y))=some (.int .u64 ((zig n:Nat):Int)):=by
 obtain ⟨ha,hb⟩:=h
 refine ⟨IntKind.u64.wrap (IntKind.u64.wrap n * 2),n.fdiv 9223372036854775808,?_,?_,?_⟩
 · simp only [binD]; rw [if_neg (by omega)]; rfl
 · simp only [binD]; rw [if_neg (by omega)]; rfl
 · by_cases hn:n < 0
   · have e1:IntKind.u64.wrap n=n + 18446744073709551616:=by
      rw [IntKind.wrap]; simp only [IntKind.bits,IntKind.signed]; simp; omega
     have e2:IntKind.u64.wrap ((n + 18446744073709551616) * 2)=((18446744073709551616 + 2 * n).toNat:Int):=by
      rw [IntKind.wrap]; simp only [IntKind.bits,IntKind.signed]; simp; omega
     have e3:n.fdiv 9223372036854775808=-1:=by
      rw [Int.fdiv_eq_ediv_of_nonneg _ (by omega)]; omega
     have e4:IntKind.u64.wrap (-1)=18446744073709551615:=by decide
     have h1:=ofInt_toNat 64 (18446744073709551616 + 2 * n).toNat (by omega)
     rw [e1,e2,e3,e4]
     rw [b_xor64]
     rw [show BitVec.ofInt 64 18446744073709551615=BitVec.allOnes 64 from by decide,BitVec.xor_allOnes,BitVec.toNat_not,h1,wrap_u64 (by omega) (by omega)]
     unfold zig; rw [if_pos hn]; congr 2; omega
   · have e1:IntKind.u64.wrap n=n:=wrap_u64 (by omega) (by omega)
     have e2:IntKind.u64.wrap (n * 2)=(((2 * n).toNat:Nat):Int):=by rw [wrap_u64 (by omega) (by omega)]; omega
     have e3:n.fdiv 9223372036854775808=0:=by
      rw [Int.fdiv_eq_ediv_of_nonneg _ (by omega)]; omega
     have h1:=ofInt_toNat 64 (2 * n).toNat (by omega)
     rw [e1,e2,e3]
     rw [b_xor64]
     rw [show BitVec.ofInt 64 (IntKind.u64.wrap 0)=0#64 from by decide,BitVec.xor_zero,h1,wrap_u64 (by omega) (by omega)]
     unfold zig; rw [if_neg hn]
end Go.E2
