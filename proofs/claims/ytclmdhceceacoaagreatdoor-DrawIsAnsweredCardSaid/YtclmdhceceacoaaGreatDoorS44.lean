/-
 Shares of a seed,in plain mathematics: what a polynomial's values say of its value at 0,modulo 2147483647.
 Conditions: none; definitions and laws with no program in sight.
-/
import Derived.Test.YtclmdhceceacoaaGreatDoorS01
namespace C44
abbrev P:Nat:=2147483647
abbrev F:=Fin P
def toF (n:Nat):F:=⟨n % P,Nat.mod_lt _ (by decide)⟩
theorem toF_val (n:Nat):(toF n).val=n % P:=rfl
theorem toF_mod (n:Nat):toF (n % P)=toF n:=Fin.ext (Nat.mod_mod _ _)
theorem toF_mul (a b:Nat):toF (a * b)=toF a * toF b:=Fin.ext (by rw [Fin.val_mul,toF_val,toF_val,toF_val,Nat.mul_mod])
theorem toF_add (a b:Nat):toF (a + b)=toF a + toF b:=Fin.ext (by rw [Fin.val_add,toF_val,toF_val,toF_val,Nat.add_mod])
theorem toF_lt {a b:Nat} (h:toF a=toF b) (ha:a < P) (hb:b < P):a=b:=by
 have:=congrArg Fin.val h
 rwa [toF_val,toF_val,Nat.mod_eq_of_lt ha,Nat.mod_eq_of_lt hb] at this
theorem toF_sub {a b:Nat} (hb:b≤P):toF ((a + P - b) % P)=toF a - toF b:=by
 have h:toF ((a + P - b) % P) + toF b=toF a:=by
  rw [toF_mod,← toF_add,show a + P - b + b=a + P from by omega]
  exact Fin.ext (by rw [toF_val,toF_val,Nat.add_mod_right])
 rw [← h]; grobner
theorem val_toF (x:F):toF x.val=x:=Fin.ext (by rw [toF_val]; exact Nat.mod_eq_of_lt x.isLt)
def pw:Nat→F→Nat→F
 | 0,_,_=>1
 | k + 1,x,e=>(if e % 2=1 then x else 1) * pw k (x * x) (e / 2)
theorem pw_mul (y:F):∀ (k:Nat) (x:F) (e:Nat),pw k (x * y) e=pw k x e * pw k y e:=by
 suffices ∀ (k:Nat) (x y:F) (e:Nat),pw k (x * y) e=pw k x e * pw k y e from fun k x e=>this k x y e
 intro k
 induction k with
 | zero=>intro x y e; simp only [pw]; grobner
 | succ k ih =>
  intro x y e
  simp only [pw]
  rw [show x * y * (x * y)=(x * x) * (y * y) from by grobner,ih]
  split<;>grobner
theorem pw_one:∀ (k e:Nat),pw k 1 e=1
 | 0,_=>rfl
 | k + 1,e=>by
   simp only [pw]
   rw [show (1:F) * 1=1 from rfl,pw_one k]
   split<;>rfl
theorem pw_zero:∀ (k:Nat) (x:F),pw k x 0=1
 | 0,_=>rfl
 | k + 1,x=>by
   simp only [pw]
   rw [pw_zero k]; rfl
def iv (x:F):F:=pw 31 x (P - 2)
theorem iv_mul (x y:F):iv (x * y)=iv x * iv y:=pw_mul y 31 x _
theorem iv_one:iv 1=1:=pw_one 31 _
def okPair (x y:F):Bool:=decide ((x - y) * iv (x - y)=1)
set_option maxRecDepth 100000 in
theorem places_ok:(List.range 12).all (fun i=>(List.range 12).all fun j=>i == j || okPair (toF (i + 1)) (toF (j + 1)))=true:=by decide +kernel
def sm {α:Type} (f:α→F):List α→F
 | []=>0
 | x::l=>f x + sm f l
theorem sm_congr {α:Type} {f g:α→F}:∀ {l:List α},(∀ x ∈ l,f x=g x)→sm f l=sm g l
 | [],_=>rfl
 | x::l,h=>by rw [sm,sm,h x (by simp),sm_congr fun y hy=>h y (by simp [hy])]
theorem sm_add {α:Type} (f g:α→F):∀ l,sm (fun x=>f x + g x) l=sm f l + sm g l
 | []=>by simp only [sm]; grobner
 | x::l=>by rw [sm,sm,sm,sm_add f g l]; grobner
theorem sm_mul {α:Type} (c:F) (f:α→F):∀ l,sm (fun x=>c * f x) l=c * sm f l
 | []=>by simp only [sm]; grobner
 | x::l=>by rw [sm,sm,sm_mul c f l]; grobner
theorem sm_zero {α:Type}:∀ l:List α,sm (fun _=>0) l=0
 | []=>rfl
 | x::l=>by rw [sm,sm_zero l]; rfl
theorem sm_append {α:Type} (f:α→F):∀ l l',sm f (l ++ l')=sm f l + sm f l'
 | [],l'=>by rw [List.nil_append,sm]; grobner
 | x::l,l'=>by rw [List.cons_append,sm,sm,sm_append f l l']; grobner
def pr (x:F):List F→F
 | []=>1
 | y::l=>(if y=x then 1 else y * iv (y - x)) * pr x l
def ev (c:Nat→F) (n:Nat) (x:F):F:=sm (fun k=>c k * x ^ k) (List.range n)
end C44
/-
 The number of a digest,and shares,in plain mathematics.
 Conditions: none; definitions and laws with no program in sight.
-/
namespace C44
open CW CH
def be (l:List UInt8):Nat:=l.foldl (fun n b=>n * 256 + b.toNat) 0
theorem be_snoc (l:List UInt8) (b:UInt8):be (l ++ [b])=be l * 256 + b.toNat:=by rw [be,List.foldl_append]; rfl
theorem be_lt:∀ (l:List UInt8),be l < 256 ^ l.length:=by
 suffices ∀ (l:List UInt8) (n m:Nat),n < 256 ^ m→l.foldl (fun n b=>n * 256 + b.toNat) n < 256 ^ (m + l.length) from fun l=>by have:=this l 0 0 (by decide); rwa [Nat.zero_add] at this
 intro l
 induction l with
 | nil=>intro n m h; exact h
 | cons b l ih =>
  intro n m h
  rw [List.foldl_cons,List.length_cons,show m + (l.length + 1)=(m + 1) + l.length from by omega]
  refine ih _ _ ?_
  have:=b.toNat_lt
  rw [Nat.pow_succ]
  have:n * 256 + 256≤256 ^ m * 256:=by have:=Nat.mul_le_mul_right 256 (Nat.succ_le_of_lt h); rw [Nat.succ_mul] at this; exact this
  omega
def red (d:List UInt8):Nat:=be (d.take 8) % P
theorem red_lt (d:List UInt8):red d < P:=Nat.mod_lt _ (by decide)
def cf (h s:Nat):Nat→Nat
 | 0=>s
 | k + 1=>red (dig 192 ([(h:Int),(s:Int),((k + 1:Nat):Int)].map intB))
theorem cf_lt {h s:Nat} (hs:s < P) (k:Nat):cf h s k < P:=by
 cases k with
 | zero=>exact hs
 | succ k=>exact red_lt _
def shr (h s i:Nat):Nat→Nat
 | 0=>0
 | k + 1=>(shr h s i k + cf h s k * (i ^ k % P)) % P
theorem shr_lt (h s i:Nat):∀ k,shr h s i k < P
 | 0=>by show 0 < P; decide
 | k + 1=>Nat.mod_lt _ (by decide)
theorem toF_pow (a:Nat):∀ k,toF (a ^ k)=toF a ^ k
 | 0=>by show toF (a ^ 0)=toF a ^ 0; rw [Nat.pow_zero]; show (1:F)=_; grobner
 | k + 1=>by rw [Nat.pow_succ,toF_mul,toF_pow a k]; grobner
theorem shr_ev (h s i:Nat):∀ n,toF (shr h s i n)=ev (fun k=>toF (cf h s k)) n (toF i)
 | 0=>rfl
 | n + 1=>by
   rw [shr,toF_mod,toF_add,shr_ev h s i n,toF_mul,toF_mod,toF_pow]
   simp only [ev,List.range_succ,sm_append,sm]
   grobner
def hor (c:Nat→Nat) (i:Nat):Nat→Nat→Nat
 | 0,s=>s
 | k + 1,s=>hor c i k ((s * i + c k) % P)
theorem hor_ev (c:Nat→Nat) (i:Nat):∀ (k s:Nat),toF (hor c i k s)=toF s * toF i ^ k + ev (fun k=>toF (c k)) k (toF i)
 | 0,s=>by simp only [hor,ev,List.range_zero,sm]; grobner
 | k + 1,s=>by
   rw [hor,hor_ev c i k,toF_mod,toF_add,toF_mul]
   simp only [ev,List.range_succ,sm_append,sm]
   grobner
theorem hor_lt (c:Nat→Nat) (i:Nat):∀ (k s:Nat),s < P→hor c i k s < P
 | 0,s,h=>h
 | k + 1,s,h=>hor_lt c i k _ (Nat.mod_lt _ (by decide))
theorem hor_shr (h s i n:Nat):hor (cf h s) i n 0=shr h s i n:=by
 refine toF_lt ?_ (hor_lt _ _ _ _ (by decide)) (shr_lt _ _ _ _)
 rw [hor_ev,shr_ev]
 have:toF 0=0:=rfl
 rw [this]; grobner
end C44
/-
 Layer 44,plain: the value at 0 from pieces,as the program and as the reference count it.
-/
namespace C44
def prU (x:F):List F→F
 | []=>1
 | y::l=>if y=x then prU x l else y * prU x l
def prD (x:F):List F→F
 | []=>1
 | y::l=>if y=x then prD x l else (y - x) * prD x l
theorem pr_split (x:F):∀ l,pr x l=prU x l * iv (prD x l)
 | []=>by rw [pr,prU,prD,iv_one]; grobner
 | y::l=>by
   rw [pr,prU,prD,pr_split x l]
   split
   · grobner
   · rw [iv_mul]; grobner
theorem prU_snoc (x y:F):∀ l,prU x (l ++ [y])=prU x l * (if y=x then 1 else y)
 | []=>by simp only [List.nil_append,prU]; split<;>grobner
 | z::l=>by simp only [List.cons_append,prU,prU_snoc x y l]; split<;>grobner
theorem prD_snoc (x y:F):∀ l,prD x (l ++ [y])=prD x l * (if y=x then 1 else y - x)
 | []=>by simp only [List.nil_append,prD]; split<;>grobner
 | z::l=>by simp only [List.cons_append,prD,prD_snoc x y l]; split<;>grobner
def zer (l:List (Nat × Nat)):Nat:=(sm (fun p=>toF p.2 * pr (toF p.1) (l.map fun q=>toF q.1)) l).val
theorem zer_lt (l:List (Nat × Nat)):zer l < P:=Fin.isLt _
end C44
/-
 Layer 43,plain: numbers modulo the prime; symbols of a block; sums and products.
 Conditions: none; laws with no program in sight.
-/
namespace C44
theorem P_trial:(List.range 216).all (fun i=>(List.range 216).all fun j=>decide (216 * i + j≤1) || decide (2147483647 % (216 * i + j) ≠ 0))=true:=by decide +kernel
theorem P_small {d:Nat} (h1:1 < d) (h2:d < 46656):2147483647 % d ≠ 0:=by
 have h:=List.all_eq_true.1 P_trial (d / 216) (List.mem_range.2 (by omega))
 have h:=List.all_eq_true.1 h (d % 216) (List.mem_range.2 (by omega))
 have e:216 * (d / 216) + d % 216=d:=by omega
 rw [e] at h
 rw [Bool.or_eq_true,decide_eq_true_eq,decide_eq_true_eq] at h
 rcases h with h|h
 · omega
 · exact h
theorem P_div {d:Nat} (h:d ∣ P):d=1∨d=P:=by
 obtain ⟨e,he⟩:=h
 have hP:P=2147483647:=rfl
 by_cases d1:d=1
 · exact .inl d1
 by_cases e1:e=1
 · rw [e1,Nat.mul_one] at he; exact .inr he.symm
 exfalso
 have d0:d ≠ 0:=fun h=>by rw [h,Nat.zero_mul] at he; cases he
 have e0:e ≠ 0:=fun h=>by rw [h,Nat.mul_zero] at he; cases he
 by_cases hd:d < 46656
 · exact P_small (d:=d) (by omega) hd (by rw [← hP,he]; exact Nat.mul_mod_right d e)
 · have he2:e < 46656:=by
    rcases Nat.lt_or_ge e 46656 with h|h
    · exact h
    · have:46656 * 46656≤d * e:=Nat.mul_le_mul (by omega) h
      omega
   exact P_small (d:=e) (by omega) he2 (by rw [← hP,he]; exact Nat.mul_mod_left d e)
theorem P_prime {a b:Nat} (h:a * b % P=0) (hb0:0 < b) (hb:b < P):a % P=0:=by
 have hg:Nat.Coprime P b:=by
  rcases P_div (Nat.gcd_dvd_left P b) with e|e
  · exact e
  · exfalso
    have:=Nat.le_of_dvd hb0 (Nat.gcd_dvd_right P b)
    omega
 exact Nat.mod_eq_zero_of_dvd (hg.dvd_of_dvd_mul_right (Nat.dvd_of_mod_eq_zero h))
def byAt (s:List UInt8) (k:Nat):Nat:=if h:k < s.length then s[k].toNat else 0
theorem byAt_lt (s:List UInt8) (k:Nat):byAt s k < 256:=by
 unfold byAt; split
 · exact UInt8.toNat_lt _
 · decide
def sy (s:List UInt8) (j:Nat):Nat:=(byAt s (3 * j) * 256 + byAt s (3 * j + 1)) * 256 + byAt s (3 * j + 2)
theorem sy_lt (s:List UInt8) (j:Nat):sy s j < 16777216:=by
 have:=byAt_lt s (3 * j)
 have:=byAt_lt s (3 * j + 1)
 have:=byAt_lt s (3 * j + 2)
 unfold sy; omega
theorem sy_out {s:List UInt8} {j:Nat} (h:s.length≤3 * j):sy s j=0:=by
 unfold sy byAt
 rw [dif_neg (by omega),dif_neg (by omega),dif_neg (by omega)]
def syN (s:List UInt8):Nat:=(s.length + 2) / 3
def syms (s:List UInt8):List Nat:=(List.range (syN s)).map (sy s)
theorem syms_len (s:List UInt8):(syms s).length=syN s:=by simp [syms]
def fsum (h:Nat→Nat):Nat→Nat
 | 0=>0
 | n + 1=>fsum h n + h n
theorem fsum_congr {f g:Nat→Nat}:∀ {n:Nat},(∀ j,j < n→f j=g j)→fsum f n=fsum g n
 | 0,_=>rfl
 | n + 1,h=>by rw [fsum,fsum,fsum_congr fun j hj=>h j (by omega),h n (by omega)]
theorem fsum_ext {f:Nat→Nat} {n:Nat}:∀ k,(∀ j,n≤j→f j=0)→fsum f (n + k)=fsum f n
 | 0,_=>rfl
 | k + 1,h=>by rw [← Nat.add_assoc,fsum,fsum_ext k h,h _ (by omega),Nat.add_zero]
def fs (h:Nat→F):Nat→F
 | 0=>0
 | n + 1=>fs h n + h n
theorem fsum_toF (h:Nat→Nat):∀ n,toF (fsum h n)=fs (fun j=>toF (h j)) n
 | 0=>rfl
 | n + 1=>by rw [fsum,toF_add,fsum_toF h n]; rfl
theorem fs_congr {f g:Nat→F}:∀ {n:Nat},(∀ j,j < n→f j=g j)→fs f n=fs g n
 | 0,_=>rfl
 | n + 1,h=>by rw [fs,fs,fs_congr fun j hj=>h j (by omega),h n (by omega)]
theorem fs_sub (f g:Nat→F):∀ n,fs (fun j=>f j - g j) n=fs f n - fs g n
 | 0=>by simp only [fs]; grobner
 | n + 1=>by rw [fs,fs,fs,fs_sub f g n]; grobner
def dotN (m:List Nat) (g:Nat→Nat) (n:Nat):Nat:=fsum (fun j=>m.getD j 0 * g j) n
def asum (f:Nat→Nat):List (Nat × Nat)→Nat
 | []=>0
 | x::l=>f x.1 * x.2 + asum f l
theorem asum_append (f:Nat→Nat):∀ l m,asum f (l ++ m)=asum f l + asum f m
 | [],m=>by rw [List.nil_append,asum,Nat.zero_add]
 | x::l,m=>by rw [List.cons_append,asum,asum,asum_append f l m,Nat.add_assoc]
theorem asum_snoc (f:Nat→Nat) (l:List (Nat × Nat)) (x:Nat × Nat):asum f (l ++ [x])=asum f l + f x.1 * x.2:=by rw [asum_append,asum,asum,Nat.add_zero]
theorem asum_congr {f g:Nat→Nat}:∀ {l:List (Nat × Nat)},(∀ x ∈ l,f x.1=g x.1)→asum f l=asum g l
 | [],_=>rfl
 | x::l,h=>by rw [asum,asum,h x List.mem_cons_self,asum_congr fun y hy=>h y (List.mem_cons_of_mem _ hy)]
theorem asum_toF (f:Nat→Nat):∀ l,toF (asum f l)=sm (fun x:Nat × Nat=>toF (f x.1) * toF x.2) l
 | []=>rfl
 | x::l=>by rw [asum,toF_add,toF_mul,asum_toF f l]; rfl
def ansS (w:Nat) (blk:Nat→List UInt8) (ask:List (Nat × Nat)):List Nat:=(List.range w).map fun j=>asum (fun k=>sy (blk k) j) ask % P
theorem ansS_len (w:Nat) (blk:Nat→List UInt8) (ask:List (Nat × Nat)):(ansS w blk ask).length=w:=by simp [ansS]
theorem ansS_get {w:Nat} {blk:Nat→List UInt8} {ask:List (Nat × Nat)} {j:Nat} (h:j < w):(ansS w blk ask).getD j 0=asum (fun k=>sy (blk k) j) ask % P:=by
 rw [ansS,List.getD_eq_getElem?_getD,List.getElem?_map,List.getElem?_range h]; rfl
theorem fs_sm (m:Nat→F) (s:Nat→Nat→F) (ask:List (Nat × Nat)):∀ n,fs (fun j=>m j * sm (fun x:Nat × Nat=>s x.1 j * toF x.2) ask) n=sm (fun x:Nat × Nat=>fs (fun j=>m j * s x.1 j) n * toF x.2) ask
 | 0=>by
   have:(fun x:Nat × Nat=>fs (fun j=>m j * s x.1 j) 0 * toF x.2)=fun _=>0:=by funext x; simp only [fs]; grobner
   rw [this,sm_zero]; rfl
 | n + 1=>by
   rw [fs,fs_sm m s ask n,← sm_mul,← sm_add]
   exact sm_congr fun x _=>by simp only [fs]; grobner
def accL (m:List Nat) (w:Nat) (blk:Nat→List UInt8) (seed:Nat→Nat) (ask:List (Nat × Nat)):Nat:=dotN m (fun j=>(ansS w blk ask).getD j 0) w + asum seed ask
theorem accL_toF (m:List Nat) (w:Nat) (blk:Nat→List UInt8) (seed:Nat→Nat) (ask:List (Nat × Nat)) :
 toF (accL m w blk seed ask)=sm (fun x:Nat × Nat=>(fs (fun j=>toF (m.getD j 0) * toF (sy (blk x.1) j)) w + toF (seed x.1)) * toF x.2) ask:=by
 unfold accL dotN
 rw [toF_add,fsum_toF,asum_toF]
 have h1:fs (fun j=>toF (m.getD j 0 * (ansS w blk ask).getD j 0)) w=fs (fun j=>toF (m.getD j 0) * sm (fun x:Nat × Nat=>toF (sy (blk x.1) j) * toF x.2) ask) w :=
  fs_congr fun j hj=>by rw [toF_mul,ansS_get hj,toF_mod,asum_toF]
 rw [h1,fs_sm (fun j=>toF (m.getD j 0)) (fun k j=>toF (sy (blk k) j)) ask w,← sm_add]
 exact sm_congr fun x _=>by grobner
def tagN (m:List Nat) (w:Nat) (s:List UInt8) (seed:Nat):Nat:=(seed + dotN m (sy s) w) % P
theorem tagN_toF (m:List Nat) (w:Nat) (s:List UInt8) (seed:Nat):toF (tagN m w s seed)=fs (fun j=>toF (m.getD j 0) * toF (sy s j)) w + toF seed:=by
 rw [tagN,toF_mod,toF_add,dotN,fsum_toF]
 have:fs (fun j=>toF (m.getD j 0 * sy s j)) w=fs (fun j=>toF (m.getD j 0) * toF (sy s j)) w:=fs_congr fun j _=>toF_mul _ _
 rw [this]; grobner
theorem modP_iff (a b:Nat):a % P=b % P↔toF a=toF b:=⟨fun h=>Fin.ext h,fun h=>congrArg Fin.val h⟩
theorem right_ok (m:List Nat) (w:Nat) (blk:Nat→List UInt8) (seed:Nat→Nat) (ask:List (Nat × Nat)) :
 accL m w blk seed ask % P=asum (fun k=>tagN m w (blk k) (seed k)) ask % P:=by
 rw [modP_iff,accL_toF,asum_toF]
 exact sm_congr fun x _=>by rw [tagN_toF]
theorem sm_one {g:Nat→F} {a:Nat}:∀ {l:List (Nat × Nat)},(l.map (·.1)).Nodup→(∀ k,k ≠ a→g k=0) →
 sm (fun x:Nat × Nat=>g x.1 * toF x.2) l=match l.find? (fun x=>x.1 == a) with|some x=>g a * toF x.2|none=>0
 | [],_,_=>rfl
 | x::l,hn,h=>by
   rw [List.map_cons,List.nodup_cons] at hn
   rw [sm,List.find?_cons,sm_one hn.2 h]
   by_cases e:x.1=a
   · have hno:l.find? (fun x=>x.1 == a)=none:=by
      rw [List.find?_eq_none]
      intro y hy hya
      rw [beq_iff_eq] at hya
      exact hn.1 (by rw [e,← hya]; exact List.mem_map_of_mem hy)
     rw [hno,beq_iff_eq.2 e]
     simp only [e]; grobner
   · have e2:(x.1 == a)=false:=by rw [beq_eq_false_iff_ne]; exact e
     rw [e2,h _ e]
     simp only
     grobner
theorem other_ok {m:List Nat} {w:Nat} {blk blk':Nat→List UInt8} {seed:Nat→Nat} {ask:List (Nat × Nat)} {a:Nat} (hn:(ask.map (·.1)).Nodup) (hb:∀ k,k ≠ a→blk' k=blk k) (hy:∀ x ∈ ask,0 < x.2∧x.2 < P) :
 accL m w blk' seed ask % P=asum (fun k=>tagN m w (blk k) (seed k)) ask % P↔(a ∉ ask.map (·.1)∨fs (fun j=>toF (m.getD j 0) * (toF (sy (blk' a) j) - toF (sy (blk a) j))) w=0):=by
 rw [← right_ok,modP_iff,accL_toF,accL_toF]
 have hD:∀ k,fs (fun j=>toF (m.getD j 0) * (toF (sy (blk' k) j) - toF (sy (blk k) j))) w=fs (fun j=>toF (m.getD j 0) * toF (sy (blk' k) j)) w - fs (fun j=>toF (m.getD j 0) * toF (sy (blk k) j)) w:=fun k=>by
  rw [← fs_sub]
  exact fs_congr fun j _=>by grobner
 have hk:∀ k,k ≠ a→fs (fun j=>toF (m.getD j 0) * (toF (sy (blk' k) j) - toF (sy (blk k) j))) w=0:=fun k h=>by
  rw [hD,hb k h]; grobner
 have hsub:sm (fun x:Nat × Nat=>(fs (fun j=>toF (m.getD j 0) * toF (sy (blk' x.1) j)) w + toF (seed x.1)) * toF x.2) ask =
  sm (fun x:Nat × Nat=>(fs (fun j=>toF (m.getD j 0) * toF (sy (blk x.1) j)) w + toF (seed x.1)) * toF x.2) ask + sm (fun x:Nat × Nat=>fs (fun j=>toF (m.getD j 0) * (toF (sy (blk' x.1) j) - toF (sy (blk x.1) j))) w * toF x.2) ask:=by
  rw [← sm_add]
  exact sm_congr fun x _=>by rw [hD]; grobner
 have hone:=sm_one (g:=fun k=>fs (fun j=>toF (m.getD j 0) * (toF (sy (blk' k) j) - toF (sy (blk k) j))) w) hn hk
 rw [hsub,hone]
 generalize fs (fun j=>toF (m.getD j 0) * (toF (sy (blk' a) j) - toF (sy (blk a) j))) w=D
 generalize sm (fun x:Nat × Nat=>(fs (fun j=>toF (m.getD j 0) * toF (sy (blk x.1) j)) w + toF (seed x.1)) * toF x.2) ask=S
 cases hf:ask.find? (fun x=>x.1 == a) with
 | none =>
  simp only
  have:a ∉ ask.map (·.1):=fun h=>by
   obtain ⟨x,hx,e⟩:=List.mem_map.1 h
   exact List.find?_eq_none.1 hf x hx (beq_iff_eq.2 e)
  exact ⟨fun _=>.inl this,fun _=>by grobner⟩
 | some x =>
  simp only
  have hx:=List.mem_of_find?_eq_some hf
  have hxa:x.1=a:=beq_iff_eq.1 (List.find?_some (p:=fun x:Nat × Nat=>x.1 == a) hf)
  have hin:a ∈ ask.map (·.1):=by rw [← hxa]; exact List.mem_map_of_mem hx
  obtain ⟨y0,y1⟩:=hy x hx
  constructor
  · intro h
    right
    have h0:D * toF x.2=0:=by
     have:S + D * toF x.2=S:=h
     grobner
    have h1:(D.val * x.2) % P=0:=by
     have:=congrArg Fin.val h0
     rw [Fin.val_mul,toF_val,Nat.mul_mod_mod] at this
     exact this
    have h2:=P_prime h1 y0 y1
    rw [Nat.mod_eq_of_lt D.isLt] at h2
    exact Fin.ext h2
  · rintro (h|h)
    · exact absurd hin h
    · rw [h]; grobner
end C44
