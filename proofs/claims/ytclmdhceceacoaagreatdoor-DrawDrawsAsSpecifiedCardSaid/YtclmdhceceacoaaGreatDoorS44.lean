/-
 Shares of a seed,in plain mathematics: what a polynomial's values say of its value at 0,modulo 2147483647.
 Conditions: none; definitions and laws with no program in sight.
-/
import Derived.Test.YtclmdhceceacoaaGreatDoorS02
namespace C44
abbrev P:Nat:=2147483647
abbrev F:=Fin P
def toF (n:Nat):F:=⟨n % P,Nat.mod_lt _ (by decide)⟩
theorem toF_val (n:Nat):(toF n).val=n % P:=rfl
theorem toF_mod (n:Nat):toF (n % P)=toF n:=Fin.ext (Nat.mod_mod _ _)
theorem toF_mul (a b:Nat):toF (a * b)=toF a * toF b:=Fin.ext (by rw [Fin.val_mul,toF_val,toF_val,toF_val,Nat.mul_mod])
theorem toF_add (a b:Nat):toF (a + b)=toF a + toF b:=Fin.ext (by rw [Fin.val_add,toF_val,toF_val,toF_val,Nat.add_mod])
theorem toF_lt {a b:Nat} (h:toF a=toF b) (ha:a < P) (hb:b < P):a=b:=by
 have:=congrArg Fin.val h
 rwa [toF_val,toF_val,Nat.mod_eq_of_lt ha,Nat.mod_eq_of_lt hb] at this
theorem toF_sub {a b:Nat} (hb:b≤P):toF ((a + P - b) % P)=toF a - toF b:=by
 have h:toF ((a + P - b) % P) + toF b=toF a:=by
  rw [toF_mod,← toF_add,show a + P - b + b=a + P from by omega]
  exact Fin.ext (by rw [toF_val,toF_val,Nat.add_mod_right])
 rw [← h]; grobner
theorem val_toF (x:F):toF x.val=x:=Fin.ext (by rw [toF_val]; exact Nat.mod_eq_of_lt x.isLt)
def pw:Nat→F→Nat→F
 | 0,_,_=>1
 | k + 1,x,e=>(if e % 2=1 then x else 1) * pw k (x * x) (e / 2)
theorem pw_mul (y:F):∀ (k:Nat) (x:F) (e:Nat),pw k (x * y) e=pw k x e * pw k y e:=by
 suffices ∀ (k:Nat) (x y:F) (e:Nat),pw k (x * y) e=pw k x e * pw k y e from fun k x e=>this k x y e
 intro k
 induction k with
 | zero=>intro x y e; simp only [pw]; grobner
 | succ k ih =>
  intro x y e
  simp only [pw]
  rw [show x * y * (x * y)=(x * x) * (y * y) from by grobner,ih]
  split<;>grobner
theorem pw_one:∀ (k e:Nat),pw k 1 e=1
 | 0,_=>rfl
 | k + 1,e=>by
   simp only [pw]
   rw [show (1:F) * 1=1 from rfl,pw_one k]
   split<;>rfl
theorem pw_zero:∀ (k:Nat) (x:F),pw k x 0=1
 | 0,_=>rfl
 | k + 1,x=>by
   simp only [pw]
   rw [pw_zero k]; rfl
def iv (x:F):F:=pw 31 x (P - 2)
theorem iv_mul (x y:F):iv (x * y)=iv x * iv y:=pw_mul y 31 x _
theorem iv_one:iv 1=1:=pw_one 31 _
def okPair (x y:F):Bool:=decide ((x - y) * iv (x - y)=1)
set_option maxRecDepth 100000 in
theorem places_ok:(List.range 12).all (fun i=>(List.range 12).all fun j=>i == j || okPair (toF (i + 1)) (toF (j + 1)))=true:=by decide +kernel
def sm {α:Type} (f:α→F):List α→F
 | []=>0
 | x::l=>f x + sm f l
theorem sm_append {α:Type} (f:α→F):∀ l l',sm f (l ++ l')=sm f l + sm f l'
 | [],l'=>by rw [List.nil_append,sm]; grobner
 | x::l,l'=>by rw [List.cons_append,sm,sm,sm_append f l l']; grobner
def pr (x:F):List F→F
 | []=>1
 | y::l=>(if y=x then 1 else y * iv (y - x)) * pr x l
def ev (c:Nat→F) (n:Nat) (x:F):F:=sm (fun k=>c k * x ^ k) (List.range n)
end C44
/-
 The number of a digest,and shares,in plain mathematics.
 Conditions: none; definitions and laws with no program in sight.
-/
namespace C44
open CW CH
def be (l:List UInt8):Nat:=l.foldl (fun n b=>n * 256 + b.toNat) 0
theorem be_snoc (l:List UInt8) (b:UInt8):be (l ++ [b])=be l * 256 + b.toNat:=by rw [be,List.foldl_append]; rfl
theorem be_lt:∀ (l:List UInt8),be l < 256 ^ l.length:=by
 suffices ∀ (l:List UInt8) (n m:Nat),n < 256 ^ m→l.foldl (fun n b=>n * 256 + b.toNat) n < 256 ^ (m + l.length) from fun l=>by have:=this l 0 0 (by decide); rwa [Nat.zero_add] at this
 intro l
 induction l with
 | nil=>intro n m h; exact h
 | cons b l ih =>
  intro n m h
  rw [List.foldl_cons,List.length_cons,show m + (l.length + 1)=(m + 1) + l.length from by omega]
  refine ih _ _ ?_
  have:=b.toNat_lt
  rw [Nat.pow_succ]
  have:n * 256 + 256≤256 ^ m * 256:=by have:=Nat.mul_le_mul_right 256 (Nat.succ_le_of_lt h); rw [Nat.succ_mul] at this; exact this
  omega
def red (d:List UInt8):Nat:=be (d.take 8) % P
theorem red_lt (d:List UInt8):red d < P:=Nat.mod_lt _ (by decide)
def cf (h s:Nat):Nat→Nat
 | 0=>s
 | k + 1=>red (dig 192 ([(h:Int),(s:Int),((k + 1:Nat):Int)].map intB))
theorem cf_lt {h s:Nat} (hs:s < P) (k:Nat):cf h s k < P:=by
 cases k with
 | zero=>exact hs
 | succ k=>exact red_lt _
def shr (h s i:Nat):Nat→Nat
 | 0=>0
 | k + 1=>(shr h s i k + cf h s k * (i ^ k % P)) % P
theorem shr_lt (h s i:Nat):∀ k,shr h s i k < P
 | 0=>by show 0 < P; decide
 | k + 1=>Nat.mod_lt _ (by decide)
theorem toF_pow (a:Nat):∀ k,toF (a ^ k)=toF a ^ k
 | 0=>by show toF (a ^ 0)=toF a ^ 0; rw [Nat.pow_zero]; show (1:F)=_; grobner
 | k + 1=>by rw [Nat.pow_succ,toF_mul,toF_pow a k]; grobner
theorem shr_ev (h s i:Nat):∀ n,toF (shr h s i n)=ev (fun k=>toF (cf h s k)) n (toF i)
 | 0=>rfl
 | n + 1=>by
   rw [shr,toF_mod,toF_add,shr_ev h s i n,toF_mul,toF_mod,toF_pow]
   simp only [ev,List.range_succ,sm_append,sm]
   grobner
def hor (c:Nat→Nat) (i:Nat):Nat→Nat→Nat
 | 0,s=>s
 | k + 1,s=>hor c i k ((s * i + c k) % P)
theorem hor_ev (c:Nat→Nat) (i:Nat):∀ (k s:Nat),toF (hor c i k s)=toF s * toF i ^ k + ev (fun k=>toF (c k)) k (toF i)
 | 0,s=>by simp only [hor,ev,List.range_zero,sm]; grobner
 | k + 1,s=>by
   rw [hor,hor_ev c i k,toF_mod,toF_add,toF_mul]
   simp only [ev,List.range_succ,sm_append,sm]
   grobner
theorem hor_lt (c:Nat→Nat) (i:Nat):∀ (k s:Nat),s < P→hor c i k s < P
 | 0,s,h=>h
 | k + 1,s,h=>hor_lt c i k _ (Nat.mod_lt _ (by decide))
theorem hor_shr (h s i n:Nat):hor (cf h s) i n 0=shr h s i n:=by
 refine toF_lt ?_ (hor_lt _ _ _ _ (by decide)) (shr_lt _ _ _ _)
 rw [hor_ev,shr_ev]
 have:toF 0=0:=rfl
 rw [this]; grobner
end C44
/-
 Layer 44,plain: the value at 0 from pieces,as the program and as the reference count it.
-/
namespace C44
def prU (x:F):List F→F
 | []=>1
 | y::l=>if y=x then prU x l else y * prU x l
def prD (x:F):List F→F
 | []=>1
 | y::l=>if y=x then prD x l else (y - x) * prD x l
theorem pr_split (x:F):∀ l,pr x l=prU x l * iv (prD x l)
 | []=>by rw [pr,prU,prD,iv_one]; grobner
 | y::l=>by
   rw [pr,prU,prD,pr_split x l]
   split
   · grobner
   · rw [iv_mul]; grobner
theorem prU_snoc (x y:F):∀ l,prU x (l ++ [y])=prU x l * (if y=x then 1 else y)
 | []=>by simp only [List.nil_append,prU]; split<;>grobner
 | z::l=>by simp only [List.cons_append,prU,prU_snoc x y l]; split<;>grobner
theorem prD_snoc (x y:F):∀ l,prD x (l ++ [y])=prD x l * (if y=x then 1 else y - x)
 | []=>by simp only [List.nil_append,prD]; split<;>grobner
 | z::l=>by simp only [List.cons_append,prD,prD_snoc x y l]; split<;>grobner
theorem pr_snoc (x y:F):∀ l,pr x (l ++ [y])=pr x l * (if y=x then 1 else y * iv (y - x))
 | []=>by simp only [List.nil_append,pr]; split<;>grobner
 | z::l=>by simp only [List.cons_append,pr,pr_snoc x y l]; split<;>grobner
def zer (l:List (Nat × Nat)):Nat:=(sm (fun p=>toF p.2 * pr (toF p.1) (l.map fun q=>toF q.1)) l).val
theorem zer_lt (l:List (Nat × Nat)):zer l < P:=Fin.isLt _
end C44
