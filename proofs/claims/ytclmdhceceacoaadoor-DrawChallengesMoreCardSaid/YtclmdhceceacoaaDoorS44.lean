/-
 Shares of a seed,in plain mathematics: what a polynomial's values say of its value at 0,modulo 2147483647.
 Conditions: none; definitions and laws with no program in sight.
-/
import Derived.Test.YtclmdhceceacoaaDoorS02
namespace C44
abbrev P:Nat:=2147483647
abbrev F:=Fin P
def toF (n:Nat):F:=⟨n % P,Nat.mod_lt _ (by decide)⟩
theorem toF_val (n:Nat):(toF n).val=n % P:=rfl
theorem toF_mod (n:Nat):toF (n % P)=toF n:=Fin.ext (Nat.mod_mod _ _)
theorem toF_mul (a b:Nat):toF (a * b)=toF a * toF b:=Fin.ext (by rw [Fin.val_mul,toF_val,toF_val,toF_val,Nat.mul_mod])
theorem toF_add (a b:Nat):toF (a + b)=toF a + toF b:=Fin.ext (by rw [Fin.val_add,toF_val,toF_val,toF_val,Nat.add_mod])
theorem toF_lt {a b:Nat} (h:toF a=toF b) (ha:a < P) (hb:b < P):a=b:=by
 have:=congrArg Fin.val h
 rwa [toF_val,toF_val,Nat.mod_eq_of_lt ha,Nat.mod_eq_of_lt hb] at this
theorem toF_sub {a b:Nat} (hb:b≤P):toF ((a + P - b) % P)=toF a - toF b:=by
 have h:toF ((a + P - b) % P) + toF b=toF a:=by
  rw [toF_mod,← toF_add,show a + P - b + b=a + P from by omega]
  exact Fin.ext (by rw [toF_val,toF_val,Nat.add_mod_right])
 rw [← h]; grobner
theorem val_toF (x:F):toF x.val=x:=Fin.ext (by rw [toF_val]; exact Nat.mod_eq_of_lt x.isLt)
def pw:Nat→F→Nat→F
 | 0,_,_=>1
 | k + 1,x,e=>(if e % 2=1 then x else 1) * pw k (x * x) (e / 2)
theorem pw_mul (y:F):∀ (k:Nat) (x:F) (e:Nat),pw k (x * y) e=pw k x e * pw k y e:=by
 suffices ∀ (k:Nat) (x y:F) (e:Nat),pw k (x * y) e=pw k x e * pw k y e from fun k x e=>this k x y e
 intro k
 induction k with
 | zero=>intro x y e; simp only [pw]; grobner
 | succ k ih =>
  intro x y e
  simp only [pw]
  rw [show x * y * (x * y)=(x * x) * (y * y) from by grobner,ih]
  split<;>grobner
theorem pw_one:∀ (k e:Nat),pw k 1 e=1
 | 0,_=>rfl
 | k + 1,e=>by
   simp only [pw]
   rw [show (1:F) * 1=1 from rfl,pw_one k]
   split<;>rfl
theorem pw_zero:∀ (k:Nat) (x:F),pw k x 0=1
 | 0,_=>rfl
 | k + 1,x=>by
   simp only [pw]
   rw [pw_zero k]; rfl
def iv (x:F):F:=pw 31 x (P - 2)
theorem iv_mul (x y:F):iv (x * y)=iv x * iv y:=pw_mul y 31 x _
theorem iv_one:iv 1=1:=pw_one 31 _
def okPair (x y:F):Bool:=decide ((x - y) * iv (x - y)=1)
set_option maxRecDepth 100000 in
theorem places_ok:(List.range 12).all (fun i=>(List.range 12).all fun j=>i == j || okPair (toF (i + 1)) (toF (j + 1)))=true:=by decide +kernel
theorem place_inv {i j:Nat} (hi:1≤i∧i≤12) (hj:1≤j∧j≤12) (h:i ≠ j):(toF i - toF j) * iv (toF i - toF j)=1:=by
 have h1:=List.all_eq_true.1 places_ok (i - 1) (List.mem_range.2 (by omega))
 have h2:=List.all_eq_true.1 h1 (j - 1) (List.mem_range.2 (by omega))
 rw [show i - 1 + 1=i from by omega,show j - 1 + 1=j from by omega] at h2
 simp only [Bool.or_eq_true,beq_iff_eq] at h2
 rcases h2 with h2|h2
 · omega
 · exact of_decide_eq_true h2
def sm {α:Type} (f:α→F):List α→F
 | []=>0
 | x::l=>f x + sm f l
theorem sm_congr {α:Type} {f g:α→F}:∀ {l:List α},(∀ x ∈ l,f x=g x)→sm f l=sm g l
 | [],_=>rfl
 | x::l,h=>by rw [sm,sm,h x (by simp),sm_congr fun y hy=>h y (by simp [hy])]
theorem sm_add {α:Type} (f g:α→F):∀ l,sm (fun x=>f x + g x) l=sm f l + sm g l
 | []=>by simp only [sm]; grobner
 | x::l=>by rw [sm,sm,sm,sm_add f g l]; grobner
theorem sm_mul {α:Type} (c:F) (f:α→F):∀ l,sm (fun x=>c * f x) l=c * sm f l
 | []=>by simp only [sm]; grobner
 | x::l=>by rw [sm,sm,sm_mul c f l]; grobner
theorem sm_zero {α:Type}:∀ l:List α,sm (fun _=>0) l=0
 | []=>rfl
 | x::l=>by rw [sm,sm_zero l]; rfl
theorem sm_append {α:Type} (f:α→F):∀ l l',sm f (l ++ l')=sm f l + sm f l'
 | [],l'=>by rw [List.nil_append,sm]; grobner
 | x::l,l'=>by rw [List.cons_append,sm,sm,sm_append f l l']; grobner
def pr (x:F):List F→F
 | []=>1
 | y::l=>(if y=x then 1 else y * iv (y - x)) * pr x l
def Apart (l:List F):Prop:=l.Pairwise (fun x y=>x ≠ y∧(x - y) * iv (x - y)=1∧(y - x) * iv (y - x)=1)
theorem pr_cons_ne {x y:F} (h:y ≠ x) (l:List F):pr x (y::l)=y * iv (y - x) * pr x l:=by rw [pr,if_neg h]
theorem pr_cons_self (x:F) (l:List F):pr x (x::l)=pr x l:=by rw [pr,if_pos rfl]; grobner
theorem sm_pr_cons {x:F} {l m:List F} (f:F→F) (h:∀ z ∈ l,z ≠ x):sm (fun z=>f z * pr z (x::m)) l=sm (fun z=>f z * (x * iv (x - z)) * pr z m) l :=
 sm_congr fun z hz=>by rw [pr_cons_ne (fun e=>h z hz e.symm)]; grobner
theorem one_all:∀ (n:Nat) (l:List F),l.length=n + 1→Apart l→sm (fun z=>pr z l) l=1:=by
 intro n
 induction n with
 | zero =>
  intro l hl _
  match l,hl with
  | [x],_=>simp only [sm,pr_cons_self,pr]; grobner
 | succ n ih =>
  intro l hl ha
  match l,hl with
  | x::y::A,hl =>
   have hA:A.length=n:=by simpa using hl
   simp only [Apart,List.pairwise_cons,List.mem_cons,forall_eq_or_imp] at ha
   obtain ⟨⟨⟨hxy,e1,e2⟩,hx⟩,hy,hAA⟩:=ha
   have h1:=ih (x::A) (by simp [hA]) (by simp only [Apart,List.pairwise_cons]; exact ⟨hx,hAA⟩)
   have h2:=ih (y::A) (by simp [hA]) (by simp only [Apart,List.pairwise_cons]; exact ⟨hy,hAA⟩)
   simp only [sm] at h1 h2 ⊢
   rw [pr_cons_self] at h1 h2
   rw [pr_cons_self,pr_cons_ne (fun e=>hxy e.symm),pr_cons_ne hxy,pr_cons_self]
   have g1:sm (fun z=>pr z (x::A)) A=sm (fun z=>x * iv (x - z) * pr z A) A:=sm_congr fun z hz=>pr_cons_ne (fun e=>(hx z hz).1 e) A
   have g2:sm (fun z=>pr z (y::A)) A=sm (fun z=>y * iv (y - z) * pr z A) A:=sm_congr fun z hz=>pr_cons_ne (fun e=>(hy z hz).1 e) A
   have g3:sm (fun z=>pr z (x::y::A)) A=sm (fun z=>x * iv (x - z) * (y * iv (y - z)) * pr z A) A:=sm_congr fun z hz=>by
    rw [pr_cons_ne (fun e=>(hx z hz).1 e),pr_cons_ne (fun e=>(hy z hz).1 e)]; grobner
   have g4:(y - x) * sm (fun z=>x * iv (x - z) * (y * iv (y - z)) * pr z A) A=y * sm (fun z=>x * iv (x - z) * pr z A) A + (0 - x) * sm (fun z=>y * iv (y - z) * pr z A) A:=by
    rw [← sm_mul,← sm_mul,← sm_mul,← sm_add]
    refine sm_congr fun z hz=>?_
    have k1:=(hx z hz).2.1
    have k2:=(hy z hz).2.1
    grobner
   rw [g1] at h1
   rw [g2] at h2
   rw [g3]
   generalize sm (fun z=>x * iv (x - z) * (y * iv (y - z)) * pr z A) A=S at g4 ⊢
   generalize sm (fun z=>x * iv (x - z) * pr z A) A=S1 at g4 h1
   generalize sm (fun z=>y * iv (y - z) * pr z A) A=S2 at g4 h2
   generalize pr x A=px at *
   generalize pr y A=py at *
   grobner
theorem pow_all:∀ (k:Nat) (l:List F),k + 1 < l.length→Apart l→sm (fun z=>z ^ (k + 1) * pr z l) l=0:=by
 intro k
 induction k with
 | zero =>
  intro l hl ha
  match l,hl with
  | x::xs,hl =>
   simp only [List.length_cons] at hl
   have ha':=ha
   simp only [Apart,List.pairwise_cons] at ha
   obtain ⟨hx,hxs⟩:=ha
   have hn:xs.length=(xs.length - 1) + 1:=by omega
   have h1:=one_all xs.length (x::xs) rfl ha'
   have h2:=one_all (xs.length - 1) xs hn hxs
   simp only [sm,pr_cons_self] at h1 ⊢
   have g1:sm (fun z=>pr z (x::xs)) xs=sm (fun z=>x * iv (x - z) * pr z xs) xs:=sm_congr fun z hz=>pr_cons_ne (fun e=>(hx z hz).1 e) xs
   have g2:sm (fun z=>z ^ (0 + 1) * pr z (x::xs)) xs=x * sm (fun z=>x * iv (x - z) * pr z xs) xs + (0 - x) * sm (fun z=>pr z xs) xs:=by
    rw [← sm_mul,← sm_mul,← sm_add]
    refine sm_congr fun z hz=>?_
    rw [pr_cons_ne (fun e=>(hx z hz).1 e)]
    have k1:=(hx z hz).2.1
    grobner
   rw [g1] at h1
   rw [g2]
   generalize sm (fun z=>x * iv (x - z) * pr z xs) xs=S at *
   grobner
 | succ k ih =>
  intro l hl ha
  match l,hl with
  | x::xs,hl =>
   simp only [List.length_cons] at hl
   have ha':=ha
   simp only [Apart,List.pairwise_cons] at ha
   obtain ⟨hx,hxs⟩:=ha
   have h1:=ih (x::xs) (by simp only [List.length_cons]; omega) ha'
   have h2:=ih xs (by omega) hxs
   simp only [sm,pr_cons_self] at h1 ⊢
   have g1:sm (fun z=>z ^ (k + 1) * pr z (x::xs)) xs=sm (fun z=>z ^ (k + 1) * (x * iv (x - z)) * pr z xs) xs:=sm_pr_cons _ fun z hz e=>(hx z hz).1 e.symm
   have g2:sm (fun z=>z ^ (k + 1 + 1) * pr z (x::xs)) xs=x * sm (fun z=>z ^ (k + 1) * (x * iv (x - z)) * pr z xs) xs + (0 - x) * sm (fun z=>z ^ (k + 1) * pr z xs) xs:=by
    rw [← sm_mul,← sm_mul,← sm_add]
    refine sm_congr fun z hz=>?_
    rw [pr_cons_ne (fun e=>(hx z hz).1 e)]
    have k1:=(hx z hz).2.1
    have k2:z ^ (k + 1 + 1)=z ^ (k + 1) * z:=by grobner
    rw [k2]
    generalize z ^ (k + 1)=w
    grobner
   rw [g1] at h1
   rw [g2,h2]
   have k3:x ^ (k + 1 + 1)=x ^ (k + 1) * x:=by grobner
   rw [k3]
   generalize sm (fun z=>z ^ (k + 1) * (x * iv (x - z)) * pr z xs) xs=S at *
   generalize x ^ (k + 1)=w at *
   grobner
def ev (c:Nat→F) (n:Nat) (x:F):F:=sm (fun k=>c k * x ^ k) (List.range n)
theorem zero_of {l:List F} (ha:Apart l) {n:Nat} (hn:n≤l.length) (h0:0 < n) (c:Nat→F):sm (fun x=>ev c n x * pr x l) l=c 0:=by
 have key:∀ m,m≤n→sm (fun x=>ev c m x * pr x l) l=if m=0 then 0 else c 0:=by
  intro m
  induction m with
  | zero =>
   intro _
   rw [if_pos rfl]
   have:sm (fun x=>ev c 0 x * pr x l) l=sm (fun _=>0) l:=sm_congr fun x _=>by simp only [ev,List.range_zero,sm]; grobner
   rw [this,sm_zero]
  | succ m ih =>
   intro hm
   rw [if_neg (by omega)]
   have e:sm (fun x=>ev c (m + 1) x * pr x l) l=sm (fun x=>ev c m x * pr x l) l + c m * sm (fun x=>x ^ m * pr x l) l:=by
    rw [← sm_mul,← sm_add]
    refine sm_congr fun x _=>?_
    simp only [ev,List.range_succ,sm_append,sm]
    grobner
   rw [e,ih (by omega)]
   cases m with
   | zero =>
    have h1:=one_all (l.length - 1) l (by omega) ha
    have:sm (fun x=>x ^ 0 * pr x l) l=sm (fun x=>pr x l) l:=sm_congr fun x _=>by grobner
    rw [this,h1,if_pos rfl]; grobner
   | succ m =>
    rw [pow_all m l (by omega) ha,if_neg (by omega)]; grobner
 rw [key n (Nat.le_refl _),if_neg (by omega)]
end C44
/-
 The number of a digest,and shares,in plain mathematics.
 Conditions: none; definitions and laws with no program in sight.
-/
namespace C44
open CW CH
def be (l:List UInt8):Nat:=l.foldl (fun n b=>n * 256 + b.toNat) 0
theorem be_snoc (l:List UInt8) (b:UInt8):be (l ++ [b])=be l * 256 + b.toNat:=by rw [be,List.foldl_append]; rfl
theorem be_lt:∀ (l:List UInt8),be l < 256 ^ l.length:=by
 suffices ∀ (l:List UInt8) (n m:Nat),n < 256 ^ m→l.foldl (fun n b=>n * 256 + b.toNat) n < 256 ^ (m + l.length) from fun l=>by have:=this l 0 0 (by decide); rwa [Nat.zero_add] at this
 intro l
 induction l with
 | nil=>intro n m h; exact h
 | cons b l ih =>
  intro n m h
  rw [List.foldl_cons,List.length_cons,show m + (l.length + 1)=(m + 1) + l.length from by omega]
  refine ih _ _ ?_
  have:=b.toNat_lt
  rw [Nat.pow_succ]
  have:n * 256 + 256≤256 ^ m * 256:=by have:=Nat.mul_le_mul_right 256 (Nat.succ_le_of_lt h); rw [Nat.succ_mul] at this; exact this
  omega
def red (d:List UInt8):Nat:=be (d.take 8) % P
theorem red_lt (d:List UInt8):red d < P:=Nat.mod_lt _ (by decide)
def cf (h s:Nat):Nat→Nat
 | 0=>s
 | k + 1=>red (dig 192 ([(h:Int),(s:Int),((k + 1:Nat):Int)].map intB))
theorem cf_lt {h s:Nat} (hs:s < P) (k:Nat):cf h s k < P:=by
 cases k with
 | zero=>exact hs
 | succ k=>exact red_lt _
def shr (h s i:Nat):Nat→Nat
 | 0=>0
 | k + 1=>(shr h s i k + cf h s k * (i ^ k % P)) % P
theorem shr_lt (h s i:Nat):∀ k,shr h s i k < P
 | 0=>by show 0 < P; decide
 | k + 1=>Nat.mod_lt _ (by decide)
theorem toF_pow (a:Nat):∀ k,toF (a ^ k)=toF a ^ k
 | 0=>by show toF (a ^ 0)=toF a ^ 0; rw [Nat.pow_zero]; show (1:F)=_; grobner
 | k + 1=>by rw [Nat.pow_succ,toF_mul,toF_pow a k]; grobner
theorem shr_ev (h s i:Nat):∀ n,toF (shr h s i n)=ev (fun k=>toF (cf h s k)) n (toF i)
 | 0=>rfl
 | n + 1=>by
   rw [shr,toF_mod,toF_add,shr_ev h s i n,toF_mul,toF_mod,toF_pow]
   simp only [ev,List.range_succ,sm_append,sm]
   grobner
def hor (c:Nat→Nat) (i:Nat):Nat→Nat→Nat
 | 0,s=>s
 | k + 1,s=>hor c i k ((s * i + c k) % P)
theorem hor_ev (c:Nat→Nat) (i:Nat):∀ (k s:Nat),toF (hor c i k s)=toF s * toF i ^ k + ev (fun k=>toF (c k)) k (toF i)
 | 0,s=>by simp only [hor,ev,List.range_zero,sm]; grobner
 | k + 1,s=>by
   rw [hor,hor_ev c i k,toF_mod,toF_add,toF_mul]
   simp only [ev,List.range_succ,sm_append,sm]
   grobner
theorem hor_lt (c:Nat→Nat) (i:Nat):∀ (k s:Nat),s < P→hor c i k s < P
 | 0,s,h=>h
 | k + 1,s,h=>hor_lt c i k _ (Nat.mod_lt _ (by decide))
theorem hor_shr (h s i n:Nat):hor (cf h s) i n 0=shr h s i n:=by
 refine toF_lt ?_ (hor_lt _ _ _ _ (by decide)) (shr_lt _ _ _ _)
 rw [hor_ev,shr_ev]
 have:toF 0=0:=rfl
 rw [this]; grobner
end C44
/-
 Layer 44,plain: the value at 0 from pieces,as the program and as the reference count it.
-/
namespace C44
def prU (x:F):List F→F
 | []=>1
 | y::l=>if y=x then prU x l else y * prU x l
def prD (x:F):List F→F
 | []=>1
 | y::l=>if y=x then prD x l else (y - x) * prD x l
theorem pr_split (x:F):∀ l,pr x l=prU x l * iv (prD x l)
 | []=>by rw [pr,prU,prD,iv_one]; grobner
 | y::l=>by
   rw [pr,prU,prD,pr_split x l]
   split
   · grobner
   · rw [iv_mul]; grobner
theorem prU_snoc (x y:F):∀ l,prU x (l ++ [y])=prU x l * (if y=x then 1 else y)
 | []=>by simp only [List.nil_append,prU]; split<;>grobner
 | z::l=>by simp only [List.cons_append,prU,prU_snoc x y l]; split<;>grobner
theorem prD_snoc (x y:F):∀ l,prD x (l ++ [y])=prD x l * (if y=x then 1 else y - x)
 | []=>by simp only [List.nil_append,prD]; split<;>grobner
 | z::l=>by simp only [List.cons_append,prD,prD_snoc x y l]; split<;>grobner
def zer (l:List (Nat × Nat)):Nat:=(sm (fun p=>toF p.2 * pr (toF p.1) (l.map fun q=>toF q.1)) l).val
theorem zer_lt (l:List (Nat × Nat)):zer l < P:=Fin.isLt _
end C44
