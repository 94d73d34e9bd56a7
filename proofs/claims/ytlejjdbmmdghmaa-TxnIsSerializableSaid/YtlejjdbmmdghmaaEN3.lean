/-
 Rules by which a region is run on what its slots hold.
 Conditions: none;definitions and laws.
-/
import Derived.Test.YtlejjdbmmdghmaaEN1
import Derived.Lib.Overlaps
namespace Go.E2
def E:List (Nat×AV)→Env
 | [],_=>.undef
 | (i,v)::l,j=>if j=i then v else E l j
def HB:List (Nat×Blk)→Hp
 | [],_=>⟨0,none⟩
 | (i,b)::l,j=>if j=i then b else HB l j
def zo5:List (Nat×Blk)→Nat→Blk→List (Nat×Blk)
 | [],s,b=>[(s,b)]
 | (i,c)::l,s,b=>if s=i then (s,b)::l else (i,c)::zo5 l s b
@[go_sem] theorem E_nil (j:Nat):E [] j=.undef:=rfl
@[go_sem] theorem E_cons (i j:Nat) (v:AV) (l:List (Nat×AV)):E ((i,v)::l) j=if j=i then v else E l j:=rfl
@[go_sem] theorem HB_nil (j:Nat):HB [] j=⟨0,none⟩:=rfl
@[go_sem] theorem z8r (i j:Nat) (b:Blk) (l:List (Nat×Blk)):HB ((i,b)::l) j=if j=i then b else HB l j:=rfl
@[go_sem] theorem z6d (s:Nat) (b:Blk):zo5 [] s b=[(s,b)]:=rfl
@[go_sem] theorem z3l (i s:Nat) (b c:Blk) (l:List (Nat×Blk)):zo5 ((i,c)::l) s b=if s=i then (s,b)::l else (i,c)::zo5 l s b:=rfl
theorem ztz (l:List (Nat×AV)) (d:Nat) (v:AV):upd (E l) d v=E ((d,v)::l):=rfl
theorem zt0 (l:List (Nat×Blk)) (s:Nat) (b:Blk):upd (HB l) s b=HB (zo5 l s b):=by
 induction l with
 | nil=>rfl
 | cons p l ih =>
  obtain ⟨i,c⟩:=p
  funext j
  simp only [zo5]
  by_cases h:s=i
  · subst h
    rw [if_pos rfl]
    by_cases hj:j=s<;>simp [upd,HB,hj]
  · rw [if_neg h]
    have e:=congrFun ih j
    by_cases hj:j=s
    · subst hj
      simp [upd] at e
      simp [upd,HB,h,← e]
    · simp [upd,hj] at e
      simp [upd,HB,hj,← e]
def zqh (n:Nat):List AV→List (Nat×AV)
 | []=>[]
 | v::vs=>(n,v)::zqh (n+1) vs
theorem zqi:∀ (vs:List AV) (n i:Nat),E (zqh n vs) i=if n≤i then vs.getD (i - n) .undef else .undef
 | [],n,i=>by simp [zqh,E]
 | v::vs,n,i=>by
   simp only [zqh,E]
   by_cases h:i=n
   · subst h;simp
   · rw [if_neg h,zqi vs (n+1) i]
     by_cases h1:n≤i
     · have:n+1≤i:=by omega
       rw [if_pos h1,if_pos this]
       obtain ⟨k,rfl⟩:∃ k,i=n+1+k:=⟨i - (n+1),by omega⟩
       have e1:n+1+k - n=k+1:=by omega
       have e2:n+1+k - (n+1)=k:=by omega
       rw [e1,e2];simp
     · have:¬ n+1≤i:=by omega
       rw [if_neg h1,if_neg this]
theorem zzn (vs:List AV):ofL vs=E (zqh 0 vs):=by
 funext i;rw [zqi];simp [ofL]
@[go_sem] theorem z6e (n:Nat):zqh n []=[]:=rfl
@[go_sem] theorem z3m (n:Nat) (v:AV) (vs:List AV):zqh n (v::vs)=(n,v)::zqh (n+1) vs:=rfl
structure zn {α:Type} (a:α):Type where
 mk ::
def wV (v:AV) {k:AV→Prop} (_:zn k):Prop:=k v
def wL (cs:List D) {k:List D→Prop} (_:zn k):Prop:=k cs
def wN (n:Nat) {k:Nat→Prop} (_:zn k):Prop:=k n
def wH (h:List (Nat×Blk)) {k:List (Nat×Blk)→Prop} (_:zn k):Prop:=k h
def wO (o:Option AV) {k:AV→Prop} (_:zn k):Prop:=∃ v,o=some v∧k v
def wD (o:Option D) {k:D→Prop} (_:zn k):Prop:=∃ v,o=some v∧k v
def wB (o:Option (List D)) {k:List D→Prop} (_:zn k):Prop:=∃ v,o=some v∧k v
def wT (b:Bool) {p:Prop} (_:zn p):Prop:=b=true∧p
def wP (c:Prop) {p:Prop} (_:zn p):Prop:=c∧p
def wG (v:AV) (want:Bool) {k1 k2:Prop} (_:zn k1) (_:zn k2):Prop:=∃ r,zh0 v want=some r∧if r=true then k1 else k2
section
variable {v v':AV} {k:AV→Prop} {o o':Option AV} {b b':Bool} {p:Prop}
@[go_sem] theorem wV_eq (h:zn k):wV v h=k v:=rfl
@[go_sem] theorem wL_eq (c:List D) {k:List D→Prop} (h:zn k):wL c h=k c:=rfl
@[go_sem] theorem wN_eq (c:Nat) {k:Nat→Prop} (h:zn k):wN c h=k c:=rfl
@[go_sem] theorem wH_eq (c:List (Nat×Blk)) {k:List (Nat×Blk)→Prop} (h:zn k):wH c h=k c:=rfl
@[go_sem] theorem z8s (h:zn k):wO (some v) h=k v:=by simp [wO]
@[go_sem] theorem z8t (x:D) {k:D→Prop} (h:zn k):wD (some x) h=k x:=by simp [wD]
@[go_sem] theorem z8u (x:List D) {k:List D→Prop} (h:zn k):wB (some x) h=k x:=by simp [wB]
@[go_sem] theorem z8v (h:zn p):wT true h=p:=by simp [wT]
@[go_sem] theorem z8w (h:zn p):wP True h=p:=by simp [wP]
@[go_sem] theorem z8x {k1 k2:Prop} (h1:zn k1) (h2:zn k2):wG (.d (.bool true)) true h1 h2=k1:=by simp [wG,zh0]
@[go_sem] theorem z8y {k1 k2:Prop} (h1:zn k1) (h2:zn k2):wG (.d (.bool false)) false h1 h2=k1:=by simp [wG,zh0]
@[go_sem] theorem z8z {k1 k2:Prop} (h1:zn k1) (h2:zn k2):wG (.d (.bool true)) false h1 h2=k2:=by simp [wG,zh0]
@[go_sem] theorem z80 {k1 k2:Prop} (h1:zn k1) (h2:zn k2):wG (.d (.bool false)) true h1 h2=k2:=by simp [wG,zh0]
@[go_sem] theorem wG_skp {want:Bool} {k1 k2:Prop} (h1:zn k1) (h2:zn k2):wG .skp want h1 h2=k2:=by simp [wG,zh0]
theorem wG_t {b:Bool} {k1 k2:Prop} {i1:zn k1} {i2:zn k2} (h1:b=true→k1) (h2:b=false→k2):wG (.d (.bool b)) true i1 i2:=by
 cases b
 · rw [z80];exact h2 rfl
 · rw [z8x];exact h1 rfl
theorem wG_f {b:Bool} {k1 k2:Prop} {i1:zn k1} {i2:zn k2} (h1:b=false→k1) (h2:b=true→k2):wG (.d (.bool b)) false i1 i2:=by
 cases b
 · rw [z8y];exact h1 rfl
 · rw [z8z];exact h2 rfl
theorem z81 {c:Prop} {h:zn p} (hc:c) (hk:p):wP c h:=⟨hc,hk⟩
end
@[go_sem] theorem data_d (x:D):(AV.d x).data=some x:=rfl
@[go_sem] theorem z6f (sz:Nat) (es:List D):(AV.own sz es).data=some (.list es):=rfl
@[go_sem] theorem cp_d (x:D):(AV.d x).cp=.d x:=rfl
@[go_sem] theorem cp_own (sz:Nat) (es:List D):(AV.own sz es).cp=.d (.list es):=rfl
@[go_sem] theorem cp_ptr (k s g off:Nat):(AV.ptr k s g off).cp=.ptr k s g off:=rfl
@[go_sem] theorem z82 (cs:List D):(AV.cptr cs).cp=.cptr cs:=rfl
@[go_sem] theorem z83 (f:FuncId) (c:List (Nat×Nat×Nat)):(AV.func f c).cp=.func f c:=rfl
@[go_sem] theorem cp_tup (xs:List D):(AV.tup xs).cp=.tup xs:=rfl
@[go_sem] theorem cp_skp:AV.skp.cp=.skp:=rfl
@[go_sem] theorem z6g:AV.undef.cp=.undef:=rfl
@[go_sem] theorem ev_t (ρ:Env) (i:Nat):ev ρ (.t i)=ρ i:=rfl
@[go_sem] theorem ev_c (ρ:Env) (x:D):ev ρ (.c x)=.d x:=rfl
@[go_sem] theorem zr7 (l:List (Nat×AV)) (d:Nat) (v:AV):put (E l) (some d) v=E ((d,v)::l):=rfl
@[go_sem] theorem z6h (ρ:Env) (v:AV):put ρ none v=ρ:=rfl
@[go_sem] theorem blk_0 (h:Hp) (σ:List Hp) (s g:Nat):blk (h::σ) 0 s g=if (h s).g=g then (h s).c else none:=rfl
@[go_sem] theorem z84 (h:Hp) (σ:List Hp) (k s g:Nat):blk (h::σ) (k+1) s g=blk σ k s g:=rfl
@[go_sem] theorem blk_1 (h:Hp) (σ:List Hp) (s g:Nat):blk (h::σ) 1 s g=blk σ 0 s g:=rfl
@[go_sem] theorem blk_2 (h:Hp) (σ:List Hp) (s g:Nat):blk (h::σ) 2 s g=blk σ 1 s g:=rfl
@[go_sem] theorem blk_3 (h:Hp) (σ:List Hp) (s g:Nat):blk (h::σ) 3 s g=blk σ 2 s g:=rfl
def wS (n:Nat) (pa:AV) (y:Option D) (r:Root) (h:List (Nat×Blk)) (σ:List Hp) (G:Gh) {k:Hp→List Hp→Gh→Prop} (_:zn k):Prop :=
 match pa,y with
 | .ptr 0 s g off,some y=>wT (zbw r 0 s && za n y) (zn.mk (a:=wB (blk (HB h::σ) 0 s g) (zn.mk (a:=fun cs=>wP (off+n≤cs.length) (zn.mk (a:=wL (zbb cs y.cells off) (zn.mk (a:=fun cs'=>wH (zo5 h s ⟨g,some cs'⟩) (zn.mk (a:=fun h'=>k (HB h') σ G))))))))))
 | .ptr (i+1) s g off,some y=>wT (zbw r (i+1) s && za n y) (zn.mk (a:=wB (blk σ i s g) (zn.mk (a:=fun cs=>wP (off+n≤cs.length) (zn.mk (a:=wL (zbb cs y.cells off) (zn.mk (a:=fun cs'=>∃ h0,σ[i]?=some h0∧k (HB h) (σ.set i (upd h0 s ⟨g,some cs'⟩)) G))))))))
 | .d (.gp b off),some y=>wT (r.foreignOk && za n y) (zn.mk (a:=wB (G b) (zn.mk (a:=fun cs=>wP (off+n≤cs.length) (zn.mk (a:=wL (zbb cs y.cells off) (zn.mk (a:=fun cs'=>k (HB h) σ (G.set b (some cs'))))))))))
 | _,_=>False
@[go_sem] theorem wS_0 (n s g off:Nat) (y:D) (r:Root) (h:List (Nat×Blk)) (σ:List Hp) (G:Gh) {k:Hp→List Hp→Gh→Prop} (hk:zn k):wS n (.ptr 0 s g off) (some y) r h σ G hk =
  wT (zbw r 0 s && za n y) (zn.mk (a:=wB (blk (HB h::σ) 0 s g) (zn.mk (a:=fun cs=>wP (off+n≤cs.length) (zn.mk (a:=wL (zbb cs y.cells off) (zn.mk (a:=fun cs'=>wH (zo5 h s ⟨g,some cs'⟩) (zn.mk (a:=fun h'=>k (HB h') σ G)))))))))):=rfl
@[go_sem] theorem wS_s (n i s g off:Nat) (y:D) (r:Root) (h:List (Nat×Blk)) (σ:List Hp) (G:Gh) {k:Hp→List Hp→Gh→Prop} (hk:zn k):wS n (.ptr (i+1) s g off) (some y) r h σ G hk =
  wT (zbw r (i+1) s && za n y) (zn.mk (a:=wB (blk σ i s g) (zn.mk (a:=fun cs=>wP (off+n≤cs.length) (zn.mk (a:=wL (zbb cs y.cells off) (zn.mk (a:=fun cs'=>∃ h0,σ[i]?=some h0∧k (HB h) (σ.set i (upd h0 s ⟨g,some cs'⟩)) G)))))))):=rfl
@[go_sem] theorem wS_gp (n b off:Nat) (y:D) (r:Root) (h:List (Nat×Blk)) (σ:List Hp) (G:Gh) {k:Hp→List Hp→Gh→Prop} (hk:zn k):wS n (.d (.gp b off)) (some y) r h σ G hk =
  wT (r.foreignOk && za n y) (zn.mk (a:=wB (G b) (zn.mk (a:=fun cs=>wP (off+n≤cs.length) (zn.mk (a:=wL (zbb cs y.cells off) (zn.mk (a:=fun cs'=>k (HB h) σ (G.set b (some cs')))))))))):=rfl
def wI (neg:Bool) (o:Option D) {k:Bool→Prop} (_:zn k):Prop :=
 match o with
 | some .nilS=>k (!neg)
 | some (.list es)=>∀ t,(es≠[]→t=neg)→k t
 | some (.gs _ _ _ _)=>k neg
 | _=>False
@[go_sem] theorem wI_nil (neg:Bool) {k:Bool→Prop} (h:zn k):wI neg (some .nilS) h=k (!neg):=rfl
@[go_sem] theorem wI_gs (neg:Bool) (b off n cap:Nat) {k:Bool→Prop} (h:zn k):wI neg (some (.gs b off n cap)) h=k neg:=rfl
theorem zzo {neg:Bool} {es:List D} {k:Bool→Prop} {h:zn k} (hk:∀ t,(es≠[]→t=neg)→k t):wI neg (some (.list es)) h:=hk
def wC (P:Program) (d:Option Nat) (f:AO) (args:List AO) (q:Nat) (ρ:Env) (L:Hp) (σ:List Hp) (G:Gh) {K:St→Prop} (_:zn K):Prop:=zcw P d f args q ρ L σ G K
def W [DD] (P:Program) (c:ACode) {κ:zay→St→Prop} (_:zn κ) (st:St):Prop:=SW P c κ st
section
variable {P:Program} {os:List AI} {l:List (Nat×AV)} {L:Hp} {h:List (Nat×Blk)} {σ:List Hp} {G:Gh} {K:St→Prop}
@[go_sem ↓] theorem z6i {ρ:Env}:zab P [] ρ L σ G K=K (ρ,L,σ,G):=rfl
@[go_sem ↓] theorem z1w {d:Option Nat} {op:AOp} {t:Nat} {w:Bool}:zab P (⟨d,op,some (t,w)⟩::os) (E l) L σ G K=wG (E l t) w (zn.mk (a:=zab P (⟨d,op,none⟩::os) (E l) L σ G K)) (zn.mk (a:=zab P os (put (E l) d .skp) L σ G K)):=rfl
theorem zd1 {d:Option Nat} {op:AOp} {ρ:Env} (hd:∀ K':St→Prop,zar P ⟨d,op,none⟩ ρ L σ G K'=(∃ st,zk d op ρ L σ G=some st∧K' st)) :
 zab P (⟨d,op,none⟩::os) ρ L σ G K=∃ st,zk d op ρ L σ G=some st∧zab P os st.1 st.2.1 st.2.2.1 st.2.2.2 K:=hd _
theorem zw {d:Nat} {op:AOp} (hd:∀ K':St→Prop,zar P ⟨some d,op,none⟩ (E l) L σ G K'=(∃ st,zk (some d) op (E l) L σ G=some st∧K' st)) (he:zk (some d) op (E l) L σ G=(evP (E l) (L::σ) G op).map fun v=>(put (E l) (some d) v,L,σ,G)) :
 zab P (⟨some d,op,none⟩::os) (E l) L σ G K=wO (evP (E l) (L::σ) G op) (zn.mk (a:=fun v=>zab P os (E ((d,v)::l)) L σ G K)):=by
 rw [zd1 hd,he]
 simp only [Option.map_eq_some_iff,wO,eq_iff_iff]
 constructor
 · rintro ⟨st,⟨v,hv,rfl⟩,hk⟩;exact ⟨v,hv,hk⟩
 · rintro ⟨v,hv,hk⟩;exact ⟨_,⟨v,hv,rfl⟩,hk⟩
@[go_sem ↓] theorem z6j {d:Nat} {x:AO}:zab P (⟨some d,.mv false x,none⟩::os) (E l) L σ G K=wV (ev (E l) x).cp (zn.mk (a:=fun v=>zab P os (E ((d,v)::l)) L σ G K)):=by
  rw [zw (fun _=>rfl) rfl];simp [evP,wO,wV]
@[go_sem ↓] theorem z3n {d:Nat} {x:D}:zab P (⟨some d,.mv true (.c x),none⟩::os) (E l) L σ G K=zab P os (E ((d,.d x)::l)) L σ G K:=by
  rw [zd1 (fun _=>rfl)];simp [zk,zc9,ev,zr7]
@[go_sem ↓] theorem z6k {d i:Nat}:zab P (⟨some d,.mv true (.t i),none⟩::os) (E l) L σ G K=wV (E l i) (zn.mk (a:=fun v=>wV v.cp (zn.mk (a:=fun v'=>zab P os (E ((d,v)::(i,v')::l)) L σ G K)))):=by
  rw [zd1 (fun _=>rfl)];simp [zk,zc9,ev,zr7,ztz,wV]
@[go_sem ↓] theorem z3o {d:Nat} {a b c:AO}:zab P (⟨some d,.pick a b c,none⟩::os) (E l) L σ G K=wO (evP (E l) (L::σ) G (.pick a b c)) (zn.mk (a:=fun v=>zab P os (E ((d,v)::l)) L σ G K)):=zw (fun _=>rfl) rfl
@[go_sem ↓] theorem z1x {d:Nat} {z:List D} {ps:List (Nat×Nat×AO)}:zab P (⟨some d,.build z ps,none⟩::os) (E l) L σ G K=wO (evP (E l) (L::σ) G (.build z ps)) (zn.mk (a:=fun v=>zab P os (E ((d,v)::l)) L σ G K)):=zw (fun _=>rfl) rfl
@[go_sem ↓] theorem zys {d:Nat} {a b:Nat} {z:D} {ps:List (Nat×AO)}:zab P (⟨some d,.mkslice a b z ps,none⟩::os) (E l) L σ G K=wO (evP (E l) (L::σ) G (.mkslice a b z ps)) (zn.mk (a:=fun v=>zab P os (E ((d,v)::l)) L σ G K)):=zw (fun _=>rfl) rfl
@[go_sem ↓] theorem z3p {d:Nat} {a:Bool} {n:Nat} {x:AO} {r:Root}:zab P (⟨some d,.load a n x r,none⟩::os) (E l) L σ G K=wO (evP (E l) (L::σ) G (.load a n x r)) (zn.mk (a:=fun v=>zab P os (E ((d,v)::l)) L σ G K)):=zw (fun _=>rfl) rfl
@[go_sem ↓] theorem z1y {d:Nat} {x:AO}:zab P (⟨some d,.nilck x,none⟩::os) (E l) L σ G K=wO (evP (E l) (L::σ) G (.nilck x)) (zn.mk (a:=fun v=>zab P os (E ((d,v)::l)) L σ G K)):=zw (fun _=>rfl) rfl
@[go_sem ↓] theorem z6l {d:Nat} {o:BinOp} {x y:AO}:zab P (⟨some d,.bin o x y,none⟩::os) (E l) L σ G K=wO (evP (E l) (L::σ) G (.bin o x y)) (zn.mk (a:=fun v=>zab P os (E ((d,v)::l)) L σ G K)):=zw (fun _=>rfl) rfl
@[go_sem ↓] theorem z6m {d:Nat} {n:Bool} {ks:List Kd} {x y:AO}:zab P (⟨some d,.eqs n ks x y,none⟩::os) (E l) L σ G K=wO (evP (E l) (L::σ) G (.eqs n ks x y)) (zn.mk (a:=fun v=>zab P os (E ((d,v)::l)) L σ G K)):=zw (fun _=>rfl) rfl
@[go_sem ↓] theorem z6n {d:Nat} {n:Bool} {x y:AO}:zab P (⟨some d,.eqb n x y,none⟩::os) (E l) L σ G K=wO (evP (E l) (L::σ) G (.eqb n x y)) (zn.mk (a:=fun v=>zab P os (E ((d,v)::l)) L σ G K)):=zw (fun _=>rfl) rfl
@[go_sem ↓] theorem z6o {d:Nat} {x:AO}:zab P (⟨some d,.not x,none⟩::os) (E l) L σ G K=wO (evP (E l) (L::σ) G (.not x)) (zn.mk (a:=fun v=>zab P os (E ((d,v)::l)) L σ G K)):=zw (fun _=>rfl) rfl
@[go_sem ↓] theorem z6p {d:Nat} {x:AO}:zab P (⟨some d,.neg x,none⟩::os) (E l) L σ G K=wO (evP (E l) (L::σ) G (.neg x)) (zn.mk (a:=fun v=>zab P os (E ((d,v)::l)) L σ G K)):=zw (fun _=>rfl) rfl
@[go_sem ↓] theorem z3q {d:Nat} {k:IntKind} {x:AO}:zab P (⟨some d,.conv k x,none⟩::os) (E l) L σ G K=wO (evP (E l) (L::σ) G (.conv k x)) (zn.mk (a:=fun v=>zab P os (E ((d,v)::l)) L σ G K)):=zw (fun _=>rfl) rfl
@[go_sem ↓] theorem zzp {d:Nat} {f:FuncId} {c:List AO}:zab P (⟨some d,.mkfunc f c,none⟩::os) (E l) L σ G K=wO (evP (E l) (L::σ) G (.mkfunc f c)) (zn.mk (a:=fun v=>zab P os (E ((d,v)::l)) L σ G K)):=zw (fun _=>rfl) rfl
@[go_sem ↓] theorem z6q {d:Nat} {n:Nat} {x:AO}:zab P (⟨some d,.sl0 n x,none⟩::os) (E l) L σ G K=wO (evP (E l) (L::σ) G (.sl0 n x)) (zn.mk (a:=fun v=>zab P os (E ((d,v)::l)) L σ G K)):=zw (fun _=>rfl) rfl
@[go_sem ↓] theorem z3r {d:Nat} {n:Nat} {x y z:AO}:zab P (⟨some d,.sl3L n x y z,none⟩::os) (E l) L σ G K=wO (evP (E l) (L::σ) G (.sl3L n x y z)) (zn.mk (a:=fun v=>zab P os (E ((d,v)::l)) L σ G K)):=zw (fun _=>rfl) rfl
@[go_sem ↓] theorem z85 {d:Nat} {n:Nat} {x:AO} {lo hi:Option AO}:zab P (⟨some d,.sl n x lo hi,none⟩::os) (E l) L σ G K=wO (evP (E l) (L::σ) G (.sl n x lo hi)) (zn.mk (a:=fun v=>zab P os (E ((d,v)::l)) L σ G K)):=zw (fun _=>rfl) rfl
@[go_sem ↓] theorem z6r {d:Nat} {x:AO} {lo hi:Option AO}:zab P (⟨some d,.slS x lo hi,none⟩::os) (E l) L σ G K=wO (evP (E l) (L::σ) G (.slS x lo hi)) (zn.mk (a:=fun v=>zab P os (E ((d,v)::l)) L σ G K)):=zw (fun _=>rfl) rfl
@[go_sem ↓] theorem z1z {d:Nat} {n:Nat} {x:AO}:zab P (⟨some d,.faddr n x,none⟩::os) (E l) L σ G K=wO (evP (E l) (L::σ) G (.faddr n x)) (zn.mk (a:=fun v=>zab P os (E ((d,v)::l)) L σ G K)):=zw (fun _=>rfl) rfl
@[go_sem ↓] theorem z10 {d:Nat} {a:Bool} {o n:Nat} {x:AO}:zab P (⟨some d,.field a o n x,none⟩::os) (E l) L σ G K=wO (evP (E l) (L::σ) G (.field a o n x)) (zn.mk (a:=fun v=>zab P os (E ((d,v)::l)) L σ G K)):=zw (fun _=>rfl) rfl
@[go_sem ↓] theorem z11 {d:Nat} {n:Nat} {x i:AO}:zab P (⟨some d,.iaddr n x i,none⟩::os) (E l) L σ G K=wO (evP (E l) (L::σ) G (.iaddr n x i)) (zn.mk (a:=fun v=>zab P os (E ((d,v)::l)) L σ G K)):=zw (fun _=>rfl) rfl
@[go_sem ↓] theorem zzq {d:Nat} {m n:Nat} {x i:AO}:zab P (⟨some d,.iaddrA m n x i,none⟩::os) (E l) L σ G K=wO (evP (E l) (L::σ) G (.iaddrA m n x i)) (zn.mk (a:=fun v=>zab P os (E ((d,v)::l)) L σ G K)):=zw (fun _=>rfl) rfl
@[go_sem ↓] theorem z3s {d:Nat} {x i:AO}:zab P (⟨some d,.idxS x i,none⟩::os) (E l) L σ G K=wO (evP (E l) (L::σ) G (.idxS x i)) (zn.mk (a:=fun v=>zab P os (E ((d,v)::l)) L σ G K)):=zw (fun _=>rfl) rfl
@[go_sem ↓] theorem z3t {d:Nat} {a:Bool} {m n:Nat} {x i:AO}:zab P (⟨some d,.idxA a m n x i,none⟩::os) (E l) L σ G K=wO (evP (E l) (L::σ) G (.idxA a m n x i)) (zn.mk (a:=fun v=>zab P os (E ((d,v)::l)) L σ G K)):=zw (fun _=>rfl) rfl
@[go_sem ↓] theorem z6s {d:Nat} {x:AO} {i:Nat}:zab P (⟨some d,.ext x i,none⟩::os) (E l) L σ G K=wO (evP (E l) (L::σ) G (.ext x i)) (zn.mk (a:=fun v=>zab P os (E ((d,v)::l)) L σ G K)):=zw (fun _=>rfl) rfl
@[go_sem ↓] theorem z6t {d:Nat} {s:Bool} {x:AO}:zab P (⟨some d,.len s x,none⟩::os) (E l) L σ G K=wO (evP (E l) (L::σ) G (.len s x)) (zn.mk (a:=fun v=>zab P os (E ((d,v)::l)) L σ G K)):=zw (fun _=>rfl) rfl
@[go_sem ↓] theorem z86 {d:Nat} {x y:AO}:zab P (⟨some d,.mx x y,none⟩::os) (E l) L σ G K=wO (evP (E l) (L::σ) G (.mx x y)) (zn.mk (a:=fun v=>zab P os (E ((d,v)::l)) L σ G K)):=zw (fun _=>rfl) rfl
@[go_sem ↓] theorem z87 {d:Nat} {x y:AO}:zab P (⟨some d,.mn x y,none⟩::os) (E l) L σ G K=wO (evP (E l) (L::σ) G (.mn x y)) (zn.mk (a:=fun v=>zab P os (E ((d,v)::l)) L σ G K)):=zw (fun _=>rfl) rfl
@[go_sem ↓] theorem z6u {d:Nat} {x:AO}:zab P (⟨some d,.b2s x,none⟩::os) (E l) L σ G K=wO (evP (E l) (L::σ) G (.b2s x)) (zn.mk (a:=fun v=>zab P os (E ((d,v)::l)) L σ G K)):=zw (fun _=>rfl) rfl
@[go_sem ↓] theorem z6v {d:Nat} {x:AO}:zab P (⟨some d,.s2b x,none⟩::os) (E l) L σ G K=wO (evP (E l) (L::σ) G (.s2b x)) (zn.mk (a:=fun v=>zab P os (E ((d,v)::l)) L σ G K)):=zw (fun _=>rfl) rfl
@[go_sem ↓] theorem z6w {d:Nat} {x:AO}:zab P (⟨some d,.cap x,none⟩::os) (E l) L σ G K=wO (evP (E l) (L::σ) G (.cap x)) (zn.mk (a:=fun v=>zab P os (E ((d,v)::l)) L σ G K)):=zw (fun _=>rfl) rfl
@[go_sem ↓] theorem z6x {d:Nat} {n:Nat} {x:AO} {lo:Option AO} {hi m:AO}:zab P (⟨some d,.sl3 n x lo hi m,none⟩::os) (E l) L σ G K=wO (evP (E l) (L::σ) G (.sl3 n x lo hi m)) (zn.mk (a:=fun v=>zab P os (E ((d,v)::l)) L σ G K)):=zw (fun _=>rfl) rfl
@[go_sem ↓] theorem z12 {s:Nat} {z:List D}:zab P (⟨some s,.alloc z,none⟩::os) (E l) (HB h) σ G K=wN ((HB h s).g+1) (zn.mk (a:=fun g=>wH (zo5 h s ⟨g,some z⟩) (zn.mk (a:=fun h'=>zab P os (E ((s,.ptr 0 s g 0)::l)) (HB h') σ G K)))):=by
  rw [zd1 (fun _=>rfl)];simp [zk,ztz,zt0,wN,wH]
@[go_sem ↓] theorem z6y {s n:Nat} {x:AO}:zab P (⟨some s,.box n x,none⟩::os) (E l) (HB h) σ G K=wD (ev (E l) x).data (zn.mk (a:=fun y=>wT (za n y) (zn.mk (a:=wL y.cells (zn.mk (a:=fun cs=>wN ((HB h s).g+1) (zn.mk (a:=fun g=>wH (zo5 h s ⟨g,some cs⟩) (zn.mk (a:=fun h'=>zab P os (E ((s,.ptr 0 s g 0)::l)) (HB h') σ G K)))))))))):=by
  rw [zd1 (fun _=>rfl)]
  simp only [zk,wD,wT,wL,wN,wH,ztz,zt0,eq_iff_iff]
  cases (ev (E l) x).data with
  | none=>simp
  | some y=>by_cases hy:za n y=true<;>simp [hy]
@[go_sem ↓] theorem z13 {d:Option Nat} {n:Nat} {a v:AO} {r:Root}:zab P (⟨d,.store n a v r,none⟩::os) (E l) (HB h) σ G K=wS n (ev (E l) a) (ev (E l) v).data r h σ G (zn.mk (a:=fun L' σ' G'=>zab P os (put (E l) d .undef) L' σ' G' K)):=by
  rw [zd1 (fun _=>rfl)]
  simp only [zk,eq_iff_iff]
  generalize ev (E l) a=pa
  generalize (ev (E l) v).data=y
  cases y with
  | none=>cases pa<;>simp [wS]
  | some y =>
   cases pa with
   | ptr k s g off =>
    cases k with
    | zero =>
     simp only [wS,wT,wB,wP,wL,wH]
     by_cases h1:(zbw r 0 s && za n y)=true
     · simp only [h1,if_true,true_and]
       cases hb:blk (HB h::σ) 0 s g with
       | none=>simp
       | some cs =>
        by_cases h2:off+n≤cs.length
        · simp [h2,zt0]
        · simp [h2]
     · simp [h1]
    | succ k =>
     simp only [wS,wT,wB,wP,wL]
     by_cases h1:(zbw r (k+1) s && za n y)=true
     · simp only [h1,if_true,true_and,z84]
       cases hb:blk σ k s g with
       | none=>simp
       | some cs =>
        by_cases h2:off+n≤cs.length
        · simp only [h2,if_true,true_and,Option.some.injEq,exists_eq_left']
          cases σ[k]? with
          | none=>simp
          | some h0=>simp
        · simp [h2]
     · simp [h1]
   | d x =>
    cases x with
    | gp b off =>
     simp only [wS,wT,wB,wP,wL]
     by_cases h1:(r.foreignOk && za n y)=true
     · simp only [h1,if_true,true_and]
       cases hb:G b with
       | none=>simp
       | some cs =>
        by_cases h2:off+n≤cs.length
        · simp [h2]
        · simp [h2]
     · simp [h1]
    | _=>simp [wS]
   | _=>simp [wS]
@[go_sem ↓] theorem z6z {d:Nat} {y:AO}:zab P (⟨some d,.append 1 0 (.c (.str [])) y,none⟩::os) (E l) L σ G K=wD (ev (E l) y).data (zn.mk (a:=fun z=>wO (zan 1 0 (.d (.str [])) z) (zn.mk (a:=fun v=>zab P os (E ((d,v)::l)) L σ G K)))):=by
  rw [zd1 (fun _=>rfl)]
  simp only [zk,wD,wO,eq_iff_iff,zc9,ztz,ev_c]
  generalize (ev (E l) y).data=o
  cases o with
  | none=>simp
  | some z =>
   simp only [Option.map_eq_some_iff,Option.some.injEq,exists_eq_left']
   constructor
   · rintro ⟨st,⟨v,hv,rfl⟩,hk⟩;exact ⟨v,hv,hk⟩
   · rintro ⟨v,hv,hk⟩;exact ⟨_,⟨v,hv,rfl⟩,hk⟩
@[go_sem ↓] theorem zzr {d i sz b:Nat} {y:AO}:zab P (⟨some d,.append sz b (.t i) y,none⟩::os) (E l) L σ G K=wD (ev (E l) y).data (zn.mk (a:=fun z=>wO (zan sz b (E l i) z) (zn.mk (a:=fun v=>wV (E l i).cp (zn.mk (a:=fun v'=>zab P os (E ((d,v)::(i,v')::l)) L σ G K)))))):=by
  rw [zd1 (fun _=>rfl)]
  simp only [zk,wD,wO,wV,eq_iff_iff,zc9,ztz,ev_t]
  generalize (ev (E l) y).data=o
  cases o with
  | none=>simp
  | some z =>
   simp only [Option.map_eq_some_iff,Option.some.injEq,exists_eq_left']
   constructor
   · rintro ⟨st,⟨v,hv,rfl⟩,hk⟩;exact ⟨v,hv,hk⟩
   · rintro ⟨v,hv,hk⟩;exact ⟨_,⟨v,hv,rfl⟩,hk⟩
@[go_sem ↓] theorem z14 {d:Nat} {neg:Bool} {x:AO}:zab P (⟨some d,.isnil neg x,none⟩::os) (E l) L σ G K=wI neg (ev (E l) x).data (zn.mk (a:=fun t=>zab P os (E ((d,.d (.bool t))::l)) L σ G K)):=by
  simp only [zab,zag,zar,zb9,zk,evP,eq_iff_iff]
  cases (ev (E l) x).data with
  | none=>simp [wI]
  | some y =>
   cases y with
   | list es =>
    cases es with
    | nil=>simp [wI,zr7]
    | cons e es=>simp [wI,zr7]
   | _=>simp [wI,zr7]
@[go_sem ↓] theorem z3u {d:Option Nat} {f:AO} {as:List AO} {q:Nat}:zab P (⟨d,.call f as q,none⟩::os) (E l) L σ G K=wC P d f as q (E l) L σ G (zn.mk (a:=fun st=>zab P os st.1 st.2.1 st.2.2.1 st.2.2.2 K)):=rfl
end
section
variable {f:St→Prop} {κ κ':zay→St→Prop} {st st':St} {id:Nat}
@[go_sem ↓] theorem zzs:zay.then f κ .normal st=f st:=rfl
@[go_sem ↓] theorem z3v:zay.then f κ (.exit id) st=κ (.exit id) st:=rfl
@[go_sem ↓] theorem z60:zay.then f κ .ret st=κ .ret st:=rfl
@[go_sem ↓] theorem zwd:zay.inBlock id κ .normal st=κ .normal st:=rfl
@[go_sem ↓] theorem zzt:zay.inBlock id κ .ret st=κ .ret st:=rfl
@[go_sem ↓] theorem zyt {id':Nat}:zay.inBlock id κ (.exit id') st=if id'=id then κ .normal st else κ (.exit id') st:=rfl
def Fin (res:List zfz) {Q:AV→List Hp→Gh→Prop} (_:zn Q) (st:St):Prop:=zwc res Q st
@[go_sem ↓] theorem zzu {res:List zfz} {Q:AV→List Hp→Gh→Prop}:zwr res Q .normal st=Fin res (zn.mk (a:=Q)) st:=rfl
@[go_sem ↓] theorem z61 {res:List zfz} {Q:AV→List Hp→Gh→Prop}:zwr res Q .ret st=Fin res (zn.mk (a:=Q)) st:=rfl
def z88 {I:Nat→St→Prop} (_:zn I) (n:Nat) (st:St):Prop:=∃ m st0,m<n∧zs3 st st0∧I m st0
end
end Go.E2
namespace Go.E2
theorem wrap_i64 {x:Int} (h1:-9223372036854775808≤x) (h2:x≤9223372036854775807):IntKind.i64.wrap x=x:=by
 have e:IntKind.i64.wrap x=if x % 18446744073709551616≥9223372036854775808 then x % 18446744073709551616 - 18446744073709551616 else x % 18446744073709551616:=by simp [IntKind.wrap,IntKind.signed,IntKind.bits]
 rw [e];split<;>omega
theorem zwy {x:Int} (h1:-2147483648≤x) (h2:x≤2147483647):IntKind.i32.wrap x=x:=by
 have e:IntKind.i32.wrap x=if x % 4294967296≥2147483648 then x % 4294967296 - 4294967296 else x % 4294967296:=by simp [IntKind.wrap,IntKind.signed,IntKind.bits]
 rw [e];split<;>omega
theorem zwz {x:Int} (h1:0≤x) (h2:x≤18446744073709551615):IntKind.u64.wrap x=x:=by
 simp only [IntKind.wrap,IntKind.signed,IntKind.bits];simp;omega
theorem zqj {x:Int} (h1:0≤x) (h2:x≤4294967295):IntKind.u32.wrap x=x:=by
 simp only [IntKind.wrap,IntKind.signed,IntKind.bits];simp;omega
theorem zw0 {x:Int} (h1:0≤x) (h2:x≤65535):IntKind.u16.wrap x=x:=by
 simp only [IntKind.wrap,IntKind.signed,IntKind.bits];simp;omega
theorem zo6 {x:Int} (h1:0≤x) (h2:x≤255):IntKind.u8.wrap x=x:=by
 simp only [IntKind.wrap,IntKind.signed,IntKind.bits];simp;omega
attribute [go_sem] wrap_i64 zwy zwz zqj zw0 zo6
section
variable (k:IntKind) (a b:Int) (s t:List UInt8)
@[go_sem] theorem z62:zb6 .add (.int k a) (.int k b)=some (.int k (k.wrap (a+b))):=by simp [zb6]
@[go_sem] theorem z63:zb6 .sub (.int k a) (.int k b)=some (.int k (k.wrap (a - b))):=by simp [zb6]
@[go_sem] theorem z64:zb6 .mul (.int k a) (.int k b)=some (.int k (k.wrap (a * b))):=by simp [zb6]
@[go_sem] theorem z65:zb6 .eql (.int k a) (.int k b)=some (.bool (decide (a=b))):=by by_cases h:a=b<;>simp [zb6,h]
@[go_sem] theorem z66:zb6 .neq (.int k a) (.int k b)=some (.bool (decide (¬ a=b))):=by by_cases h:a=b<;>simp [zb6,h]
@[go_sem] theorem z67:zb6 .lss (.int k a) (.int k b)=some (.bool (decide (a<b))):=by simp [zb6]
@[go_sem] theorem z68:zb6 .leq (.int k a) (.int k b)=some (.bool (decide (a≤b))):=by simp [zb6]
@[go_sem] theorem z69:zb6 .gtr (.int k a) (.int k b)=some (.bool (decide (b<a))):=by simp [zb6]
@[go_sem] theorem z7a:zb6 .geq (.int k a) (.int k b)=some (.bool (decide (b≤a))):=by simp [zb6]
@[go_sem] theorem z7b (h:b≠0):zb6 .quo (.int k a) (.int k b)=some (.int k (k.wrap (a.tdiv b))):=by simp [zb6,h]
@[go_sem] theorem z7c (h:b≠0):zb6 .rem (.int k a) (.int k b)=some (.int k (a.tmod b)):=by simp [zb6,h]
@[go_sem] theorem zw1 (k':IntKind) (h:0≤b) (_ha:0≤a):zb6 .shr (.int k a) (.int k' b)=some (.int k (a / 2 ^ (if b.toNat≤k.bits then b.toNat else k.bits))):=by
  rw [← Nat.min_def]
  have hb:¬ b<0:=by omega
  simp only [zb6,if_neg hb]
  rw [Int.fdiv_eq_ediv_of_nonneg _ (Int.pow_nonneg (by omega))]
@[go_sem] theorem zw2 (k':IntKind) (h:0≤b):zb6 .shl (.int k a) (.int k' b)=some (.int k (k.wrap (a * 2 ^ (if b.toNat≤k.bits then b.toNat else k.bits)))):=by
  rw [← Nat.min_def]
  have hb:¬ b<0:=by omega
  simp only [zb6,if_neg hb]
@[go_sem] theorem z3w:zb6 .eql (.str s) (.str t)=some (.bool (decide (s=t))):=by simp only [zb6];congr 2;by_cases h:s=t<;>simp [h]
@[go_sem] theorem z3x:zb6 .neq (.str s) (.str t)=some (.bool (decide (¬ s=t))):=by simp only [zb6];congr 2;by_cases h:s=t<;>simp [h]
@[go_sem] theorem z3y (h:s.length+t.length<4611686018427387904):zb6 .add (.str s) (.str t)=some (.str (s++t)):=by simp only [zb6,h,if_true]
end
@[go_sem] theorem z15 (p q:Prop) [Decidable p] [Decidable q]:(decide p && decide q)=decide (p∧q):=by simp
@[go_sem] theorem zqk:IntKind.i64.bits=64:=rfl
@[go_sem] theorem z7d:IntKind.u64.bits=64:=rfl
@[go_sem] theorem z7e:IntKind.u32.bits=32:=rfl
@[go_sem] theorem z89:IntKind.u8.bits=8:=rfl
@[go_sem] theorem z16 (p:Prop) [Decidable p]:(!decide p)=decide (¬ p):=by simp
attribute [go_sem] za zbb D.cells D.one List.length_map List.length_cons List.length_nil List.length_append Option.map_some Option.map_none List.all_cons List.all_nil Bool.and_true Bool.and_self Bool.true_and List.take_succ_cons List.take_zero List.drop_succ_cons List.drop_zero List.head?_cons
 List.cons_append List.nil_append List.append_nil List.map_cons List.map_nil zx Bool.or_true Bool.or_false Bool.true_or Bool.false_or beq_self_eq_true Bool.and_false Bool.false_and zsi zc2 List.zip_cons_cons List.zip_nil_left List.foldl_cons List.foldl_nil Option.bind_some List.getElem?_map Int.toNat_natCast
 List.replicate_succ List.replicate_zero List.set_cons_zero List.set_cons_succ Option.getD_some Option.getD_none List.map_append
section
variable {ρ:Env} {lv:List Hp} {G:Gh}
def zw3 (c a b:AV):Option AV:=match c with|.d (.bool t)=>some (if t then a else b)|_=>none
@[go_sem] theorem z7f (c a b:AO):evP ρ lv G (.pick c a b)=zw3 (ev ρ c) (ev ρ a).cp (ev ρ b).cp:=by
  simp only [evP,zw3];cases ev ρ c with
  | d x=>cases x with
    | bool t=>cases t<;>rfl
    | _=>rfl
  | _=>rfl
@[go_sem] theorem z9a (a b:AV):zw3 (.d (.bool true)) a b=some a:=rfl
@[go_sem] theorem z9b (a b:AV):zw3 (.d (.bool false)) a b=some b:=rfl
def zyu (z:List D) (ps:List (Nat×Nat×AO)) (vs:Option (List D)):Option AV:=match vs with
 | some vs=>(zit z ((ps.zip vs).map fun (p,v)=>(p.1,p.2.1,v))).bind fun cs=>if cs.all D.one then some (.d (.agg cs)) else none
 | none=>none
@[go_sem] theorem z3z (z:List D) (ps:List (Nat×Nat×AO)):evP ρ lv G (.build z ps)=zyu z ps (zx ρ (ps.map (·.2.2))):=rfl
@[go_sem] theorem z30 (z:List D) (ps:List (Nat×Nat×AO)) (vs:List D):zyu z ps (some vs)=(zit z ((ps.zip vs).map fun (p,v)=>(p.1,p.2.1,v))).bind fun cs=>if cs.all D.one then some (.d (.agg cs)) else none:=rfl
@[go_sem] theorem z31 (z:List D):zit z []=some z:=rfl
@[go_sem] theorem z17 (z:List D) (off size:Nat) (v:D) (ps:List (Nat×Nat×D)):zit z ((off,size,v)::ps)=if v.cells.length=size∧off+size≤z.length then zit (zbb z v.cells off) ps else none:=rfl
def vMks (sz n:Nat) (z:D) (ps:List (Nat×AO)) (vs:Option (List D)):Option AV:=match vs with
 | some vs=>let es:=(ps.zip vs).foldl (fun es (p,v)=>es.set p.1 v) (List.replicate n z)
   if vs.all (za sz) && za sz z && (ps.all fun p=>p.1<n) then some (.own sz es) else none
 | none=>none
@[go_sem] theorem zzv (sz n:Nat) (z:D) (ps:List (Nat×AO)):evP ρ lv G (.mkslice sz n z ps)=vMks sz n z ps (zx ρ (ps.map (·.2))):=rfl
@[go_sem] theorem z9c (sz n:Nat) (z:D) (ps:List (Nat×AO)) (vs:List D):vMks sz n z ps (some vs)=if (vs.all (za sz) && za sz z && (ps.all fun p=>p.1<n))=true then some (.own sz ((ps.zip vs).foldl (fun es (p,v)=>es.set p.1 v) (List.replicate n z))) else none:=rfl
def zhr (agg:Bool) (n:Nat) (r:Root) (lv:List Hp) (G:Gh) (v:AV):Option AV:=match v with
 | .ptr k s g off=>if zbw r k s then (match blk lv k s g with|some cs=>(zch agg n (cs.drop off)).map .d|none=>none) else none
 | .cptr cs=>(zch agg n cs).map .d
 | .d (.gp b off)=>if r.foreignOk then (match G b with|some cs=>(zch agg n (cs.drop off)).map .d|none=>none) else none
 | _=>none
@[go_sem] theorem z7g (agg:Bool) (n:Nat) (x:AO) (r:Root):evP ρ lv G (.load agg n x r)=zhr agg n r lv G (ev ρ x):=rfl
def zbo (agg:Bool) (n:Nat) (cs:Option (List D)) (off:Nat):Option AV:=match cs with|some cs=>(zch agg n (cs.drop off)).map .d|none=>none
@[go_sem] theorem z32 (agg:Bool) (n:Nat) (cs:List D) (off:Nat):zbo agg n (some cs) off=(zch agg n (cs.drop off)).map .d:=rfl
@[go_sem] theorem z18 (agg:Bool) (n k s g off:Nat):zhr agg n .any lv G (.ptr k s g off)=zbo agg n (blk lv k s g) off:=by simp [zhr,zbo,zbw]
@[go_sem] theorem z19 (agg:Bool) (n s g off:Nat):zhr agg n (.site s) lv G (.ptr 0 s g off)=zbo agg n (blk lv 0 s g) off:=by simp [zhr,zbo,zbw]
@[go_sem] theorem z2a (agg:Bool) (n k s g off:Nat):zhr agg n .foreign lv G (.ptr (k+1) s g off)=zbo agg n (blk lv (k+1) s g) off:=by simp [zhr,zbo,zbw]
@[go_sem] theorem z2b (agg:Bool) (n:Nat) (r:Root) (cs:List D):zhr agg n r lv G (.cptr cs)=(zch agg n cs).map .d:=rfl
@[go_sem] theorem z33 (agg:Bool) (n b off:Nat):zhr agg n .any lv G (.d (.gp b off))=zbo agg n (G b) off:=by simp [zhr,zbo,Root.foreignOk]
@[go_sem] theorem z34 (agg:Bool) (n b off:Nat):zhr agg n .foreign lv G (.d (.gp b off))=zbo agg n (G b) off:=by simp [zhr,zbo,Root.foreignOk]
@[go_sem] theorem z9d (n:Nat) (cs:List D):zch true n cs=if n≤cs.length then some (.agg (cs.take n)) else none:=rfl
@[go_sem] theorem z9e (n:Nat) (cs:List D):zch false n cs=cs.head?:=rfl
@[go_sem] theorem z2c (k s:Nat):zbw .any k s=true:=rfl
@[go_sem] theorem zzw (r k s:Nat):zbw (.site r) k s=(k == 0 && s == r):=rfl
@[go_sem] theorem z2d (k s:Nat):zbw .foreign k s=(k != 0):=rfl
@[go_sem] theorem z35:Root.foreignOk .any=true:=rfl
@[go_sem] theorem z36:Root.foreignOk .foreign=true:=rfl
@[go_sem] theorem z7h:Root.foreignOk .gp=true:=rfl
def zg3 (v:AV):Option AV:=match v with|.ptr k s g off=>some (.ptr k s g off)|.cptr cs=>some (.cptr cs)|.func f c=>some (.func f c)|.d (.fn f)=>some (.d (.fn f))|.d (.gp b off)=>some (.d (.gp b off))|.d (.clo f ds)=>some (.d (.clo f ds))|.d (.yld l)=>some (.d (.yld l))|.d (.ifc t b off)=>some (.d (.ifc t b off))|_=>none
@[go_sem] theorem z37 (x:AO):evP ρ lv G (.nilck x)=zg3 (ev ρ x):=rfl
@[go_sem] theorem z2e (f:FuncId) (ds:List D):zg3 (.d (.clo f ds))=some (.d (.clo f ds)):=rfl
@[go_sem] theorem z2f (l:Nat):zg3 (.d (.yld l))=some (.d (.yld l)):=rfl
@[go_sem] theorem z2g (t b off:Nat):zg3 (.d (.ifc t b off))=some (.d (.ifc t b off)):=rfl
@[go_sem] theorem z2h (k s g off:Nat):zg3 (.ptr k s g off)=some (.ptr k s g off):=rfl
@[go_sem] theorem zzx (cs:List D):zg3 (.cptr cs)=some (.cptr cs):=rfl
@[go_sem] theorem zzy (f:FuncId) (c:List (Nat×Nat×Nat)):zg3 (.func f c)=some (.func f c):=rfl
@[go_sem] theorem z38 (f:FuncId):zg3 (.d (.fn f))=some (.d (.fn f)):=rfl
@[go_sem] theorem z39 (b off:Nat):zg3 (.d (.gp b off))=some (.d (.gp b off)):=rfl
def vBin (op:BinOp) (x y:AV):Option AV:=match x,y with|.d a,.d b=>(zb6 op a b).map .d|_,_=>none
@[go_sem] theorem z9f (op:BinOp) (x y:AO):evP ρ lv G (.bin op x y)=vBin op (ev ρ x) (ev ρ y):=rfl
@[go_sem] theorem vBin_d (op:BinOp) (a b:D):vBin op (.d a) (.d b)=(zb6 op a b).map .d:=rfl
def z9g (neg:Bool) (ks:List Kd) (x y:AV):Option AV:=match x,y with|.d (.agg a),.d (.agg b)=>(zh ks a b).map fun t=>.d (.bool (if neg then !t else t))|_,_=>none
@[go_sem] theorem z9h (neg:Bool) (ks:List Kd) (x y:AO):evP ρ lv G (.eqs neg ks x y)=z9g neg ks (ev ρ x) (ev ρ y):=rfl
@[go_sem] theorem vEqs_f (ks:List Kd) (a b:List D):z9g false ks (.d (.agg a)) (.d (.agg b))=(zh ks a b).map fun t=>.d (.bool t):=rfl
@[go_sem] theorem vEqs_t (ks:List Kd) (a b:List D):z9g true ks (.d (.agg a)) (.d (.agg b))=(zh ks a b).map fun t=>.d (.bool (!t)):=rfl
@[go_sem] theorem zzz:zh [] [] []=some true:=rfl
@[go_sem] theorem z4a (a b:Bool) (ks:List Kd) (xs ys:List D):zh (.b::ks) (.bool a::xs) (.bool b::ys)=(zh ks xs ys).map fun c=>((a == b) && c):=by simp only [zh,zb0];cases zh ks xs ys<;>rfl
@[go_sem] theorem zt1 (k:IntKind) (a b:Int) (ks:List Kd) (xs ys:List D):zh (.i::ks) (.int k a::xs) (.int k b::ys)=(zh ks xs ys).map fun c=>(decide (a=b) && c):=by
  have e:(a == b)=decide (a=b):=by by_cases h:a=b<;>simp [h]
  simp only [zh,zb0,if_true,e];cases zh ks xs ys<;>rfl
@[go_sem] theorem z4b (a b:List UInt8) (ks:List Kd) (xs ys:List D):zh (.s::ks) (.str a::xs) (.str b::ys)=(zh ks xs ys).map fun c=>(decide (a=b) && c):=by
  have e:(a == b)=decide (a=b):=by by_cases h:a=b<;>simp [h]
  simp only [zh,zb0,e];cases zh ks xs ys<;>rfl
def z9i (neg:Bool) (x y:AV):Option AV:=match x,y with|.d (.bool a),.d (.bool b)=>some (.d (.bool (if neg then !(a == b) else a == b)))|_,_=>none
@[go_sem] theorem z9j (neg:Bool) (x y:AO):evP ρ lv G (.eqb neg x y)=z9i neg (ev ρ x) (ev ρ y):=rfl
@[go_sem] theorem vEqb_t (a b:Bool):z9i true (.d (.bool a)) (.d (.bool b))=some (.d (.bool (!(a == b)))):=rfl
@[go_sem] theorem vEqb_f (a b:Bool):z9i false (.d (.bool a)) (.d (.bool b))=some (.d (.bool (a == b))):=rfl
def vNot (x:AV):Option AV:=match x with|.d (.bool b)=>some (.d (.bool (!b)))|_=>none
@[go_sem] theorem z9k (x:AO):evP ρ lv G (.not x)=vNot (ev ρ x):=rfl
@[go_sem] theorem vNot_b (b:Bool):vNot (.d (.bool b))=some (.d (.bool (!b))):=rfl
def vNeg (x:AV):Option AV:=match x with|.d (.int k n)=>some (.d (.int k (k.wrap (0 - n))))|_=>none
@[go_sem] theorem z9l (x:AO):evP ρ lv G (.neg x)=vNeg (ev ρ x):=rfl
@[go_sem] theorem vNeg_i (k:IntKind) (n:Int):vNeg (.d (.int k n))=some (.d (.int k (k.wrap (0 - n)))):=rfl
def z4c (k:IntKind) (x:AV):Option AV:=match x with|.d (.int _ n)=>some (.d (.int k (k.wrap n)))|_=>none
@[go_sem] theorem z7i (k:IntKind) (x:AO):evP ρ lv G (.conv k x)=z4c k (ev ρ x):=rfl
@[go_sem] theorem z9m (k k':IntKind) (n:Int):z4c k (.d (.int k' n))=some (.d (.int k (k.wrap n))):=rfl
def zf1:List AV→Option (List (Nat×Nat×Nat))
 | []=>some []
 | v::vs=>match zkt v,zf1 vs with|some c,some cs=>some (c::cs)|_,_=>none
@[go_sem] theorem z2i (f:FuncId) (caps:List AO):evP ρ lv G (.mkfunc f caps)=(zf1 (caps.map (ev ρ))).map (.func f):=by
  have:∀ caps:List AO,(caps.mapM fun o=>zkt (ev ρ o))=zf1 (caps.map (ev ρ)):=by
   intro caps
   induction caps with
   | nil=>rfl
   | cons c cs ih =>
    simp only [List.mapM_cons,List.map_cons,zf1,ih]
    cases zkt (ev ρ c) with
    | none=>rfl
    | some x=>cases zf1 (cs.map (ev ρ))<;>rfl
  simp only [evP,this]
@[go_sem] theorem z2j:zf1 []=some []:=rfl
@[go_sem] theorem zz0 (k s g:Nat) (vs:List AV):zf1 (.ptr k s g 0::vs)=(zf1 vs).map fun cs=>(k,s,g)::cs:=by simp only [zf1,zkt];cases zf1 vs<;>rfl
def z9n (sz:Nat) (x:Option D):Option AV:=match x with|some .nilS=>some (.d .nilS)|some (.list _)=>some (.own sz [])|_=>none
@[go_sem] theorem z9o (sz:Nat) (x:AO):evP ρ lv G (.sl0 sz x)=z9n sz (ev ρ x).data:=rfl
def zz1 (sz:Nat) (x:Option D) (h m:AV):Option AV:=match x,h,m with|some (.list es),.d (.int .i64 a),.d (.int .i64 b)=>if es.all (za sz)=true∧a=es.length∧b=es.length then some (.own sz es) else none|_,_,_=>none
@[go_sem] theorem z7j (sz:Nat) (x y z:AO):evP ρ lv G (.sl3L sz x y z)=zz1 sz (ev ρ x).data (ev ρ y) (ev ρ z):=rfl
@[go_sem] theorem z2k (sz:Nat) (es:List D) (a b:Int) (h1:a=es.length) (h2:b=es.length):zz1 sz (some (.list es)) (.d (.int .i64 a)) (.d (.int .i64 b))=if es.all (za sz)=true then some (.own sz es) else none:=by
  simp only [zz1,h1,h2,and_self,and_true]
@[go_sem] theorem z7k (sz:Nat):z9n sz (some .nilS)=some (.d .nilS):=rfl
@[go_sem] theorem z4d (sz:Nat) (es:List D):z9n sz (some (.list es))=some (.own sz []):=rfl
def zr8:AV→Option Int|.d (.int _ n)=>some n|_=>none
@[go_sem] theorem vInt_i (k:IntKind) (n:Int):zr8 (.d (.int k n))=some n:=rfl
@[go_sem] theorem z7l (d:Nat):bnd ρ d none=some (d:Int):=rfl
@[go_sem] theorem z7m (d:Nat) (o:AO):bnd ρ d (some o)=zr8 (ev ρ o):=rfl
def zyv (sz:Nat) (x:Option D) (lo:Option Int):Option AV :=
 match x,lo with
 | some (.list es),some l=>if es.all (za sz) then (if 0≤l∧l≤es.length then some (.d (.list (es.drop l.toNat))) else none) else none
 | some .nilS,some l=>if l=0 then some (.d .nilS) else none
 | some (.gs b off len cap),some l=>if 0≤l∧l≤len∧(len:Int)≤cap then some (.d (.gs b (if cap=l.toNat then off else off+l.toNat * sz) (len - l.toNat) (cap - l.toNat))) else none
 | _,_=>none
def zyw (sz:Nat) (x:Option D) (lo hi:Option Int):Option AV :=
 match x,lo,hi with
 | some (.list es),some l,some h=>if es.all (za sz) then (if 0≤l∧l≤h∧h≤es.length then some (.d (.list ((es.take h.toNat).drop l.toNat))) else none) else none
 | some .nilS,some l,some h=>if l=0∧h=0 then some (.d .nilS) else none
 | some (.gs b off _ cap),some l,some h=>if 0≤l∧l≤h∧h≤cap then some (.d (.gs b (if cap=l.toNat then off else off+l.toNat * sz) (h.toNat - l.toNat) (cap - l.toNat))) else none
 | _,_,_=>none
@[go_sem] theorem z9p (sz:Nat) (x:AO) (lo:Option AO):evP ρ lv G (.sl sz x lo none)=zyv sz (ev ρ x).data (bnd ρ 0 lo):=by
  have e:∀ n,bnd ρ n none=some (n:Int):=fun _=>rfl
  simp only [evP,zyv,e]
  generalize (ev ρ x).data=o
  generalize bnd ρ 0 lo=l
  cases o with
  | none=>rfl
  | some d =>
   cases d with
   | list es =>
    cases l with
    | none=>by_cases h:es.all (za sz)=true<;>simp [h]
    | some l =>
     by_cases h:es.all (za sz)=true
     · by_cases h2:0≤l∧l≤es.length<;>simp [h,h2]
     · simp [h]
   | nilS=>cases l<;>simp
   | gs b off len cap=>cases l<;>simp
   | _=>cases l<;>rfl
@[go_sem] theorem z9q (sz:Nat) (x:AO) (lo:Option AO) (h:AO):evP ρ lv G (.sl sz x lo (some h))=zyw sz (ev ρ x).data (bnd ρ 0 lo) (zr8 (ev ρ h)):=by
  have e:∀ n,bnd ρ n (some h)=zr8 (ev ρ h):=fun n=>rfl
  simp only [evP,zyw,e]
  generalize (ev ρ x).data=o
  generalize bnd ρ 0 lo=l
  generalize zr8 (ev ρ h)=k
  cases o with
  | none=>rfl
  | some d =>
   cases d with
   | list es=>cases l<;>cases k<;>by_cases h:es.all (za sz)<;>simp [h]
   | nilS=>cases l<;>cases k<;>simp
   | gs b off len cap=>cases l<;>cases k<;>simp
   | _=>rfl
@[go_sem] theorem z4e (sz:Nat) (es:List D) (l:Int) (h1:0≤l) (h2:l≤es.length):zyv sz (some (.list es)) (some l)=if es.all (za sz)=true then some (.d (.list (es.drop l.toNat))) else none:=by simp only [zyv,h1,h2,and_self,if_true]
@[go_sem] theorem z7n (sz:Nat) (l:Int) (h:l=0):zyv sz (some .nilS) (some l)=some (.d .nilS):=by simp only [zyv,h,if_true]
@[go_sem] theorem z9r (sz b off len cap:Nat) (l:Int) (h1:0≤l) (h2:l≤len) (h3:len≤cap):zyv sz (some (.gs b off len cap)) (some l)=some (.d (.gs b (if cap=l.toNat then off else off+l.toNat * sz) (len - l.toNat) (cap - l.toNat))):=by
  have h3':(len:Int)≤cap:=by omega
  simp only [zyv,h1,h2,h3',and_self,if_true]
@[go_sem] theorem z4f (sz:Nat) (es:List D) (l h:Int) (h1:0≤l) (h2:l≤h) (h3:h≤es.length):zyw sz (some (.list es)) (some l) (some h)=if es.all (za sz)=true then some (.d (.list ((es.take h.toNat).drop l.toNat))) else none:=by simp only [zyw,h1,h2,h3,and_self,if_true]
@[go_sem] theorem z7o (sz:Nat) (l h:Int) (h1:l=0) (h2:h=0):zyw sz (some .nilS) (some l) (some h)=some (.d .nilS):=by simp only [zyw,h1,h2,and_self,if_true]
@[go_sem] theorem z9s (sz b off len cap:Nat) (l h:Int) (h1:0≤l) (h2:l≤h) (h3:h≤cap):zyw sz (some (.gs b off len cap)) (some l) (some h)=some (.d (.gs b (if cap=l.toNat then off else off+l.toNat * sz) (h.toNat - l.toNat) (cap - l.toNat))):=by simp only [zyw,h1,h2,h3,and_self,if_true]
def z7p (x:AV) (lo:Option Int):Option AV :=
 match x,lo with
 | .d (.str s),some l=>if 0≤l∧l≤s.length then some (.d (.str (s.drop l.toNat))) else none
 | _,_=>none
def z7q (x:AV) (lo hi:Option Int):Option AV :=
 match x,lo,hi with
 | .d (.str s),some l,some h=>if 0≤l∧l≤h∧h≤s.length then some (.d (.str ((s.take h.toNat).drop l.toNat))) else none
 | _,_,_=>none
@[go_sem] theorem z9t (x:AO) (lo:Option AO):evP ρ lv G (.slS x lo none)=z7p (ev ρ x) (bnd ρ 0 lo):=by
  have e:∀ n,bnd ρ n none=some (n:Int):=fun _=>rfl
  simp only [evP,z7p,e]
  generalize ev ρ x=o
  generalize bnd ρ 0 lo=l
  cases o with
  | d d=>cases d with
    | str s=>cases l with
      | none=>rfl
      | some l=>by_cases h2:0≤l∧l≤s.length<;>simp [h2]
    | _=>rfl
  | _=>rfl
@[go_sem] theorem z9u (x:AO) (lo:Option AO) (h:AO):evP ρ lv G (.slS x lo (some h))=z7q (ev ρ x) (bnd ρ 0 lo) (zr8 (ev ρ h)):=by
  have e:∀ n,bnd ρ n (some h)=zr8 (ev ρ h):=fun n=>rfl
  simp only [evP,z7q,e]
  generalize ev ρ x=o
  generalize bnd ρ 0 lo=l
  generalize zr8 (ev ρ h)=k
  cases o with
  | d d=>cases d with
    | str s=>cases l<;>cases k<;>simp
    | _=>rfl
  | _=>rfl
@[go_sem] theorem z9v (s:List UInt8) (l:Int) (h1:0≤l) (h2:l≤s.length):z7p (.d (.str s)) (some l)=some (.d (.str (s.drop l.toNat))):=by simp only [z7p,h1,h2,and_self,if_true]
@[go_sem] theorem z9w (s:List UInt8) (l h:Int) (h1:0≤l) (h2:l≤h) (h3:h≤s.length):z7q (.d (.str s)) (some l) (some h)=some (.d (.str ((s.take h.toNat).drop l.toNat))):=by simp only [z7q,h1,h2,h3,and_self,if_true]
def zql (off:Nat) (v:AV):Option AV:=match v with|.ptr k s g o=>some (.ptr k s g (o+off))|.cptr cs=>some (.cptr (cs.drop off))|.d (.gp b o)=>some (.d (.gp b (o+off)))|_=>none
@[go_sem] theorem z4g (off:Nat) (x:AO):evP ρ lv G (.faddr off x)=zql off (ev ρ x):=rfl
@[go_sem] theorem z2l (off k s g o:Nat):zql off (.ptr k s g o)=some (.ptr k s g (o+off)):=rfl
@[go_sem] theorem zz2 (off:Nat) (cs:List D):zql off (.cptr cs)=some (.cptr (cs.drop off)):=rfl
@[go_sem] theorem z4h (off b o:Nat):zql off (.d (.gp b o))=some (.d (.gp b (o+off))):=rfl
def zyx (agg:Bool) (off n:Nat) (v:AV):Option AV:=match v with|.d (.agg cs)=>(zch agg n (cs.drop off)).map .d|_=>none
@[go_sem] theorem z4i (agg:Bool) (off n:Nat) (x:AO):evP ρ lv G (.field agg off n x)=zyx agg off n (ev ρ x):=rfl
@[go_sem] theorem z2m (agg:Bool) (off n:Nat) (cs:List D):zyx agg off n (.d (.agg cs))=(zch agg n (cs.drop off)).map .d:=rfl
def zc1 (sz:Nat) (x:Option D) (i:AV):Option AV:=match x,i with
 | some (.list es),.d (.int _ n)=>if es.all (za sz)∧0≤n then (es[n.toNat]?).map fun e=>.cptr e.cells else none
 | some (.gs b off len _),.d (.int _ n)=>if 0≤n∧n<len then some (.d (.gp b (off+n.toNat * sz))) else none
 | _,_=>none
@[go_sem] theorem z4j (sz:Nat) (x i:AO):evP ρ lv G (.iaddr sz x i)=zc1 sz (ev ρ x).data (ev ρ i):=rfl
theorem zo7 (sz:Nat) (es:List D) (k:IntKind) (n:Int) (ha:es.all (za sz)=true) (h0:0≤n) (h:n.toNat<es.length):zc1 sz (some (.list es)) (.d (.int k n))=some (.cptr (es[n.toNat]).cells):=by
 simp only [zc1,ha,h0,and_self,if_true,List.getElem?_eq_getElem h,Option.map_some]
@[go_sem] theorem zla {α:Type} (sz:Nat) (f:α→D) (es:List α) (k:IntKind) (n:Int) (h0:0≤n) (h:n.toNat<es.length):zc1 sz (some (.list (es.map f))) (.d (.int k n))=if (es.map f).all (za sz)=true then some (.cptr (f es[n.toNat]).cells) else none:=by
  by_cases ha:(es.map f).all (za sz)=true
  · rw [zo7 sz _ k n ha h0 (by simpa using h),if_pos ha];simp
  · rw [if_neg ha];simp [zc1,ha]
@[go_sem] theorem z4k (sz b off len cap:Nat) (k:IntKind) (n:Int) (h0:0≤n) (h:n<len):zc1 sz (some (.gs b off len cap)) (.d (.int k n))=some (.d (.gp b (off+n.toNat * sz))):=by
  simp only [zc1,h0,h,and_self,if_true]
def zgc (len sz:Nat) (x i:AV):Option AV:=match x,i with
 | .ptr k s g o,.d (.int _ n)=>if 0≤n∧n<len then some (.ptr k s g (o+n.toNat * sz)) else none
 | .cptr cs,.d (.int _ n)=>if 0≤n∧n<len then some (.cptr (cs.drop (n.toNat * sz))) else none
 | .d (.gp b o),.d (.int _ n)=>if 0≤n∧n<len then some (.d (.gp b (o+n.toNat * sz))) else none
 | _,_=>none
@[go_sem] theorem z2n (len sz:Nat) (x i:AO):evP ρ lv G (.iaddrA len sz x i)=zgc len sz (ev ρ x) (ev ρ i):=rfl
@[go_sem] theorem zz3 (len sz k s g o:Nat) (ik:IntKind) (n:Int) (h0:0≤n) (h:n<len):zgc len sz (.ptr k s g o) (.d (.int ik n))=some (.ptr k s g (o+n.toNat * sz)):=by simp only [zgc,h0,h,and_self,if_true]
@[go_sem] theorem zyy (len sz:Nat) (cs:List D) (ik:IntKind) (n:Int) (h0:0≤n) (h:n<len):zgc len sz (.cptr cs) (.d (.int ik n))=some (.cptr (cs.drop (n.toNat * sz))):=by simp only [zgc,h0,h,and_self,if_true]
@[go_sem] theorem z2o (len sz b o:Nat) (ik:IntKind) (n:Int) (h0:0≤n) (h:n<len):zgc len sz (.d (.gp b o)) (.d (.int ik n))=some (.d (.gp b (o+n.toNat * sz))):=by simp only [zgc,h0,h,and_self,if_true]
def zz4 (x i:AV):Option AV:=match x,i with
 | .d (.str s),.d (.int _ n)=>if 0≤n then (s[n.toNat]?).map fun b=>.d (.int .u8 b.toNat) else none
 | _,_=>none
@[go_sem] theorem z7r (x i:AO):evP ρ lv G (.idxS x i)=zz4 (ev ρ x) (ev ρ i):=rfl
@[go_sem] theorem z7s (s:List UInt8) (k:IntKind) (n:Int) (h0:0≤n) (h:n.toNat<s.length):zz4 (.d (.str s)) (.d (.int k n))=some (.d (.int .u8 (s[n.toNat]).toNat)):=by
  simp only [zz4,h0,if_true,List.getElem?_eq_getElem h,Option.map_some]
def zz5 (agg:Bool) (len sz:Nat) (x i:AV):Option AV:=match x,i with
 | .d (.agg cs),.d (.int _ n)=>if 0≤n∧n<len then (zch agg sz (cs.drop (n.toNat * sz))).map .d else none
 | _,_=>none
@[go_sem] theorem z7t (agg:Bool) (len sz:Nat) (x i:AO):evP ρ lv G (.idxA agg len sz x i)=zz5 agg len sz (ev ρ x) (ev ρ i):=rfl
@[go_sem] theorem z7u (agg:Bool) (len sz:Nat) (cs:List D) (k:IntKind) (n:Int) (h0:0≤n) (h:n<len):zz5 agg len sz (.d (.agg cs)) (.d (.int k n))=(zch agg sz (cs.drop (n.toNat * sz))).map .d:=by simp only [zz5,h0,h,and_self,if_true]
def z4l (x:AV) (i:Nat):Option AV:=match x with|.tup vs=>(vs[i]?).map .d|_=>none
@[go_sem] theorem z9x (x:AO) (i:Nat):evP ρ lv G (.ext x i)=z4l (ev ρ x) i:=rfl
@[go_sem] theorem vExt_0 (a:D) (vs:List D):z4l (.tup (a::vs)) 0=some (.d a):=rfl
@[go_sem] theorem vExt_1 (a b:D) (vs:List D):z4l (.tup (a::b::vs)) 1=some (.d b):=rfl
@[go_sem] theorem vExt_2 (a b c:D) (vs:List D):z4l (.tup (a::b::c::vs)) 2=some (.d c):=rfl
@[go_sem] theorem vExt_3 (a b c d:D) (vs:List D):z4l (.tup (a::b::c::d::vs)) 3=some (.d d):=rfl
def z2p (str:Bool) (x:Option D):Option AV:=match x with|some y=>(z8c str y).map fun n=>.d (.int .i64 n)|none=>none
@[go_sem] theorem z9y (str:Bool) (x:AO):evP ρ lv G (.len str x)=z2p str (ev ρ x).data:=rfl
@[go_sem] theorem z4m (es:List D):z2p false (some (.list es))=some (.d (.int .i64 es.length)):=rfl
@[go_sem] theorem z7v:z2p false (some .nilS)=some (.d (.int .i64 0)):=rfl
@[go_sem] theorem z9z (b off len cap:Nat):z2p false (some (.gs b off len cap))=some (.d (.int .i64 len)):=rfl
@[go_sem] theorem z7w (s:List UInt8):z2p true (some (.str s))=some (.d (.int .i64 s.length)):=rfl
def vMx (x y:AV):Option AV:=match x,y with|.d (.int k a),.d (.int _ b)=>some (.d (.int k (if b > a then b else a)))|_,_=>none
@[go_sem] theorem evP_mx (x y:AO):evP ρ lv G (.mx x y)=vMx (ev ρ x) (ev ρ y):=rfl
@[go_sem] theorem vMx_i (k k':IntKind) (a b:Int):vMx (.d (.int k a)) (.d (.int k' b))=some (.d (.int k (max a b))):=by simp only [vMx];congr 3;by_cases h:b > a<;>simp [h]<;>omega
def vMn (x y:AV):Option AV:=match x,y with|.d (.int k a),.d (.int _ b)=>some (.d (.int k (if b<a then b else a)))|_,_=>none
@[go_sem] theorem evP_mn (x y:AO):evP ρ lv G (.mn x y)=vMn (ev ρ x) (ev ρ y):=rfl
@[go_sem] theorem vMn_i (k k':IntKind) (a b:Int):vMn (.d (.int k a)) (.d (.int k' b))=some (.d (.int k (min a b))):=by simp only [vMn];congr 3;by_cases h:b<a<;>simp [h]<;>omega
def zz6 (x:Option D):Option AV:=match x with
 | some .nilS=>some (.d (.str []))
 | some (.list es)=>(zbh es).map fun l=>.d (.str l)
 | _=>none
@[go_sem] theorem z90 (x:AO):evP ρ lv G (.b2s x)=zz6 (ev ρ x).data:=rfl
@[go_sem] theorem z7x:zz6 (some .nilS)=some (.d (.str [])):=rfl
def eB (b:UInt8):D:=.int .u8 b.toNat
theorem zd7 (l:List UInt8):zbh (l.map eB)=some l:=by
 induction l with
 | nil=>rfl
 | cons b l ih=>simp [eB,zbh] at ih ⊢;rw [ih]
@[go_sem] theorem z7y (l:List UInt8):zz6 (some (.list (l.map eB)))=some (.d (.str l)):=by simp only [zz6,zd7,Option.map_some]
def vS2b (x:AV):Option AV:=match x with|.d (.str s)=>some (.d (.list (s.map fun b=>.int .u8 b.toNat)))|_=>none
@[go_sem] theorem z91 (x:AO):evP ρ lv G (.s2b x)=vS2b (ev ρ x):=rfl
@[go_sem] theorem z92 (s:List UInt8):vS2b (.d (.str s))=some (.d (.list (s.map eB))):=rfl
@[go_sem] theorem eB_all (l:List UInt8):(l.map eB).all (za 1)=true:=by simp [List.all_map,Function.comp_def,eB,za,D.cells,D.one]
@[go_sem] theorem z7z (b:UInt8):(eB b).cells=[.int .u8 b.toNat]:=rfl
def z93 (x:Option D):Option AV:=match x with|some .nilS=>some (.d (.int .i64 0))|some (.gs _ _ _ cap)=>some (.d (.int .i64 cap))|_=>none
@[go_sem] theorem z94 (x:AO):evP ρ lv G (.cap x)=z93 (ev ρ x).data:=rfl
@[go_sem] theorem z70:z93 (some .nilS)=some (.d (.int .i64 0)):=rfl
@[go_sem] theorem z95 (b off len cap:Nat):z93 (some (.gs b off len cap))=some (.d (.int .i64 cap)):=rfl
def z71 (sz:Nat) (x:Option D) (lo hi mx:Option Int):Option AV :=
 match x,lo,hi,mx with
 | some (.gs b off _ cap),some l,some h,some m=>if 0≤l∧l≤h∧h≤m∧m≤cap then some (.d (.gs b (if m.toNat=l.toNat then off else off+l.toNat * sz) (h.toNat - l.toNat) (m.toNat - l.toNat))) else none
 | _,_,_,_=>none
@[go_sem] theorem z96 (sz:Nat) (x:AO) (lo:Option AO) (hi mx:AO):evP ρ lv G (.sl3 sz x lo hi mx)=z71 sz (ev ρ x).data (bnd ρ 0 lo) (zr8 (ev ρ hi)) (zr8 (ev ρ mx)):=by
  have e:∀ n o,bnd ρ n (some o)=zr8 (ev ρ o):=fun n o=>rfl
  simp only [evP,z71,e]
  generalize (ev ρ x).data=o
  generalize bnd ρ 0 lo=l
  generalize zr8 (ev ρ hi)=k
  generalize zr8 (ev ρ mx)=m
  cases o with
  | none=>rfl
  | some d =>
   cases d with
   | gs b off len cap=>cases l<;>cases k<;>cases m<;>simp
   | _=>rfl
@[go_sem] theorem z97 (sz b off len cap:Nat) (l h m:Int) (h1:0≤l) (h2:l≤h) (h3:h≤m) (h4:m≤cap):z71 sz (some (.gs b off len cap)) (some l) (some h) (some m)=some (.d (.gs b (if m.toNat=l.toNat then off else off+l.toNat * sz) (h.toNat - l.toNat) (m.toNat - l.toNat))):=by
  simp only [z71,h1,h2,h3,h4,and_self,if_true]
@[go_sem] theorem zz7 (sz by_:Nat) (es:List D) (h0:0<by_) (hb:es.length * by_≤mostBytes):zan sz by_ (.d .nilS) (.list es)=if es.all (za sz)=true then some (if es.isEmpty then .d .nilS else .own sz es) else none:=by
  by_cases ha:es.all (za sz)=true
  · simp only [zan,if_neg (Nat.ne_of_gt h0),zsi,if_pos ha,if_pos hb];cases es<;>rfl
  · simp only [zan,if_neg (Nat.ne_of_gt h0),zsi,if_neg ha]
@[go_sem] theorem zjq (sz by_:Nat) (xs es:List D) (h0:0<by_) (hb:(xs.length+es.length) * by_≤mostBytes):zan sz by_ (.own sz xs) (.list es)=if es.all (za sz)=true then some (.own sz (xs++es)) else none:=by
  simp only [zan,if_neg (Nat.ne_of_gt h0),zsi];by_cases ha:es.all (za sz)=true<;>simp [ha,hb]
@[go_sem] theorem zyz (sz by_:Nat) (xs:List D) (h0:0<by_) (hb:xs.length * by_≤mostBytes):zan sz by_ (.own sz xs) .nilS=some (.own sz xs):=by
  simp only [zan,if_neg (Nat.ne_of_gt h0),zsi,List.length_nil,Nat.add_zero,hb,and_self,if_true,List.append_nil]
@[go_sem] theorem zw4 (es:List D) (k:IntKind) (m:Int) (h0:0≤m) (h:es.length+m.toNat≤mostBytes):zan 0 0 (.own 1 es) (.int k m)=some (.own 1 (es++List.replicate m.toNat (.int .u8 0))):=by
  simp only [zan,zsj,h0,h,and_self,if_true]
@[go_sem] theorem zo8 (s:List UInt8) (h:s.length≤mostBytes):zan 1 0 (.d (.str [])) (.str s)=some (.own 1 (s.map eB)):=by
  simp only [zan,zsj,h,and_self,if_true]
  rfl
@[go_sem] theorem z2q (sz by_:Nat) (h0:0<by_):zan sz by_ (.d .nilS) .nilS=some (.d .nilS):=by
  simp [zan,Nat.ne_of_gt h0,zsi]
@[go_sem] theorem z4n (f:FuncId):target (.d (.fn f))=some (f,[]):=rfl
@[go_sem] theorem zz8 (f:FuncId) (caps:List (Nat×Nat×Nat)):target (.func f caps)=some (f,caps.map fun (k,s,g)=>.ptr k s g 0):=rfl
end
theorem zkp (n:Nat):(0≤(n:Int))=True:=by simp
theorem za0:mostBytes=140737488355328:=rfl
attribute [go_sem] za0 List.isEmpty_cons List.isEmpty_nil zkp Nat.add_zero Nat.zero_add decide_true decide_false not_true_eq_false not_false_eq_true Bool.not_true Bool.not_false AV.d.injEq and_self and_true true_and
@[go_sem] theorem sh_d (x:D):sh (.d x)=.d x:=rfl
@[go_sem] theorem sh_own (sz:Nat) (es:List D):sh (.own sz es)=.d (.list es):=rfl
@[go_sem] theorem sh_ptr (k s g off:Nat):sh (.ptr k s g off)=.ptr (k+1) s g off:=rfl
@[go_sem] theorem z98 (f:FuncId) (caps:List (Nat×Nat×Nat)):sh (.func f caps)=.func f (caps.map fun (k,s,g)=>(k+1,s,g)):=rfl
@[go_sem] theorem z99 (cs:List D):sh (.cptr cs)=.cptr cs:=rfl
@[go_sem] theorem sh_cp (v:AV):(sh v).cp=sh v:=by cases v<;>rfl
theorem zfk {ρ:Env}:∀ {args:List AO} {xs:List D},zx ρ args=some xs→(args.map (ev ρ)).map sh=xs.map .d
 | [],xs,h=>by simp [zx] at h;subst h;rfl
 | o::args,xs,h=>by
   simp only [zx] at h
   split at h
   · rename_i x xs' hx hxs
     cases h
     simp only [List.map_cons,zfk hxs]
     congr 1
     generalize ev ρ o=v at hx
     cases v<;>simp [AV.data] at hx<;>subst hx<;>rfl
   · cases h
theorem zqm {P:Program} {d:Option Nat} {f:AO} {args:List AO} {q:Nat} {ρ:Env} {L:Hp} {σ:List Hp} {G:Gh} {K:St→Prop} {g:FuncId} {xs cs:List D} {Q:AV→Prop}
 (hc:∀ σ,zaq P g ((xs++cs).map .d) σ G fun r σ' G'=>σ'=σ∧G'=G∧Q r) (ht:target (ev ρ f)=some (g,cs.map .d)) (hd:zx ρ args=some xs) (hK:∀ r,Q r→K (put ρ d r,L,σ,G)):zcw P d f args q ρ L σ G K:=by
 unfold zcw
 rw [ht]
 have e:(args.map (ev ρ)++cs.map AV.d).map sh=(xs++cs).map AV.d:=by
  rw [List.map_append,zfk hd,List.map_append,List.map_map];rfl
 simp only
 split
 · rw [e]
   exact (hc _).mono fun r lv G' ⟨h1,h2,h3⟩=>by subst h1;subst h2;exact hK r h3
 · split
   · rw [e]
     exact (hc _).mono fun r lv G' ⟨h1,h2,h3⟩=>by subst h1;subst h2;exact ⟨rfl,fun _=>zjg.refl _,hK r h3⟩
   · refine ⟨cs,rfl,?_⟩
     rw [hd]
     exact (hc _).mono fun r lv G' ⟨h1,h2,h3⟩=>by subst h1;subst h2;exact ⟨rfl,fun _=>zjg.refl _,hK r h3⟩
theorem zt2 {P:Program} {d:Option Nat} {f:AO} {args:List AO} {q:Nat} {ρ:Env} {L:Hp} {σ:List Hp} {G:Gh} {K:St→Prop} {g:FuncId} {xs:List D} {Q:AV→Prop}
 (hc:∀ σ,zaq P g (xs.map .d) σ G fun r σ' G'=>σ'=σ∧G'=G∧Q r) (ht:target (ev ρ f)=some (g,[])) (hd:zx ρ args=some xs) (hK:∀ r,Q r→K (put ρ d r,L,σ,G)):zcw P d f args q ρ L σ G K :=
 zqm (cs:=[]) (by simpa using hc) ht hd hK
theorem zz9 {P:Program} {d:Option Nat} {f:AO} {args:List AO} {q:Nat} {ρ:Env} {L:Hp} {σ:List Hp} {G:Gh} {K:St→Prop} {g:FuncId} {xs:List D} {Q:AV→Prop}
 (hc:zb2 P g xs Q) (ht:target (ev ρ f)=some (g,[])) (hd:zx ρ args=some xs) (hK:∀ r,Q r→K (put ρ d r,L,σ,G)):zcw P d f args q ρ L σ G K :=
 zt2 (fun σ=>hc.quiet σ G) ht hd hK
theorem E_le {l l':List (Nat×AV)} (h:∀ p∈l',VLe (E l p.1) p.2):∀ i,VLe (E l i) (E l' i):=by
 intro i
 induction l' with
 | nil=>exact .undef _
 | cons p l' ih =>
  obtain ⟨j,v⟩:=p
  simp only [E]
  split
  · rename_i e;subst e;exact h _ List.mem_cons_self
  · exact ih fun q hq=>h q (List.mem_cons_of_mem _ hq)
theorem zt3 {l l':List (Nat×AV)} {L:Hp} {σ:List Hp} {G:Gh} (h:∀ p∈l',VLe (E l p.1) p.2):zs3 (E l,L,σ,G) (E l',L,σ,G):=⟨E_le h,fun _=>BLe.refl _,rfl,GLe.refl _⟩
theorem z4o {l l':List (Nat×AV)} {h h':List (Nat×Blk)} {σ:List Hp} {G:Gh} (he:∀ p∈l',VLe (E l p.1) p.2) (hb:HB h=HB h'):zs3 (E l,HB h,σ,G) (E l',HB h',σ,G):=by rw [← hb];exact zt3 he
theorem zw5 (v:AV):VLe v v=True:=by simp [VLe.refl]
theorem zt4 (v:AV):VLe v .undef=True:=by simp [VLe.undef]
theorem zr9 (sz:Nat):VLe (.d .nilS) (.own sz [])=True:=by simp [VLe.nilown]
theorem z0a (sz:Nat) (es:List D):VLe (.own sz es) (.d (.list es))=True:=by simp [VLe.own]
attribute [go_sem] zw5 zt4 zr9 z0a
@[go_sem ↓] theorem z72 (l:List (Nat×AV)):(∀ p∈([]:List (Nat×AV)),VLe (E l p.1) p.2)=True:=by simp
@[go_sem ↓] theorem z4p (l l':List (Nat×AV)) (q:Nat×AV):(∀ p∈q::l',VLe (E l p.1) p.2)=(VLe (E l q.1) q.2∧∀ p∈l',VLe (E l p.1) p.2):=by simp
theorem zdr (h:List (Nat×Blk)):∀ (ss:List Nat),(ss.all fun s=>!(h.map (·.1)).contains s)=true→HB (h++ss.map fun s=>(s,⟨0,none⟩))=HB h:=by
 intro ss hs
 funext j
 induction h with
 | nil =>
  induction ss with
  | nil=>rfl
  | cons s ss ih=>simp only [List.nil_append,List.map_cons,HB] at ih ⊢;split<;>first|rfl|exact ih (by simp at hs ⊢)
 | cons p h ih =>
  obtain ⟨i,b⟩:=p
  simp only [List.cons_append,HB]
  split
  · rfl
  · refine ih ?_
    simp only [List.all_eq_true,List.map_cons,List.contains_cons,Bool.not_eq_true',Bool.or_eq_false_iff] at hs ⊢
    exact fun s hm=>(hs s hm).2
section
variable {P:Program} {κ:zay→St→Prop} {st:St} {h:zn κ}
theorem W.seq [DD] {x y:ACode} (hx:W P x (zn.mk (a:=zay.then (fun st'=>W P y (zn.mk (a:=κ)) st') κ)) st):W P (.seq x y) h st:=SW.seq hx
theorem W.block [DD] {id:Nat} {x:ACode} (hx:W P x (zn.mk (a:=zay.inBlock id κ)) st):W P (.block id x) h st:=SW.block hx
theorem W.scope [DD] {x:ACode} (hx:W P x h st):W P (.scope x) h st:=SW.scope hx
theorem W.reg [DD] {d:Bool} {os:List AI} (hx:zab P os st.1 st.2.1 st.2.2.1 st.2.2.2 (κ .normal)):W P (.reg d os) h st:=SW.reg hx
theorem W.skip [DD] (hx:κ .normal st):W P .skip h st:=SW.skip hx
theorem W.exit [DD] {id:Nat} (hx:κ (.exit id) st):W P (.exit id) h st:=SW.exit hx
theorem W.ret [DD] (hx:κ .ret st):W P .ret h st:=SW.ret hx
def wI2 (v:AV) {k1 k2:Prop} (_:zn k1) (_:zn k2):Prop:=∃ b,v=.d (.bool b)∧if b=true then k1 else k2
@[go_sem] theorem wI2_d (b:Bool) {k1 k2:Prop} (h1:zn k1) (h2:zn k2):wI2 (.d (.bool b)) h1 h2=wG (.d (.bool b)) true h1 h2:=by cases b<;>simp [wI2,wG,zh0]
theorem W.ifc [DD] {c:AO} {x y:ACode} (hx:wI2 (ev st.1 c) (zn.mk (a:=W P x (zn.mk (a:=κ)) st)) (zn.mk (a:=W P y (zn.mk (a:=κ)) st))):W P (.cond c x y) h st:=by
 obtain ⟨b,hb,hx⟩:=hx
 refine SW.cond hb (fun e=>?_) (fun e=>?_)
 · subst e;exact hx
 · subst e;exact hx
theorem zni {p:Prop} [Decidable p] {k1 k2:Prop} {i1:zn k1} {i2:zn k2} (h1:p→k1) (h2:¬ p→k2):wG (.d (.bool (decide p))) true i1 i2 :=
 wG_t (fun h=>h1 (of_decide_eq_true h)) (fun h=>h2 (of_decide_eq_false h))
theorem z0b {p:Prop} [Decidable p] {k1 k2:Prop} {i1:zn k1} {i2:zn k2} (h1:¬ p→k1) (h2:p→k2):wG (.d (.bool (decide p))) false i1 i2 :=
 wG_f (fun h=>h1 (of_decide_eq_false h)) (fun h=>h2 (of_decide_eq_true h))
theorem W.loop [DD] {x:ACode} (I:Nat→St→Prop) (h0:∃ n st0,zs3 st st0∧I n st0) (round:∀ n st',I n st'→W P x (zn.mk (a:=zay.then (z88 (zn.mk (a:=I)) n) κ)) st'):W P (.loop x) h st:=by
 obtain ⟨n,st0,hl,hi⟩:=h0
 exact (SW.loop I hi round).weaken hl
theorem W.weaken [DD] {c:ACode} {st0:St} (hl:zs3 st st0) (hx:W P c (zn.mk (a:=κ)) st0):W P c h st:=SW.weaken hl hx
theorem z88.mk {I:Nat→St→Prop} {h:zn I} {n:Nat} (hx:∃ m st0,m<n∧zs3 st st0∧I m st0):z88 h n st:=hx
end
theorem zbl {P:Program} {gs:List Nat} {f:FuncId} {nt:Nat} {res:List zfz} {c:ACode} {vs:List AV} {σ:List Hp} {G:Gh} {Q:AV→List Hp→Gh→Prop} (hm:P.follows .mixedOrders=true) (hf:zj P gs f=some ⟨nt,res,c⟩)
 (h:W P c (zn.mk (a:=zwr res Q)) (E (zqh 0 vs),HB [],σ,G)):zaq P f vs σ G Q :=
 zoz hm hf (by rw [zzn];exact h)
theorem zdf {P:Program} {gs:List Nat} {f:FuncId} {nt:Nat} {res:List zfz} {c:ACode} {xs:List D} {Q:AV→Prop} (hm:P.follows .mixedOrders=true) (hf:zj P gs f=some ⟨nt,res,c⟩)
 (h:W P c (zn.mk (a:=zwr res fun r σ' G'=>σ'=[]∧G'=zel∧Q r)) (E (zqh 0 (xs.map .d)),HB [],[],zel)):zb2 P f xs Q:=zbl hm hf h
theorem Fin.le {res:List zfz} {Q:AV→List Hp→Gh→Prop} {h:zn Q} {st:St} {r r':AV} (hf:fin res st.1 (st.2.1::st.2.2.1) st.2.2.2=some r) (hl:RLe r r') (hq:Q r' st.2.2.1 st.2.2.2):Fin res h st:=⟨r,r',hf,hl,hq⟩
theorem Fin.eq {res:List zfz} {Q:AV→List Hp→Gh→Prop} {h:zn Q} {st:St} {r:AV} (hf:fin res st.1 (st.2.1::st.2.2.1) st.2.2.2=some r) (hq:Q r st.2.2.1 st.2.2.2):Fin res h st:=⟨r,r,hf,.refl r,hq⟩
theorem Fin.p {res:List zfz} {Q:AV→Prop} {h:zn fun (r:AV) (σ':List Hp) (G':Gh)=>σ'=[]∧G'=zel∧Q r} {ρ:Env} {L:Hp} {r:AV} (hf:fin res ρ [L] zel=some r) (hq:Q r):Fin res h (ρ,L,[],zel):=⟨r,r,hf,.refl r,rfl,rfl,hq⟩
theorem Fin.ple {res:List zfz} {Q:AV→Prop} {h:zn fun (r:AV) (σ':List Hp) (G':Gh)=>σ'=[]∧G'=zel∧Q r} {ρ:Env} {L:Hp} {r r':AV} (hf:fin res ρ [L] zel=some r) (hl:RLe r r') (hq:Q r'):Fin res h (ρ,L,[],zel):=⟨r,r',hf,hl,rfl,rfl,hq⟩
section
variable {P:Program} {d:Option Nat} {f:AO} {args:List AO} {q:Nat} {ρ:Env} {L:Hp} {σ:List Hp} {G:Gh} {K:St→Prop} {h:zn K} {g:FuncId} {xs ys:List D} {Q:AV→Prop}
theorem wC_P (hc:zb2 P g xs Q) (ht:target (ev ρ f)=some (g,[])∧zx ρ args=some xs) (hK:∀ r,Q r→K (put ρ d r,L,σ,G)):wC P d f args q ρ L σ G h:=zz9 hc ht.1 ht.2 hK
end
theorem zd2 {k:IntKind} {a b:Int} (h:a=b):VLe (.d (.int k a)) (.d (.int k b)):=by rw [h];exact .refl _
theorem iE {k:IntKind} {a b:Int} (h:a=b):AV.d (.int k a)=.d (.int k b):=by rw [h]
end Go.E2
namespace Go.E2
structure Row (sz n cap:Nat) (es cs:List D):Prop where
 len:es.length=n
 all:es.all (za sz)=true
 fit:n≤cap
 room:cap * sz≤cs.length
 eq:cs.take (n * sz)=flat es
theorem Row.fl {sz n cap:Nat} {es cs:List D} (h:Row sz n cap es cs):(flat es).length=n * sz:=by rw [zu h.all,h.len]
theorem Row.split {sz n cap:Nat} {es cs:List D} (h:Row sz n cap es cs):cs=flat es++cs.drop (n * sz):=by rw [← h.eq,List.take_append_drop]
theorem Row.ncs {sz n cap:Nat} {es cs:List D} (h:Row sz n cap es cs):n * sz≤cs.length:=Nat.le_trans (Nat.mul_le_mul_right _ h.fit) h.room
theorem Row.mk' {sz n cap:Nat} {es rest:List D} (hl:es.length=n) (ha:es.all (za sz)=true) (hc:n≤cap) (hr:cap * sz≤(flat es++rest).length):Row sz n cap es (flat es++rest) :=
 ⟨hl,ha,hc,hr,by rw [List.take_append_of_le_length (by rw [zu ha,hl];exact Nat.le_refl _),List.take_of_length_le (by rw [zu ha,hl];exact Nat.le_refl _)]⟩
theorem zt5 {i n sz:Nat} (h:i<n):i * sz+sz≤n * sz:=by
 have:=Nat.mul_le_mul_right sz (Nat.succ_le_of_lt h)
 rw [Nat.succ_mul] at this;exact this
theorem Row.get {sz n cap:Nat} {es cs:List D} (h:Row sz n cap es cs) {i:Nat} (hi:i<es.length):(cs.drop (i * sz)).take sz=es[i].cells:=by
 have hi':i<n:=h.len▸hi
 have:=zt5 (sz:=sz) hi'
 rw [zp6 h.all (List.getElem?_eq_getElem hi),← h.eq,List.drop_take,List.take_take]
 congr 1
 omega
theorem Row.get1 {sz n cap:Nat} {es cs:List D} (h:Row sz n cap es cs) {i j:Nat} (hi:i<es.length) (hj:j<sz):(cs.drop (i * sz+j)).head?=es[i].cells[j]?:=by
 rw [← h.get hi,List.getElem?_take_of_lt hj,List.getElem?_drop,List.head?_drop]
theorem Row.fits {sz n cap:Nat} {es cs:List D} (h:Row sz n cap es cs) {i:Nat} (hi:i<es.length):i * sz+sz≤cs.length:=by
 have:=zt5 (sz:=sz) (h.len▸hi:i<n)
 have:=h.ncs
 omega
theorem zcn {cs vs:List D} {off:Nat} (h:off+vs.length≤cs.length):(zbb cs vs off).length=cs.length:=by
 simp only [zbb,List.length_append,List.length_take,List.length_drop];omega
theorem znj {sz:Nat}:∀ {es:List D} {i:Nat} {x:D},es.all (za sz)=true→x.cells.length=sz→i<es.length→flat (es.set i x)=zbb (flat es) x.cells (i * sz)
 | e::es,0,x,ha,hx,_=>by
   simp only [List.all_cons,Bool.and_eq_true] at ha
   have he:e.cells.length=sz:=by have:=ha.1;simp [za] at this;exact this.1
   simp only [List.set_cons_zero,z7,zbb,Nat.zero_mul,List.take_zero,List.nil_append,Nat.zero_add]
   rw [List.drop_append_of_le_length (by omega),List.drop_of_length_le (by omega),List.nil_append]
 | e::es,i+1,x,ha,hx,hi=>by
   simp only [List.all_cons,Bool.and_eq_true] at ha
   have he:e.cells.length=sz:=by have:=ha.1;simp [za] at this;exact this.1
   have ih:=znj (i:=i) ha.2 hx (by simpa using hi)
   simp only [List.set_cons_succ,z7,ih,zbb,Nat.add_mul,Nat.one_mul]
   rw [List.take_append,List.take_of_length_le (by omega:e.cells.length≤i * sz+sz),he,show i * sz+sz - sz=i * sz from by omega]
   rw [List.drop_append,List.drop_of_length_le (by omega:e.cells.length≤i * sz+sz+x.cells.length),List.nil_append,he,show i * sz+sz+x.cells.length - sz=i * sz+x.cells.length from by omega]
   simp [List.append_assoc]
theorem z0c {es:List D} {p:D→Bool} (h:es.all p=true) {i:Nat} {x:D} (hx:p x=true):(es.set i x).all p=true:=by
 rw [List.all_eq_true] at h ⊢
 intro y hy
 rcases List.mem_or_eq_of_mem_set hy with h1|h1
 · exact h y h1
 · subst h1;exact hx
theorem Row.set {sz n cap:Nat} {es cs:List D} (h:Row sz n cap es cs) {i:Nat} (hi:i<es.length) {x:D} (hx:za sz x=true):Row sz n cap (es.set i x) (zbb cs x.cells (i * sz)):=by
 have hxl:x.cells.length=sz:=by simp [za] at hx;exact hx.1
 have hf:=h.fits hi
 have hfl:=h.fl
 have hlt:=zt5 (sz:=sz) (h.len▸hi:i<n)
 refine ⟨by simpa using h.len,z0c h.all hx,h.fit,by rw [zcn (by omega)];exact h.room,?_⟩
 rw [znj h.all hxl hi]
 conv=>lhs;rw [h.split]
 simp only [zbb]
 rw [List.take_append_of_le_length (by rw [hfl];omega:i * sz≤(flat es).length),List.drop_append_of_le_length (by rw [hfl,hxl];omega),← List.append_assoc,List.take_append_of_le_length,List.take_of_length_le]
 · simp only [List.length_append,List.length_take,List.length_drop];omega
 · simp only [List.length_append,List.length_take,List.length_drop];omega
theorem Row.take {sz n cap:Nat} {es cs:List D} (h:Row sz n cap es cs) {m c:Nat} (hm:m≤n) (hmc:m≤c) (hc:c≤cap):Row sz m c (es.take m) cs:=by
 refine ⟨by rw [List.length_take,h.len];omega,zb5 h.all m,hmc,Nat.le_trans (Nat.mul_le_mul_right _ hc) h.room,?_⟩
 rw [zex m h.all,← h.eq,List.take_take]
 congr 1
 exact (Nat.min_eq_left (Nat.mul_le_mul_right _ hm)).symm
theorem zhs {G:Gh} {sz:Nat} {es:List D} (h:es.all (za sz)=true):zbv G sz (.list es)=some (es.length,flat es):=by simp only [zbv,h,if_true]
theorem Row.view {G:Gh} {sz n cap b:Nat} {es cs:List D} (h:Row sz n cap es cs) (hb:G b=some cs) {i m c:Nat} (_hi:i≤n) (hm:i+m≤n):zbv G sz (.gs b (if c=i then 0 else 0+i * sz) m (c - i))=some (m,flat ((es.drop i).take m))∨(c=i∧m≠0):=by
 have hn:=h.ncs
 have h1:(i+m) * sz≤n * sz:=Nat.mul_le_mul_right _ hm
 rw [Nat.add_mul] at h1
 by_cases hc:c=i
 · by_cases hm0:m=0
   · subst hm0
     left
     simp [zbv,hb,hc,flat]
   · exact .inr ⟨hc,hm0⟩
 · left
   have h0:0+i * sz+m * sz≤cs.length:=by omega
   simp only [zbv,hb,if_neg hc,h0,if_true]
   congr 2
   rw [zex m (zbd h.all i),zey i h.all,← h.eq,Nat.zero_add,List.drop_take,List.take_take]
   congr 1
   omega
theorem Row.view0 {G:Gh} {sz n cap b:Nat} {es cs:List D} (h:Row sz n cap es cs) (hb:G b=some cs) {c:Nat}:zbv G sz (.gs b 0 n c)=some (n,flat es):=by
 have:=h.ncs
 have h0:0+n * sz≤cs.length:=by omega
 simp only [zbv,hb,h0,if_true,List.drop_zero,h.eq]
section
variable {d:Nat} {sz by_:Nat} {z:List D} {l:List (Nat×AV)} {L:Hp} {σ:List Hp} {G:Gh} {K:St→Prop}
theorem znk {olds es2:List D} {n m:Nat} {es:List D} (hz:z.length=sz) (ho:olds=flat es) (hn:es.length=n) (ha:es.all (za sz)=true) (hm:es2.length=m) (ha2:es2.all (za sz)=true) (hb:(n+m) * by_≤mostBytes)
 (hK:∀ b cap cs,G b=none→Row sz (n+m) cap (es++es2) cs→K (E ((d,.d (.gs b 0 (n+m) cap))::l),L,σ,G.set b (some cs))):zsk (some d) sz by_ z olds (flat es2) n m (E l) L σ G K:=by
 refine ⟨hb,fun b cap h1 h2=>hK b cap _ h1 ?_⟩
 subst ho
 have e:flat es++flat es2++rep (cap - (n+m)) z=flat (es++es2)++rep (cap - (n+m)) z:=by rw [zbc]
 rw [e]
 have hall:(es++es2).all (za sz)=true:=by rw [List.all_append,ha,ha2];rfl
 refine Row.mk' (by simp [hn,hm]) hall h2 ?_
 rw [List.length_append,zu hall,List.length_append,hn,hm]
 have:(rep (cap - (n+m)) z).length=(cap - (n+m)) * sz:=by simp [rep,hz]
 rw [this,← Nat.add_mul]
 exact Nat.mul_le_mul_right _ (by omega)
theorem zw6 {es2:List D} {m:Nat} (hz:z.length=sz) (hm:es2.length=m) (ha2:es2.all (za sz)=true) (hb:m * by_≤mostBytes)
 (h0:m=0→K (E ((d,.d .nilS)::l),L,σ,G)) (hK:m≠0→∀ b cap cs,G b=none→Row sz m cap es2 cs→K (E ((d,.d (.gs b 0 m cap))::l),L,σ,G.set b (some cs))):zq1 (some d) sz by_ z .nilS m (flat es2) (E l) L σ G K:=by
 simp only [zq1]
 split
 · rename_i e;exact h0 e
 · rename_i e
   refine znk (es:=[]) hz (by simp [flat]) rfl rfl hm ha2 (by simpa using hb) ?_
   intro b cap cs h1 h2
   have:=hK e b cap cs h1 (by simpa using h2)
   simpa using this
theorem zw7 {b n cap:Nat} {es cs es2:List D} {m:Nat} (hG:G b=some cs) (hr:Row sz n cap es cs) (hz:z.length=sz) (hm:es2.length=m) (ha2:es2.all (za sz)=true) (hb:(n+m) * by_≤mostBytes)
 (h1:∀ cs',n+m≤cap→Row sz (n+m) cap (es++es2) cs'→K (E ((d,.d (.gs b 0 (n+m) cap))::l),L,σ,G.set b (some cs')))
 (h2:∀ b' cap' cs',cap<n+m→G b'=none→Row sz (n+m) cap' (es++es2) cs'→K (E ((d,.d (.gs b' 0 (n+m) cap'))::l),L,σ,G.set b' (some cs'))):zq1 (some d) sz by_ z (.gs b 0 n cap) m (flat es2) (E l) L σ G K:=by
 have hn:=hr.ncs
 have hfl:=hr.fl
 have hall:(es++es2).all (za sz)=true:=by rw [List.all_append,hr.all,ha2];rfl
 simp only [zq1,hG,Nat.zero_add]
 refine ⟨hn,?_⟩
 split
 · rename_i hc
   have hfit:(n+m) * sz≤cs.length:=Nat.le_trans (Nat.mul_le_mul_right _ hc) hr.room
   refine ⟨hfit,h1 _ hc ⟨by simp [hr.len,hm],hall,hc,?_,?_⟩⟩
   · rw [zcn (by rw [zu ha2,hm,← Nat.add_mul];exact hfit)];exact hr.room
   · simp only [zbb]
     rw [hr.eq,← zbc,List.take_append_of_le_length,List.take_of_length_le]
     · rw [zu hall,List.length_append,hr.len,hm];exact Nat.le_refl _
     · rw [zu hall,List.length_append,hr.len,hm];exact Nat.le_refl _
 · rename_i hc
   rw [List.drop_zero,hr.eq]
   exact znk hz rfl hr.len hr.all hm ha2 hb fun b' cap' cs' q1 q2=>h2 b' cap' cs' (by omega) q1 q2
end
section
variable {P:Program} {os:List AI} {l:List (Nat×AV)} {L:Hp} {σ:List Hp} {G:Gh} {K:St→Prop}
def wA (x:AV) (y:Option D) {k:D→D→Prop} (_:zn k):Prop:=∃ u v,x=.d u∧y=some v∧k u v
@[go_sem] theorem wA_mk (u v:D) {k:D→D→Prop} (h:zn k):wA (.d u) (some v) h=k u v:=by simp [wA]
def z4q (d:Option Nat) (sz by_:Nat) (z:List D) (x y:D) (ρ:Env) (L:Hp) (σ:List Hp) (G:Gh) {K:St→Prop} (_:zn K):Prop:=match zsh G sz y with|some (m,ys)=>zq1 d sz by_ z x m ys ρ L σ G K|none=>False
theorem zt6 {d:Option Nat} {sz by_:Nat} {z:List D} {x y:D} {ρ:Env} {m:Nat} {ys:List D} {hk:zn K} (h:zbv G sz y=some (m,ys)) (hK:zq1 d sz by_ z x m ys ρ L σ G K):z4q d sz by_ z x y ρ L σ G hk:=by unfold z4q;rw [zxi h];exact hK
@[go_sem ↓] theorem z4r {d:Nat} {sz b:Nat} {z:List D} {x y:AO}:zab P (⟨some d,.appG sz b z x y,none⟩::os) (E l) L σ G K=wA (ev (E l) x) (ev (E l) y).data (zn.mk (a:=fun u v=>z4q (some d) sz b z u v (E l) L σ G (zn.mk (a:=fun st=>zab P os st.1 st.2.1 st.2.2.1 st.2.2.2 K)))):=by
  simp only [zab,zag,zar,zb9,wA,z4q,eq_iff_iff]
  generalize ev (E l) x=u
  generalize (ev (E l) y).data=v
  cases u<;>cases v<;>simp<;>exact Iff.rfl
def appN (d:Option Nat) (sz by_:Nat) (z:List D) (x n:D) (ρ:Env) (L:Hp) (σ:List Hp) (G:Gh) {K:St→Prop} (_:zn K):Prop:=∃ k m,n=.int k m∧0≤m∧m.toNat * by_≤mostBytes∧zq1 d sz by_ z x m.toNat (rep m.toNat z) ρ L σ G K
@[go_sem ↓] theorem z4s {d:Nat} {sz b:Nat} {z:List D} {x n:AO}:zab P (⟨some d,.appZ sz b z x n,none⟩::os) (E l) L σ G K=wA (ev (E l) x) (ev (E l) n).data (zn.mk (a:=fun u v=>appN (some d) sz b z u v (E l) L σ G (zn.mk (a:=fun st=>zab P os st.1 st.2.1 st.2.2.1 st.2.2.2 K)))):=by
  simp only [zab,zag,zar,zb9,wA,appN,eq_iff_iff]
  generalize ev (E l) x=u
  generalize ev (E l) n=v
  cases u with
  | d u =>
   cases v with
   | d v =>
    cases v with
    | int k m =>
     refine ⟨fun ⟨h1,h2,h3⟩=>⟨_,_,rfl,rfl,k,m,rfl,h1,h2,h3⟩,?_⟩
     rintro ⟨u',v',e1,e2,k',m',e3,h1,h2,h3⟩
     cases e1;cases e2;cases e3
     exact ⟨h1,h2,h3⟩
    | _=>simp [AV.data]
   | own s es=>simp [AV.data]
   | _=>simp [AV.data]
  | _=>simp
def z0d {k:Nat→Prop} (_:zn k) (G:Gh):Prop:=∀ b,G b=none→k b
theorem zam {k:Nat→Prop} {h:zn k} {G:Gh} (hk:∀ b,G b=none→k b):z0d h G:=hk
@[go_sem ↓] theorem z73 {d:Nat} {sz n:Nat} {z:D} {ps:List (Nat×AO)}:zab P (⟨some d,.mkG sz n z ps,none⟩::os) (E l) L σ G K=wB (zx (E l) (ps.map (·.2))) (zn.mk (a:=fun vs=>wT (vs.all (za sz) && za sz z && (ps.all fun p=>p.1<n)) (zn.mk (a:=wL ((ps.zip vs).foldl (fun es (p,v)=>es.set p.1 v) (List.replicate n z)) (zn.mk (a:=fun es=>z0d (zn.mk (a:=fun b=>zab P os (E ((d,.d (.gs b 0 n n))::l)) L σ (G.set b (some (flat es))) K)) G)))))):=by
  simp only [zab,zag,zar,zb9,wB,wT,wL,z0d,eq_iff_iff]
  cases zx (E l) (ps.map (·.2)) with
  | none=>simp
  | some vs=>simp [zr7]
def wCp (sz:Nat) (x:AV) (y:Option D) (G:Gh) {k:Int→Gh→Prop} (_:zn k):Prop :=
 ∃ b off len cap v cs m ys,x=.d (.gs b off len cap)∧y=some v∧G b=some cs∧zbv G sz v=some (m,ys)∧off+len * sz≤cs.length∧k (min (len:Int) (m:Int)) (G.set b (some (zbb cs (ys.take (min len m * sz)) off)))
@[go_sem ↓] theorem z4t {d:Option Nat} {sz:Nat} {x y:AO}:zab P (⟨d,.copy sz x y,none⟩::os) (E l) L σ G K=wCp sz (ev (E l) x) (ev (E l) y).data G (zn.mk (a:=fun m G'=>zab P os (put (E l) d (.d (.int .i64 m))) L σ G' K)):=by
  rw [zd1 (fun _=>rfl)]
  simp only [zk,wCp,eq_iff_iff]
  generalize ev (E l) x=u
  generalize (ev (E l) y).data=v
  constructor
  · rintro ⟨st,h,hk⟩
    split at h
    · split at h
      · split at h
        · rename_i h1 h2 h3
          cases h
          exact ⟨_,_,_,_,_,_,_,_,rfl,rfl,h1,h2,h3,hk⟩
        · cases h
      · cases h
    · cases h
  · rintro ⟨b,off,len,cap,v,cs,m,ys,rfl,rfl,h1,h2,h3,hk⟩
    exact ⟨_,by simp only [h1,h2,h3,if_true];rfl,hk⟩
end
theorem Row.copy {sz n cap:Nat} {es cs ys:List D} (h:Row sz n cap es cs) {i:Nat} (hy:ys.all (za sz)=true) (hi:i+ys.length≤n):Row sz n cap (es.take i++ys++es.drop (i+ys.length)) (zbb cs (flat ys) (i * sz)):=by
 have hfl:=h.fl
 have hyl:=zu hy
 have hn:=h.ncs
 have hm:(i+ys.length) * sz≤n * sz:=Nat.mul_le_mul_right _ hi
 have hm':=hm
 rw [Nat.add_mul] at hm'
 have hall:(es.take i++ys++es.drop (i+ys.length)).all (za sz)=true:=by rw [List.all_append,List.all_append,zb5 h.all,hy,zbd h.all];rfl
 have hlen:(es.take i++ys++es.drop (i+ys.length)).length=n:=by simp only [List.length_append,List.length_take,List.length_drop,h.len];omega
 refine ⟨hlen,hall,h.fit,by rw [zcn (by rw [hyl];omega)];exact h.room,?_⟩
 have e:flat (es.take i++ys++es.drop (i+ys.length))=zbb (flat es) (flat ys) (i * sz):=by
  simp only [zbc,zbb,zex i h.all,zey _ h.all,hyl,Nat.add_mul]
 rw [e]
 conv=>lhs;rw [h.split]
 simp only [zbb]
 rw [List.take_append_of_le_length (by rw [hfl];omega:i * sz≤(flat es).length),List.drop_append_of_le_length (by rw [hfl,hyl];omega),← List.append_assoc,List.take_append_of_le_length,List.take_of_length_le]
 · simp only [List.length_append,List.length_take,List.length_drop];omega
 · simp only [List.length_append,List.length_take,List.length_drop];omega
end Go.E2
