/-
 Rules by which a region is run on what its slots hold.
 Conditions: none;definitions and laws.
-/
import Derived.Test.YtlejjdbmmdghmaaEN1
import Derived.Lib.Overlaps
namespace Go.E2
def E:List (Nat×AV)→Env
 | [],_=>.undef
 | (i,v)::l,j=>if j=i then v else E l j
def HB:List (Nat×Blk)→Hp
 | [],_=>⟨0,none⟩
 | (i,b)::l,j=>if j=i then b else HB l j
def zey:List (Nat×Blk)→Nat→Blk→List (Nat×Blk)
 | [],s,b=>[(s,b)]
 | (i,c)::l,s,b=>if s=i then (s,b)::l else (i,c)::zey l s b
@[go_sem] theorem E_nil (j:Nat):E [] j=.undef:=rfl
@[go_sem] theorem E_cons (i j:Nat) (v:AV) (l:List (Nat×AV)):E ((i,v)::l) j=if j=i then v else E l j:=rfl
@[go_sem] theorem HB_nil (j:Nat):HB [] j=⟨0,none⟩:=rfl
@[go_sem] theorem z8j (i j:Nat) (b:Blk) (l:List (Nat×Blk)):HB ((i,b)::l) j=if j=i then b else HB l j:=rfl
@[go_sem] theorem z6d (s:Nat) (b:Blk):zey [] s b=[(s,b)]:=rfl
@[go_sem] theorem z3s (i s:Nat) (b c:Blk) (l:List (Nat×Blk)):zey ((i,c)::l) s b=if s=i then (s,b)::l else (i,c)::zey l s b:=rfl
theorem zug (l:List (Nat×AV)) (d:Nat) (v:AV):upd (E l) d v=E ((d,v)::l):=rfl
theorem zuh (l:List (Nat×Blk)) (s:Nat) (b:Blk):upd (HB l) s b=HB (zey l s b):=by
 induction l with
 | nil=>rfl
 | cons p l ih =>
  obtain ⟨i,c⟩:=p
  funext j
  simp only [zey]
  by_cases h:s=i
  · subst h
    rw [if_pos rfl]
    by_cases hj:j=s<;>simp [upd,HB,hj]
  · rw [if_neg h]
    have e:=congrFun ih j
    by_cases hj:j=s
    · subst hj
      simp [upd] at e
      simp [upd,HB,h,← e]
    · simp [upd,hj] at e
      simp [upd,HB,hj,← e]
def zqt (n:Nat):List AV→List (Nat×AV)
 | []=>[]
 | v::vs=>(n,v)::zqt (n+1) vs
theorem zqu:∀ (vs:List AV) (n i:Nat),E (zqt n vs) i=if n≤i then vs.getD (i - n) .undef else .undef
 | [],n,i=>by simp [zqt,E]
 | v::vs,n,i=>by
   simp only [zqt,E]
   by_cases h:i=n
   · subst h;simp
   · rw [if_neg h,zqu vs (n+1) i]
     by_cases h1:n≤i
     · have:n+1≤i:=by omega
       rw [if_pos h1,if_pos this]
       obtain ⟨k,rfl⟩:∃ k,i=n+1+k:=⟨i - (n+1),by omega⟩
       have e1:n+1+k - n=k+1:=by omega
       have e2:n+1+k - (n+1)=k:=by omega
       rw [e1,e2];simp
     · have:¬ n+1≤i:=by omega
       rw [if_neg h1,if_neg this]
theorem zz8 (vs:List AV):ofL vs=E (zqt 0 vs):=by
 funext i;rw [zqu];simp [ofL]
@[go_sem] theorem z6e (n:Nat):zqt n []=[]:=rfl
@[go_sem] theorem z3t (n:Nat) (v:AV) (vs:List AV):zqt n (v::vs)=(n,v)::zqt (n+1) vs:=rfl
structure zu {α:Type} (a:α):Type where
 mk ::
def wV (v:AV) {k:AV→Prop} (_:zu k):Prop:=k v
def wL (cs:List D) {k:List D→Prop} (_:zu k):Prop:=k cs
def wN (n:Nat) {k:Nat→Prop} (_:zu k):Prop:=k n
def wH (h:List (Nat×Blk)) {k:List (Nat×Blk)→Prop} (_:zu k):Prop:=k h
def wO (o:Option AV) {k:AV→Prop} (_:zu k):Prop:=∃ v,o=some v∧k v
def wD (o:Option D) {k:D→Prop} (_:zu k):Prop:=∃ v,o=some v∧k v
def wB (o:Option (List D)) {k:List D→Prop} (_:zu k):Prop:=∃ v,o=some v∧k v
def wT (b:Bool) {p:Prop} (_:zu p):Prop:=b=true∧p
def wP (c:Prop) {p:Prop} (_:zu p):Prop:=c∧p
def wG (v:AV) (want:Bool) {k1 k2:Prop} (_:zu k1) (_:zu k2):Prop:=∃ r,zh4 v want=some r∧if r=true then k1 else k2
section
variable {v v':AV} {k:AV→Prop} {o o':Option AV} {b b':Bool} {p:Prop}
@[go_sem] theorem wV_eq (h:zu k):wV v h=k v:=rfl
@[go_sem] theorem wL_eq (c:List D) {k:List D→Prop} (h:zu k):wL c h=k c:=rfl
@[go_sem] theorem wN_eq (c:Nat) {k:Nat→Prop} (h:zu k):wN c h=k c:=rfl
@[go_sem] theorem wH_eq (c:List (Nat×Blk)) {k:List (Nat×Blk)→Prop} (h:zu k):wH c h=k c:=rfl
@[go_sem] theorem z8k (h:zu k):wO (some v) h=k v:=by simp [wO]
@[go_sem] theorem z8l (x:D) {k:D→Prop} (h:zu k):wD (some x) h=k x:=by simp [wD]
@[go_sem] theorem z8m (x:List D) {k:List D→Prop} (h:zu k):wB (some x) h=k x:=by simp [wB]
@[go_sem] theorem z8n (h:zu p):wT true h=p:=by simp [wT]
@[go_sem] theorem z8o (h:zu p):wP True h=p:=by simp [wP]
@[go_sem] theorem z8p {k1 k2:Prop} (h1:zu k1) (h2:zu k2):wG (.d (.bool true)) true h1 h2=k1:=by simp [wG,zh4]
@[go_sem] theorem z8q {k1 k2:Prop} (h1:zu k1) (h2:zu k2):wG (.d (.bool false)) false h1 h2=k1:=by simp [wG,zh4]
@[go_sem] theorem z8r {k1 k2:Prop} (h1:zu k1) (h2:zu k2):wG (.d (.bool true)) false h1 h2=k2:=by simp [wG,zh4]
@[go_sem] theorem z8s {k1 k2:Prop} (h1:zu k1) (h2:zu k2):wG (.d (.bool false)) true h1 h2=k2:=by simp [wG,zh4]
@[go_sem] theorem wG_skp {want:Bool} {k1 k2:Prop} (h1:zu k1) (h2:zu k2):wG .skp want h1 h2=k2:=by simp [wG,zh4]
theorem wG_t {b:Bool} {k1 k2:Prop} {i1:zu k1} {i2:zu k2} (h1:b=true→k1) (h2:b=false→k2):wG (.d (.bool b)) true i1 i2:=by
 cases b
 · rw [z8s];exact h2 rfl
 · rw [z8p];exact h1 rfl
theorem wG_f {b:Bool} {k1 k2:Prop} {i1:zu k1} {i2:zu k2} (h1:b=false→k1) (h2:b=true→k2):wG (.d (.bool b)) false i1 i2:=by
 cases b
 · rw [z8q];exact h1 rfl
 · rw [z8r];exact h2 rfl
theorem z8t {c:Prop} {h:zu p} (hc:c) (hk:p):wP c h:=⟨hc,hk⟩
end
@[go_sem] theorem data_d (x:D):(AV.d x).data=some x:=rfl
@[go_sem] theorem z6f (sz:Nat) (es:List D):(AV.own sz es).data=some (.list es):=rfl
@[go_sem] theorem cp_d (x:D):(AV.d x).cp=.d x:=rfl
@[go_sem] theorem cp_own (sz:Nat) (es:List D):(AV.own sz es).cp=.d (.list es):=rfl
@[go_sem] theorem cp_ptr (k s g off:Nat):(AV.ptr k s g off).cp=.ptr k s g off:=rfl
@[go_sem] theorem z8u (cs:List D):(AV.cptr cs).cp=.cptr cs:=rfl
@[go_sem] theorem z8v (f:FuncId) (c:List (Nat×Nat×Nat)):(AV.func f c).cp=.func f c:=rfl
@[go_sem] theorem cp_tup (xs:List D):(AV.tup xs).cp=.tup xs:=rfl
@[go_sem] theorem cp_skp:AV.skp.cp=.skp:=rfl
@[go_sem] theorem z6g:AV.undef.cp=.undef:=rfl
@[go_sem] theorem ev_t (ρ:Env) (i:Nat):ev ρ (.t i)=ρ i:=rfl
@[go_sem] theorem ev_c (ρ:Env) (x:D):ev ρ (.c x)=.d x:=rfl
@[go_sem] theorem zsq (l:List (Nat×AV)) (d:Nat) (v:AV):put (E l) (some d) v=E ((d,v)::l):=rfl
@[go_sem] theorem z6h (ρ:Env) (v:AV):put ρ none v=ρ:=rfl
@[go_sem] theorem blk_0 (h:Hp) (σ:List Hp) (s g:Nat):blk (h::σ) 0 s g=if (h s).g=g then (h s).c else none:=rfl
@[go_sem] theorem z8w (h:Hp) (σ:List Hp) (k s g:Nat):blk (h::σ) (k+1) s g=blk σ k s g:=rfl
@[go_sem] theorem blk_1 (h:Hp) (σ:List Hp) (s g:Nat):blk (h::σ) 1 s g=blk σ 0 s g:=rfl
@[go_sem] theorem blk_2 (h:Hp) (σ:List Hp) (s g:Nat):blk (h::σ) 2 s g=blk σ 1 s g:=rfl
@[go_sem] theorem blk_3 (h:Hp) (σ:List Hp) (s g:Nat):blk (h::σ) 3 s g=blk σ 2 s g:=rfl
def wS (n:Nat) (pa:AV) (y:Option D) (r:Root) (h:List (Nat×Blk)) (σ:List Hp) (G:Gh) {k:Hp→List Hp→Gh→Prop} (_:zu k):Prop :=
 match pa,y with
 | .ptr 0 s g off,some y=>wT (zbw r 0 s && zb n y) (zu.mk (a:=wB (blk (HB h::σ) 0 s g) (zu.mk (a:=fun cs=>wP (off+n≤cs.length) (zu.mk (a:=wL (zbv cs y.cells off) (zu.mk (a:=fun cs'=>wH (zey h s ⟨g,some cs'⟩) (zu.mk (a:=fun h'=>k (HB h') σ G))))))))))
 | .ptr (i+1) s g off,some y=>wT (zbw r (i+1) s && zb n y) (zu.mk (a:=wB (blk σ i s g) (zu.mk (a:=fun cs=>wP (off+n≤cs.length) (zu.mk (a:=wL (zbv cs y.cells off) (zu.mk (a:=fun cs'=>∃ h0,σ[i]?=some h0∧k (HB h) (σ.set i (upd h0 s ⟨g,some cs'⟩)) G))))))))
 | .d (.gp b off),some y=>wT (r.foreignOk && zb n y) (zu.mk (a:=wB (G b) (zu.mk (a:=fun cs=>wP (off+n≤cs.length) (zu.mk (a:=wL (zbv cs y.cells off) (zu.mk (a:=fun cs'=>k (HB h) σ (G.set b (some cs'))))))))))
 | _,_=>False
@[go_sem] theorem wS_0 (n s g off:Nat) (y:D) (r:Root) (h:List (Nat×Blk)) (σ:List Hp) (G:Gh) {k:Hp→List Hp→Gh→Prop} (hk:zu k):wS n (.ptr 0 s g off) (some y) r h σ G hk =
  wT (zbw r 0 s && zb n y) (zu.mk (a:=wB (blk (HB h::σ) 0 s g) (zu.mk (a:=fun cs=>wP (off+n≤cs.length) (zu.mk (a:=wL (zbv cs y.cells off) (zu.mk (a:=fun cs'=>wH (zey h s ⟨g,some cs'⟩) (zu.mk (a:=fun h'=>k (HB h') σ G)))))))))):=rfl
@[go_sem] theorem wS_s (n i s g off:Nat) (y:D) (r:Root) (h:List (Nat×Blk)) (σ:List Hp) (G:Gh) {k:Hp→List Hp→Gh→Prop} (hk:zu k):wS n (.ptr (i+1) s g off) (some y) r h σ G hk =
  wT (zbw r (i+1) s && zb n y) (zu.mk (a:=wB (blk σ i s g) (zu.mk (a:=fun cs=>wP (off+n≤cs.length) (zu.mk (a:=wL (zbv cs y.cells off) (zu.mk (a:=fun cs'=>∃ h0,σ[i]?=some h0∧k (HB h) (σ.set i (upd h0 s ⟨g,some cs'⟩)) G)))))))):=rfl
@[go_sem] theorem wS_gp (n b off:Nat) (y:D) (r:Root) (h:List (Nat×Blk)) (σ:List Hp) (G:Gh) {k:Hp→List Hp→Gh→Prop} (hk:zu k):wS n (.d (.gp b off)) (some y) r h σ G hk =
  wT (r.foreignOk && zb n y) (zu.mk (a:=wB (G b) (zu.mk (a:=fun cs=>wP (off+n≤cs.length) (zu.mk (a:=wL (zbv cs y.cells off) (zu.mk (a:=fun cs'=>k (HB h) σ (G.set b (some cs')))))))))):=rfl
def wI (neg:Bool) (o:Option D) {k:Bool→Prop} (_:zu k):Prop :=
 match o with
 | some .nilS=>k (!neg)
 | some (.list es)=>∀ t,(es≠[]→t=neg)→k t
 | some (.gs _ _ _ _)=>k neg
 | _=>False
@[go_sem] theorem wI_nil (neg:Bool) {k:Bool→Prop} (h:zu k):wI neg (some .nilS) h=k (!neg):=rfl
@[go_sem] theorem wI_gs (neg:Bool) (b off n cap:Nat) {k:Bool→Prop} (h:zu k):wI neg (some (.gs b off n cap)) h=k neg:=rfl
theorem zz9 {neg:Bool} {es:List D} {k:Bool→Prop} {h:zu k} (hk:∀ t,(es≠[]→t=neg)→k t):wI neg (some (.list es)) h:=hk
def wC (P:Program) (d:Option Nat) (f:AO) (args:List AO) (q:Nat) (ρ:Env) (L:Hp) (σ:List Hp) (G:Gh) {K:St→Prop} (_:zu K):Prop:=zdl P d f args q ρ L σ G K
def W [DD] (P:Program) (c:ACode) {κ:zaz→St→Prop} (_:zu κ) (st:St):Prop:=SW P c κ st
section
variable {P:Program} {os:List AI} {l:List (Nat×AV)} {L:Hp} {h:List (Nat×Blk)} {σ:List Hp} {G:Gh} {K:St→Prop}
@[go_sem ↓] theorem z6i {ρ:Env}:zaq P [] ρ L σ G K=K (ρ,L,σ,G):=rfl
@[go_sem ↓] theorem z19 {d:Option Nat} {op:AOp} {t:Nat} {w:Bool}:zaq P (⟨d,op,some (t,w)⟩::os) (E l) L σ G K=wG (E l t) w (zu.mk (a:=zaq P (⟨d,op,none⟩::os) (E l) L σ G K)) (zu.mk (a:=zaq P os (put (E l) d .skp) L σ G K)):=rfl
theorem zek {d:Option Nat} {op:AOp} {ρ:Env} (hd:∀ K':St→Prop,zax P ⟨d,op,none⟩ ρ L σ G K'=(∃ st,zm d op ρ L σ G=some st∧K' st)) :
 zaq P (⟨d,op,none⟩::os) ρ L σ G K=∃ st,zm d op ρ L σ G=some st∧zaq P os st.1 st.2.1 st.2.2.1 st.2.2.2 K:=hd _
theorem z8 {d:Nat} {op:AOp} (hd:∀ K':St→Prop,zax P ⟨some d,op,none⟩ (E l) L σ G K'=(∃ st,zm (some d) op (E l) L σ G=some st∧K' st)) (he:zm (some d) op (E l) L σ G=(evP (E l) (L::σ) G op).map fun v=>(put (E l) (some d) v,L,σ,G)) :
 zaq P (⟨some d,op,none⟩::os) (E l) L σ G K=wO (evP (E l) (L::σ) G op) (zu.mk (a:=fun v=>zaq P os (E ((d,v)::l)) L σ G K)):=by
 rw [zek hd,he]
 simp only [Option.map_eq_some_iff,wO,eq_iff_iff]
 constructor
 · rintro ⟨st,⟨v,hv,rfl⟩,hk⟩;exact ⟨v,hv,hk⟩
 · rintro ⟨v,hv,hk⟩;exact ⟨_,⟨v,hv,rfl⟩,hk⟩
@[go_sem ↓] theorem z6j {d:Nat} {x:AO}:zaq P (⟨some d,.mv false x,none⟩::os) (E l) L σ G K=wV (ev (E l) x).cp (zu.mk (a:=fun v=>zaq P os (E ((d,v)::l)) L σ G K)):=by
  rw [z8 (fun _=>rfl) rfl];simp [evP,wO,wV]
@[go_sem ↓] theorem z3u {d:Nat} {x:D}:zaq P (⟨some d,.mv true (.c x),none⟩::os) (E l) L σ G K=zaq P os (E ((d,.d x)::l)) L σ G K:=by
  rw [zek (fun _=>rfl)];simp [zm,zdb,ev,zsq]
@[go_sem ↓] theorem z6k {d i:Nat}:zaq P (⟨some d,.mv true (.t i),none⟩::os) (E l) L σ G K=wV (E l i) (zu.mk (a:=fun v=>wV v.cp (zu.mk (a:=fun v'=>zaq P os (E ((d,v)::(i,v')::l)) L σ G K)))):=by
  rw [zek (fun _=>rfl)];simp [zm,zdb,ev,zsq,zug,wV]
@[go_sem ↓] theorem z3v {d:Nat} {a b c:AO}:zaq P (⟨some d,.pick a b c,none⟩::os) (E l) L σ G K=wO (evP (E l) (L::σ) G (.pick a b c)) (zu.mk (a:=fun v=>zaq P os (E ((d,v)::l)) L σ G K)):=z8 (fun _=>rfl) rfl
@[go_sem ↓] theorem z2a {d:Nat} {z:List D} {ps:List (Nat×Nat×AO)}:zaq P (⟨some d,.build z ps,none⟩::os) (E l) L σ G K=wO (evP (E l) (L::σ) G (.build z ps)) (zu.mk (a:=fun v=>zaq P os (E ((d,v)::l)) L σ G K)):=z8 (fun _=>rfl) rfl
@[go_sem ↓] theorem zzf {d:Nat} {a b:Nat} {z:D} {ps:List (Nat×AO)}:zaq P (⟨some d,.mkslice a b z ps,none⟩::os) (E l) L σ G K=wO (evP (E l) (L::σ) G (.mkslice a b z ps)) (zu.mk (a:=fun v=>zaq P os (E ((d,v)::l)) L σ G K)):=z8 (fun _=>rfl) rfl
@[go_sem ↓] theorem z3w {d:Nat} {a:Bool} {n:Nat} {x:AO} {r:Root}:zaq P (⟨some d,.load a n x r,none⟩::os) (E l) L σ G K=wO (evP (E l) (L::σ) G (.load a n x r)) (zu.mk (a:=fun v=>zaq P os (E ((d,v)::l)) L σ G K)):=z8 (fun _=>rfl) rfl
@[go_sem ↓] theorem z2b {d:Nat} {x:AO}:zaq P (⟨some d,.nilck x,none⟩::os) (E l) L σ G K=wO (evP (E l) (L::σ) G (.nilck x)) (zu.mk (a:=fun v=>zaq P os (E ((d,v)::l)) L σ G K)):=z8 (fun _=>rfl) rfl
@[go_sem ↓] theorem z6l {d:Nat} {o:BinOp} {x y:AO}:zaq P (⟨some d,.bin o x y,none⟩::os) (E l) L σ G K=wO (evP (E l) (L::σ) G (.bin o x y)) (zu.mk (a:=fun v=>zaq P os (E ((d,v)::l)) L σ G K)):=z8 (fun _=>rfl) rfl
@[go_sem ↓] theorem z6m {d:Nat} {n:Bool} {ks:List Kd} {x y:AO}:zaq P (⟨some d,.eqs n ks x y,none⟩::os) (E l) L σ G K=wO (evP (E l) (L::σ) G (.eqs n ks x y)) (zu.mk (a:=fun v=>zaq P os (E ((d,v)::l)) L σ G K)):=z8 (fun _=>rfl) rfl
@[go_sem ↓] theorem z6n {d:Nat} {n:Bool} {x y:AO}:zaq P (⟨some d,.eqb n x y,none⟩::os) (E l) L σ G K=wO (evP (E l) (L::σ) G (.eqb n x y)) (zu.mk (a:=fun v=>zaq P os (E ((d,v)::l)) L σ G K)):=z8 (fun _=>rfl) rfl
@[go_sem ↓] theorem z6o {d:Nat} {x:AO}:zaq P (⟨some d,.not x,none⟩::os) (E l) L σ G K=wO (evP (E l) (L::σ) G (.not x)) (zu.mk (a:=fun v=>zaq P os (E ((d,v)::l)) L σ G K)):=z8 (fun _=>rfl) rfl
@[go_sem ↓] theorem z3x {d:Nat} {k:IntKind} {x:AO}:zaq P (⟨some d,.conv k x,none⟩::os) (E l) L σ G K=wO (evP (E l) (L::σ) G (.conv k x)) (zu.mk (a:=fun v=>zaq P os (E ((d,v)::l)) L σ G K)):=z8 (fun _=>rfl) rfl
@[go_sem ↓] theorem z8x {d:Nat} {n:Nat} {x:AO} {lo hi:Option AO}:zaq P (⟨some d,.sl n x lo hi,none⟩::os) (E l) L σ G K=wO (evP (E l) (L::σ) G (.sl n x lo hi)) (zu.mk (a:=fun v=>zaq P os (E ((d,v)::l)) L σ G K)):=z8 (fun _=>rfl) rfl
@[go_sem ↓] theorem z6p {d:Nat} {x:AO} {lo hi:Option AO}:zaq P (⟨some d,.slS x lo hi,none⟩::os) (E l) L σ G K=wO (evP (E l) (L::σ) G (.slS x lo hi)) (zu.mk (a:=fun v=>zaq P os (E ((d,v)::l)) L σ G K)):=z8 (fun _=>rfl) rfl
@[go_sem ↓] theorem z2c {d:Nat} {n:Nat} {x:AO}:zaq P (⟨some d,.faddr n x,none⟩::os) (E l) L σ G K=wO (evP (E l) (L::σ) G (.faddr n x)) (zu.mk (a:=fun v=>zaq P os (E ((d,v)::l)) L σ G K)):=z8 (fun _=>rfl) rfl
@[go_sem ↓] theorem z2d {d:Nat} {a:Bool} {o n:Nat} {x:AO}:zaq P (⟨some d,.field a o n x,none⟩::os) (E l) L σ G K=wO (evP (E l) (L::σ) G (.field a o n x)) (zu.mk (a:=fun v=>zaq P os (E ((d,v)::l)) L σ G K)):=z8 (fun _=>rfl) rfl
@[go_sem ↓] theorem z2e {d:Nat} {n:Nat} {x i:AO}:zaq P (⟨some d,.iaddr n x i,none⟩::os) (E l) L σ G K=wO (evP (E l) (L::σ) G (.iaddr n x i)) (zu.mk (a:=fun v=>zaq P os (E ((d,v)::l)) L σ G K)):=z8 (fun _=>rfl) rfl
@[go_sem ↓] theorem z0a {d:Nat} {m n:Nat} {x i:AO}:zaq P (⟨some d,.iaddrA m n x i,none⟩::os) (E l) L σ G K=wO (evP (E l) (L::σ) G (.iaddrA m n x i)) (zu.mk (a:=fun v=>zaq P os (E ((d,v)::l)) L σ G K)):=z8 (fun _=>rfl) rfl
@[go_sem ↓] theorem z3y {d:Nat} {x i:AO}:zaq P (⟨some d,.idxS x i,none⟩::os) (E l) L σ G K=wO (evP (E l) (L::σ) G (.idxS x i)) (zu.mk (a:=fun v=>zaq P os (E ((d,v)::l)) L σ G K)):=z8 (fun _=>rfl) rfl
@[go_sem ↓] theorem z3z {d:Nat} {a:Bool} {m n:Nat} {x i:AO}:zaq P (⟨some d,.idxA a m n x i,none⟩::os) (E l) L σ G K=wO (evP (E l) (L::σ) G (.idxA a m n x i)) (zu.mk (a:=fun v=>zaq P os (E ((d,v)::l)) L σ G K)):=z8 (fun _=>rfl) rfl
@[go_sem ↓] theorem z6q {d:Nat} {x:AO} {i:Nat}:zaq P (⟨some d,.ext x i,none⟩::os) (E l) L σ G K=wO (evP (E l) (L::σ) G (.ext x i)) (zu.mk (a:=fun v=>zaq P os (E ((d,v)::l)) L σ G K)):=z8 (fun _=>rfl) rfl
@[go_sem ↓] theorem z6r {d:Nat} {s:Bool} {x:AO}:zaq P (⟨some d,.len s x,none⟩::os) (E l) L σ G K=wO (evP (E l) (L::σ) G (.len s x)) (zu.mk (a:=fun v=>zaq P os (E ((d,v)::l)) L σ G K)):=z8 (fun _=>rfl) rfl
@[go_sem ↓] theorem z8y {d:Nat} {x y:AO}:zaq P (⟨some d,.mn x y,none⟩::os) (E l) L σ G K=wO (evP (E l) (L::σ) G (.mn x y)) (zu.mk (a:=fun v=>zaq P os (E ((d,v)::l)) L σ G K)):=z8 (fun _=>rfl) rfl
@[go_sem ↓] theorem z6s {d:Nat} {x:AO}:zaq P (⟨some d,.b2s x,none⟩::os) (E l) L σ G K=wO (evP (E l) (L::σ) G (.b2s x)) (zu.mk (a:=fun v=>zaq P os (E ((d,v)::l)) L σ G K)):=z8 (fun _=>rfl) rfl
@[go_sem ↓] theorem z2f {s:Nat} {z:List D}:zaq P (⟨some s,.alloc z,none⟩::os) (E l) (HB h) σ G K=wN ((HB h s).g+1) (zu.mk (a:=fun g=>wH (zey h s ⟨g,some z⟩) (zu.mk (a:=fun h'=>zaq P os (E ((s,.ptr 0 s g 0)::l)) (HB h') σ G K)))):=by
  rw [zek (fun _=>rfl)];simp [zm,zug,zuh,wN,wH]
@[go_sem ↓] theorem z6t {s n:Nat} {x:AO}:zaq P (⟨some s,.box n x,none⟩::os) (E l) (HB h) σ G K=wD (ev (E l) x).data (zu.mk (a:=fun y=>wT (zb n y) (zu.mk (a:=wL y.cells (zu.mk (a:=fun cs=>wN ((HB h s).g+1) (zu.mk (a:=fun g=>wH (zey h s ⟨g,some cs⟩) (zu.mk (a:=fun h'=>zaq P os (E ((s,.ptr 0 s g 0)::l)) (HB h') σ G K)))))))))):=by
  rw [zek (fun _=>rfl)]
  simp only [zm,wD,wT,wL,wN,wH,zug,zuh,eq_iff_iff]
  cases (ev (E l) x).data with
  | none=>simp
  | some y=>by_cases hy:zb n y=true<;>simp [hy]
@[go_sem ↓] theorem z2g {d:Option Nat} {n:Nat} {a v:AO} {r:Root}:zaq P (⟨d,.store n a v r,none⟩::os) (E l) (HB h) σ G K=wS n (ev (E l) a) (ev (E l) v).data r h σ G (zu.mk (a:=fun L' σ' G'=>zaq P os (put (E l) d .undef) L' σ' G' K)):=by
  rw [zek (fun _=>rfl)]
  simp only [zm,eq_iff_iff]
  generalize ev (E l) a=pa
  generalize (ev (E l) v).data=y
  cases y with
  | none=>cases pa<;>simp [wS]
  | some y =>
   cases pa with
   | ptr k s g off =>
    cases k with
    | zero =>
     simp only [wS,wT,wB,wP,wL,wH]
     by_cases h1:(zbw r 0 s && zb n y)=true
     · simp only [h1,if_true,true_and]
       cases hb:blk (HB h::σ) 0 s g with
       | none=>simp
       | some cs =>
        by_cases h2:off+n≤cs.length
        · simp [h2,zuh]
        · simp [h2]
     · simp [h1]
    | succ k =>
     simp only [wS,wT,wB,wP,wL]
     by_cases h1:(zbw r (k+1) s && zb n y)=true
     · simp only [h1,if_true,true_and,z8w]
       cases hb:blk σ k s g with
       | none=>simp
       | some cs =>
        by_cases h2:off+n≤cs.length
        · simp only [h2,if_true,true_and,Option.some.injEq,exists_eq_left']
          cases σ[k]? with
          | none=>simp
          | some h0=>simp
        · simp [h2]
     · simp [h1]
   | d x =>
    cases x with
    | gp b off =>
     simp only [wS,wT,wB,wP,wL]
     by_cases h1:(r.foreignOk && zb n y)=true
     · simp only [h1,if_true,true_and]
       cases hb:G b with
       | none=>simp
       | some cs =>
        by_cases h2:off+n≤cs.length
        · simp [h2]
        · simp [h2]
     · simp [h1]
    | _=>simp [wS]
   | _=>simp [wS]
@[go_sem ↓] theorem z6u {d:Nat} {y:AO}:zaq P (⟨some d,.append 1 0 (.c (.str [])) y,none⟩::os) (E l) L σ G K=wD (ev (E l) y).data (zu.mk (a:=fun z=>wO (zbc 1 0 (.d (.str [])) z) (zu.mk (a:=fun v=>zaq P os (E ((d,v)::l)) L σ G K)))):=by
  rw [zek (fun _=>rfl)]
  simp only [zm,wD,wO,eq_iff_iff,zdb,zug,ev_c]
  generalize (ev (E l) y).data=o
  cases o with
  | none=>simp
  | some z =>
   simp only [Option.map_eq_some_iff,Option.some.injEq,exists_eq_left']
   constructor
   · rintro ⟨st,⟨v,hv,rfl⟩,hk⟩;exact ⟨v,hv,hk⟩
   · rintro ⟨v,hv,hk⟩;exact ⟨_,⟨v,hv,rfl⟩,hk⟩
@[go_sem ↓] theorem z0b {d i sz b:Nat} {y:AO}:zaq P (⟨some d,.append sz b (.t i) y,none⟩::os) (E l) L σ G K=wD (ev (E l) y).data (zu.mk (a:=fun z=>wO (zbc sz b (E l i) z) (zu.mk (a:=fun v=>wV (E l i).cp (zu.mk (a:=fun v'=>zaq P os (E ((d,v)::(i,v')::l)) L σ G K)))))):=by
  rw [zek (fun _=>rfl)]
  simp only [zm,wD,wO,wV,eq_iff_iff,zdb,zug,ev_t]
  generalize (ev (E l) y).data=o
  cases o with
  | none=>simp
  | some z =>
   simp only [Option.map_eq_some_iff,Option.some.injEq,exists_eq_left']
   constructor
   · rintro ⟨st,⟨v,hv,rfl⟩,hk⟩;exact ⟨v,hv,hk⟩
   · rintro ⟨v,hv,hk⟩;exact ⟨_,⟨v,hv,rfl⟩,hk⟩
@[go_sem ↓] theorem z2h {d:Nat} {neg:Bool} {x:AO}:zaq P (⟨some d,.isnil neg x,none⟩::os) (E l) L σ G K=wI neg (ev (E l) x).data (zu.mk (a:=fun t=>zaq P os (E ((d,.d (.bool t))::l)) L σ G K)):=by
  simp only [zaq,zaf,zax,zce,zm,evP,eq_iff_iff]
  cases (ev (E l) x).data with
  | none=>simp [wI]
  | some y =>
   cases y with
   | list es =>
    cases es with
    | nil=>simp [wI,zsq]
    | cons e es=>simp [wI,zsq]
   | _=>simp [wI,zsq]
@[go_sem ↓] theorem z30 {d:Option Nat} {f:AO} {as:List AO} {q:Nat}:zaq P (⟨d,.call f as q,none⟩::os) (E l) L σ G K=wC P d f as q (E l) L σ G (zu.mk (a:=fun st=>zaq P os st.1 st.2.1 st.2.2.1 st.2.2.2 K)):=rfl
end
section
variable {f:St→Prop} {κ κ':zaz→St→Prop} {st st':St} {id:Nat}
@[go_sem ↓] theorem z0c:zaz.then f κ .normal st=f st:=rfl
@[go_sem ↓] theorem z31:zaz.then f κ (.exit id) st=κ (.exit id) st:=rfl
@[go_sem ↓] theorem z6v:zaz.then f κ .ret st=κ .ret st:=rfl
@[go_sem ↓] theorem zw2:zaz.inBlock id κ .normal st=κ .normal st:=rfl
@[go_sem ↓] theorem z0d:zaz.inBlock id κ .ret st=κ .ret st:=rfl
@[go_sem ↓] theorem zzg {id':Nat}:zaz.inBlock id κ (.exit id') st=if id'=id then κ .normal st else κ (.exit id') st:=rfl
def Fin (res:List zgl) {Q:AV→List Hp→Gh→Prop} (_:zu Q) (st:St):Prop:=zw1 res Q st
@[go_sem ↓] theorem z0e {res:List zgl} {Q:AV→List Hp→Gh→Prop}:zxe res Q .normal st=Fin res (zu.mk (a:=Q)) st:=rfl
@[go_sem ↓] theorem z6w {res:List zgl} {Q:AV→List Hp→Gh→Prop}:zxe res Q .ret st=Fin res (zu.mk (a:=Q)) st:=rfl
def Back {I:Nat→St→Prop} (_:zu I) (n:Nat) (st:St):Prop:=∃ m st0,m<n∧ztm st st0∧I m st0
end
end Go.E2
namespace Go.E2
theorem wrap_i64 {x:Int} (h1:-9223372036854775808≤x) (h2:x≤9223372036854775807):IntKind.i64.wrap x=x:=by
 have e:IntKind.i64.wrap x=if x % 18446744073709551616≥9223372036854775808 then x % 18446744073709551616 - 18446744073709551616 else x % 18446744073709551616:=by simp [IntKind.wrap,IntKind.signed,IntKind.bits]
 rw [e];split<;>omega
theorem zxk {x:Int} (h1:-2147483648≤x) (h2:x≤2147483647):IntKind.i32.wrap x=x:=by
 have e:IntKind.i32.wrap x=if x % 4294967296≥2147483648 then x % 4294967296 - 4294967296 else x % 4294967296:=by simp [IntKind.wrap,IntKind.signed,IntKind.bits]
 rw [e];split<;>omega
theorem zxl {x:Int} (h1:0≤x) (h2:x≤18446744073709551615):IntKind.u64.wrap x=x:=by
 simp only [IntKind.wrap,IntKind.signed,IntKind.bits];simp;omega
theorem zqv {x:Int} (h1:0≤x) (h2:x≤4294967295):IntKind.u32.wrap x=x:=by
 simp only [IntKind.wrap,IntKind.signed,IntKind.bits];simp;omega
theorem zxm {x:Int} (h1:0≤x) (h2:x≤65535):IntKind.u16.wrap x=x:=by
 simp only [IntKind.wrap,IntKind.signed,IntKind.bits];simp;omega
theorem zpj {x:Int} (h1:0≤x) (h2:x≤255):IntKind.u8.wrap x=x:=by
 simp only [IntKind.wrap,IntKind.signed,IntKind.bits];simp;omega
attribute [go_sem] wrap_i64 zxk zxl zqv zxm zpj
section
variable (k:IntKind) (a b:Int) (s t:List UInt8)
@[go_sem] theorem z6x:zb6 .add (.int k a) (.int k b)=some (.int k (k.wrap (a+b))):=by simp [zb6]
@[go_sem] theorem z6y:zb6 .sub (.int k a) (.int k b)=some (.int k (k.wrap (a - b))):=by simp [zb6]
@[go_sem] theorem z6z:zb6 .mul (.int k a) (.int k b)=some (.int k (k.wrap (a * b))):=by simp [zb6]
@[go_sem] theorem z60:zb6 .eql (.int k a) (.int k b)=some (.bool (decide (a=b))):=by by_cases h:a=b<;>simp [zb6,h]
@[go_sem] theorem z61:zb6 .neq (.int k a) (.int k b)=some (.bool (decide (¬ a=b))):=by by_cases h:a=b<;>simp [zb6,h]
@[go_sem] theorem z62:zb6 .lss (.int k a) (.int k b)=some (.bool (decide (a<b))):=by simp [zb6]
@[go_sem] theorem z63:zb6 .leq (.int k a) (.int k b)=some (.bool (decide (a≤b))):=by simp [zb6]
@[go_sem] theorem z64:zb6 .gtr (.int k a) (.int k b)=some (.bool (decide (b<a))):=by simp [zb6]
@[go_sem] theorem z65:zb6 .geq (.int k a) (.int k b)=some (.bool (decide (b≤a))):=by simp [zb6]
@[go_sem] theorem z66 (h:b≠0):zb6 .quo (.int k a) (.int k b)=some (.int k (k.wrap (a.tdiv b))):=by simp [zb6,h]
@[go_sem] theorem zxn (k':IntKind) (h:0≤b) (_ha:0≤a):zb6 .shr (.int k a) (.int k' b)=some (.int k (a / 2 ^ (if b.toNat≤k.bits then b.toNat else k.bits))):=by
  rw [← Nat.min_def]
  have hb:¬ b<0:=by omega
  simp only [zb6,if_neg hb]
  rw [Int.fdiv_eq_ediv_of_nonneg _ (Int.pow_nonneg (by omega))]
@[go_sem] theorem zxo (k':IntKind) (h:0≤b):zb6 .shl (.int k a) (.int k' b)=some (.int k (k.wrap (a * 2 ^ (if b.toNat≤k.bits then b.toNat else k.bits)))):=by
  rw [← Nat.min_def]
  have hb:¬ b<0:=by omega
  simp only [zb6,if_neg hb]
@[go_sem] theorem z32:zb6 .eql (.str s) (.str t)=some (.bool (decide (s=t))):=by simp only [zb6];congr 2;by_cases h:s=t<;>simp [h]
@[go_sem] theorem z33:zb6 .neq (.str s) (.str t)=some (.bool (decide (¬ s=t))):=by simp only [zb6];congr 2;by_cases h:s=t<;>simp [h]
@[go_sem] theorem z34 (h:s.length+t.length<4611686018427387904):zb6 .add (.str s) (.str t)=some (.str (s++t)):=by simp only [zb6,h,if_true]
end
@[go_sem] theorem zqw:IntKind.i64.bits=64:=rfl
@[go_sem] theorem z67:IntKind.u64.bits=64:=rfl
@[go_sem] theorem z68:IntKind.u32.bits=32:=rfl
@[go_sem] theorem z8z:IntKind.u8.bits=8:=rfl
attribute [go_sem] zb zbv D.cells D.one List.length_map List.length_cons List.length_nil List.length_append Option.map_some Option.map_none List.all_cons List.all_nil Bool.and_true Bool.and_self Bool.true_and List.take_succ_cons List.take_zero List.drop_succ_cons List.drop_zero List.head?_cons
 List.cons_append List.nil_append List.append_nil List.map_cons List.map_nil zx Bool.or_true Bool.or_false Bool.true_or Bool.false_or beq_self_eq_true Bool.and_false Bool.false_and zx6 zev List.zip_cons_cons List.zip_nil_left List.foldl_cons List.foldl_nil Option.bind_some List.getElem?_map Int.toNat_natCast
 List.replicate_succ List.replicate_zero List.set_cons_zero List.set_cons_succ Option.getD_some Option.getD_none List.map_append
section
variable {ρ:Env} {lv:List Hp} {G:Gh}
def zxp (c a b:AV):Option AV:=match c with|.d (.bool t)=>some (if t then a else b)|_=>none
@[go_sem] theorem z69 (c a b:AO):evP ρ lv G (.pick c a b)=zxp (ev ρ c) (ev ρ a).cp (ev ρ b).cp:=by
  simp only [evP,zxp];cases ev ρ c with
  | d x=>cases x with
    | bool t=>cases t<;>rfl
    | _=>rfl
  | _=>rfl
@[go_sem] theorem z80 (a b:AV):zxp (.d (.bool true)) a b=some a:=rfl
@[go_sem] theorem z81 (a b:AV):zxp (.d (.bool false)) a b=some b:=rfl
def zzh (z:List D) (ps:List (Nat×Nat×AO)) (vs:Option (List D)):Option AV:=match vs with
 | some vs=>(ziz z ((ps.zip vs).map fun (p,v)=>(p.1,p.2.1,v))).bind fun cs=>if cs.all D.one then some (.d (.agg cs)) else none
 | none=>none
@[go_sem] theorem z35 (z:List D) (ps:List (Nat×Nat×AO)):evP ρ lv G (.build z ps)=zzh z ps (zx ρ (ps.map (·.2.2))):=rfl
@[go_sem] theorem z36 (z:List D) (ps:List (Nat×Nat×AO)) (vs:List D):zzh z ps (some vs)=(ziz z ((ps.zip vs).map fun (p,v)=>(p.1,p.2.1,v))).bind fun cs=>if cs.all D.one then some (.d (.agg cs)) else none:=rfl
@[go_sem] theorem z37 (z:List D):ziz z []=some z:=rfl
@[go_sem] theorem z2i (z:List D) (off size:Nat) (v:D) (ps:List (Nat×Nat×D)):ziz z ((off,size,v)::ps)=if v.cells.length=size∧off+size≤z.length then ziz (zbv z v.cells off) ps else none:=rfl
def vMks (sz n:Nat) (z:D) (ps:List (Nat×AO)) (vs:Option (List D)):Option AV:=match vs with
 | some vs=>let es:=(ps.zip vs).foldl (fun es (p,v)=>es.set p.1 v) (List.replicate n z)
   if vs.all (zb sz) && zb sz z && (ps.all fun p=>p.1<n) then some (.own sz es) else none
 | none=>none
@[go_sem] theorem z0f (sz n:Nat) (z:D) (ps:List (Nat×AO)):evP ρ lv G (.mkslice sz n z ps)=vMks sz n z ps (zx ρ (ps.map (·.2))):=rfl
@[go_sem] theorem z82 (sz n:Nat) (z:D) (ps:List (Nat×AO)) (vs:List D):vMks sz n z ps (some vs)=if (vs.all (zb sz) && zb sz z && (ps.all fun p=>p.1<n))=true then some (.own sz ((ps.zip vs).foldl (fun es (p,v)=>es.set p.1 v) (List.replicate n z))) else none:=rfl
def zju (agg:Bool) (n:Nat) (r:Root) (lv:List Hp) (G:Gh) (v:AV):Option AV:=match v with
 | .ptr k s g off=>if zbw r k s then (match blk lv k s g with|some cs=>(zcj agg n (cs.drop off)).map .d|none=>none) else none
 | .cptr cs=>(zcj agg n cs).map .d
 | .d (.gp b off)=>if r.foreignOk then (match G b with|some cs=>(zcj agg n (cs.drop off)).map .d|none=>none) else none
 | _=>none
@[go_sem] theorem z7a (agg:Bool) (n:Nat) (x:AO) (r:Root):evP ρ lv G (.load agg n x r)=zju agg n r lv G (ev ρ x):=rfl
def zbg (agg:Bool) (n:Nat) (cs:Option (List D)) (off:Nat):Option AV:=match cs with|some cs=>(zcj agg n (cs.drop off)).map .d|none=>none
@[go_sem] theorem z38 (agg:Bool) (n:Nat) (cs:List D) (off:Nat):zbg agg n (some cs) off=(zcj agg n (cs.drop off)).map .d:=rfl
@[go_sem] theorem z2j (agg:Bool) (n k s g off:Nat):zju agg n .any lv G (.ptr k s g off)=zbg agg n (blk lv k s g) off:=by simp [zju,zbg,zbw]
@[go_sem] theorem z2k (agg:Bool) (n s g off:Nat):zju agg n (.site s) lv G (.ptr 0 s g off)=zbg agg n (blk lv 0 s g) off:=by simp [zju,zbg,zbw]
@[go_sem] theorem z2l (agg:Bool) (n:Nat) (r:Root) (cs:List D):zju agg n r lv G (.cptr cs)=(zcj agg n cs).map .d:=rfl
@[go_sem] theorem z39 (agg:Bool) (n b off:Nat):zju agg n .any lv G (.d (.gp b off))=zbg agg n (G b) off:=by simp [zju,zbg,Root.foreignOk]
@[go_sem] theorem z4a (agg:Bool) (n b off:Nat):zju agg n .foreign lv G (.d (.gp b off))=zbg agg n (G b) off:=by simp [zju,zbg,Root.foreignOk]
@[go_sem] theorem z83 (n:Nat) (cs:List D):zcj true n cs=if n≤cs.length then some (.agg (cs.take n)) else none:=rfl
@[go_sem] theorem z84 (n:Nat) (cs:List D):zcj false n cs=cs.head?:=rfl
@[go_sem] theorem z2m (k s:Nat):zbw .any k s=true:=rfl
@[go_sem] theorem z0g (r k s:Nat):zbw (.site r) k s=(k == 0 && s == r):=rfl
@[go_sem] theorem z2n (k s:Nat):zbw .foreign k s=(k != 0):=rfl
@[go_sem] theorem z4b:Root.foreignOk .any=true:=rfl
@[go_sem] theorem z4c:Root.foreignOk .foreign=true:=rfl
@[go_sem] theorem z7b:Root.foreignOk .gp=true:=rfl
def zg6 (v:AV):Option AV:=match v with|.ptr k s g off=>some (.ptr k s g off)|.cptr cs=>some (.cptr cs)|.func f c=>some (.func f c)|.d (.fn f)=>some (.d (.fn f))|.d (.gp b off)=>some (.d (.gp b off))|.d (.clo f ds)=>some (.d (.clo f ds))|.d (.yld l)=>some (.d (.yld l))|.d (.ifc t b off)=>some (.d (.ifc t b off))|_=>none
@[go_sem] theorem z4d (x:AO):evP ρ lv G (.nilck x)=zg6 (ev ρ x):=rfl
@[go_sem] theorem z2o (f:FuncId) (ds:List D):zg6 (.d (.clo f ds))=some (.d (.clo f ds)):=rfl
@[go_sem] theorem z2p (l:Nat):zg6 (.d (.yld l))=some (.d (.yld l)):=rfl
@[go_sem] theorem z2q (t b off:Nat):zg6 (.d (.ifc t b off))=some (.d (.ifc t b off)):=rfl
@[go_sem] theorem z2r (k s g off:Nat):zg6 (.ptr k s g off)=some (.ptr k s g off):=rfl
@[go_sem] theorem z0h (cs:List D):zg6 (.cptr cs)=some (.cptr cs):=rfl
@[go_sem] theorem z0i (f:FuncId) (c:List (Nat×Nat×Nat)):zg6 (.func f c)=some (.func f c):=rfl
@[go_sem] theorem z4e (f:FuncId):zg6 (.d (.fn f))=some (.d (.fn f)):=rfl
@[go_sem] theorem z4f (b off:Nat):zg6 (.d (.gp b off))=some (.d (.gp b off)):=rfl
def vBin (op:BinOp) (x y:AV):Option AV:=match x,y with|.d a,.d b=>(zb6 op a b).map .d|_,_=>none
@[go_sem] theorem z85 (op:BinOp) (x y:AO):evP ρ lv G (.bin op x y)=vBin op (ev ρ x) (ev ρ y):=rfl
@[go_sem] theorem vBin_d (op:BinOp) (a b:D):vBin op (.d a) (.d b)=(zb6 op a b).map .d:=rfl
def z86 (neg:Bool) (ks:List Kd) (x y:AV):Option AV:=match x,y with|.d (.agg a),.d (.agg b)=>(zk ks a b).map fun t=>.d (.bool (if neg then !t else t))|_,_=>none
@[go_sem] theorem z87 (neg:Bool) (ks:List Kd) (x y:AO):evP ρ lv G (.eqs neg ks x y)=z86 neg ks (ev ρ x) (ev ρ y):=rfl
@[go_sem] theorem vEqs_f (ks:List Kd) (a b:List D):z86 false ks (.d (.agg a)) (.d (.agg b))=(zk ks a b).map fun t=>.d (.bool t):=rfl
@[go_sem] theorem vEqs_t (ks:List Kd) (a b:List D):z86 true ks (.d (.agg a)) (.d (.agg b))=(zk ks a b).map fun t=>.d (.bool (!t)):=rfl
@[go_sem] theorem z0j:zk [] [] []=some true:=rfl
@[go_sem] theorem zui (k:IntKind) (a b:Int) (ks:List Kd) (xs ys:List D):zk (.i::ks) (.int k a::xs) (.int k b::ys)=(zk ks xs ys).map fun c=>(decide (a=b) && c):=by
  have e:(a == b)=decide (a=b):=by by_cases h:a=b<;>simp [h]
  simp only [zk,zb0,if_true,e];cases zk ks xs ys<;>rfl
@[go_sem] theorem z4g (a b:List UInt8) (ks:List Kd) (xs ys:List D):zk (.s::ks) (.str a::xs) (.str b::ys)=(zk ks xs ys).map fun c=>(decide (a=b) && c):=by
  have e:(a == b)=decide (a=b):=by by_cases h:a=b<;>simp [h]
  simp only [zk,zb0,e];cases zk ks xs ys<;>rfl
def z88 (neg:Bool) (x y:AV):Option AV:=match x,y with|.d (.bool a),.d (.bool b)=>some (.d (.bool (if neg then !(a == b) else a == b)))|_,_=>none
@[go_sem] theorem z89 (neg:Bool) (x y:AO):evP ρ lv G (.eqb neg x y)=z88 neg (ev ρ x) (ev ρ y):=rfl
@[go_sem] theorem vEqb_t (a b:Bool):z88 true (.d (.bool a)) (.d (.bool b))=some (.d (.bool (!(a == b)))):=rfl
@[go_sem] theorem vEqb_f (a b:Bool):z88 false (.d (.bool a)) (.d (.bool b))=some (.d (.bool (a == b))):=rfl
def vNot (x:AV):Option AV:=match x with|.d (.bool b)=>some (.d (.bool (!b)))|_=>none
@[go_sem] theorem z9a (x:AO):evP ρ lv G (.not x)=vNot (ev ρ x):=rfl
@[go_sem] theorem vNot_b (b:Bool):vNot (.d (.bool b))=some (.d (.bool (!b))):=rfl
def vNeg (x:AV):Option AV:=match x with|.d (.int k n)=>some (.d (.int k (k.wrap (0 - n))))|_=>none
@[go_sem] theorem z9b (x:AO):evP ρ lv G (.neg x)=vNeg (ev ρ x):=rfl
@[go_sem] theorem vNeg_i (k:IntKind) (n:Int):vNeg (.d (.int k n))=some (.d (.int k (k.wrap (0 - n)))):=rfl
def z4h (k:IntKind) (x:AV):Option AV:=match x with|.d (.int _ n)=>some (.d (.int k (k.wrap n)))|_=>none
@[go_sem] theorem z7c (k:IntKind) (x:AO):evP ρ lv G (.conv k x)=z4h k (ev ρ x):=rfl
@[go_sem] theorem z9c (k k':IntKind) (n:Int):z4h k (.d (.int k' n))=some (.d (.int k (k.wrap n))):=rfl
def zzi:List AV→Option (List (Nat×Nat×Nat))
 | []=>some []
 | v::vs=>match zpv v,zzi vs with|some c,some cs=>some (c::cs)|_,_=>none
@[go_sem] theorem z2s:zzi []=some []:=rfl
def z9d (sz:Nat) (x:Option D):Option AV:=match x with|some .nilS=>some (.d .nilS)|some (.list _)=>some (.own sz [])|_=>none
@[go_sem] theorem z9e (sz:Nat) (x:AO):evP ρ lv G (.sl0 sz x)=z9d sz (ev ρ x).data:=rfl
def z9f (sz:Nat) (x:Option D) (h m:AV):Option AV:=match x,h,m with|some (.list es),.d (.int .i64 a),.d (.int .i64 b)=>if es.all (zb sz)=true∧a=es.length∧b=es.length then some (.own sz es) else none|_,_,_=>none
@[go_sem] theorem z7d (sz:Nat) (x y z:AO):evP ρ lv G (.sl3L sz x y z)=z9f sz (ev ρ x).data (ev ρ y) (ev ρ z):=rfl
@[go_sem] theorem z7e (sz:Nat):z9d sz (some .nilS)=some (.d .nilS):=rfl
@[go_sem] theorem z4i (sz:Nat) (es:List D):z9d sz (some (.list es))=some (.own sz []):=rfl
def zzj:AV→Option Int|.d (.int _ n)=>some n|_=>none
@[go_sem] theorem vInt_i (k:IntKind) (n:Int):zzj (.d (.int k n))=some n:=rfl
@[go_sem] theorem z7f (d:Nat):bnd ρ d none=some (d:Int):=rfl
@[go_sem] theorem z7g (d:Nat) (o:AO):bnd ρ d (some o)=zzj (ev ρ o):=rfl
def z7h (sz:Nat) (x:Option D) (lo hi:Option Int):Option AV :=
 match x,lo,hi with
 | some (.list es),some l,some h=>if es.all (zb sz) then (if 0≤l∧l≤h∧h≤es.length then some (.d (.list ((es.take h.toNat).drop l.toNat))) else none) else none
 | some .nilS,some l,some h=>if l=0∧h=0 then some (.d .nilS) else none
 | some (.gs b off _ cap),some l,some h=>if 0≤l∧l≤h∧h≤cap then some (.d (.gs b (if cap=l.toNat then off else off+l.toNat * sz) (h.toNat - l.toNat) (cap - l.toNat))) else none
 | _,_,_=>none
@[go_sem] theorem z9g (sz:Nat) (x:AO) (lo:Option AO) (h:AO):evP ρ lv G (.sl sz x lo (some h))=z7h sz (ev ρ x).data (bnd ρ 0 lo) (zzj (ev ρ h)):=by
  have e:∀ n,bnd ρ n (some h)=zzj (ev ρ h):=fun n=>rfl
  simp only [evP,z7h,e]
  generalize (ev ρ x).data=o
  generalize bnd ρ 0 lo=l
  generalize zzj (ev ρ h)=k
  cases o with
  | none=>rfl
  | some d =>
   cases d with
   | list es=>cases l<;>cases k<;>by_cases h:es.all (zb sz)<;>simp [h]
   | nilS=>cases l<;>cases k<;>simp
   | gs b off len cap=>cases l<;>cases k<;>simp
   | _=>rfl
@[go_sem] theorem z4j (sz:Nat) (es:List D) (l h:Int) (h1:0≤l) (h2:l≤h) (h3:h≤es.length):z7h sz (some (.list es)) (some l) (some h)=if es.all (zb sz)=true then some (.d (.list ((es.take h.toNat).drop l.toNat))) else none:=by simp only [z7h,h1,h2,h3,and_self,if_true]
def z7i (x:AV) (lo:Option Int):Option AV :=
 match x,lo with
 | .d (.str s),some l=>if 0≤l∧l≤s.length then some (.d (.str (s.drop l.toNat))) else none
 | _,_=>none
def z7j (x:AV) (lo hi:Option Int):Option AV :=
 match x,lo,hi with
 | .d (.str s),some l,some h=>if 0≤l∧l≤h∧h≤s.length then some (.d (.str ((s.take h.toNat).drop l.toNat))) else none
 | _,_,_=>none
@[go_sem] theorem z9h (x:AO) (lo:Option AO):evP ρ lv G (.slS x lo none)=z7i (ev ρ x) (bnd ρ 0 lo):=by
  have e:∀ n,bnd ρ n none=some (n:Int):=fun _=>rfl
  simp only [evP,z7i,e]
  generalize ev ρ x=o
  generalize bnd ρ 0 lo=l
  cases o with
  | d d=>cases d with
    | str s=>cases l with
      | none=>rfl
      | some l=>by_cases h2:0≤l∧l≤s.length<;>simp [h2]
    | _=>rfl
  | _=>rfl
@[go_sem] theorem z9i (x:AO) (lo:Option AO) (h:AO):evP ρ lv G (.slS x lo (some h))=z7j (ev ρ x) (bnd ρ 0 lo) (zzj (ev ρ h)):=by
  have e:∀ n,bnd ρ n (some h)=zzj (ev ρ h):=fun n=>rfl
  simp only [evP,z7j,e]
  generalize ev ρ x=o
  generalize bnd ρ 0 lo=l
  generalize zzj (ev ρ h)=k
  cases o with
  | d d=>cases d with
    | str s=>cases l<;>cases k<;>simp
    | _=>rfl
  | _=>rfl
@[go_sem] theorem z9j (s:List UInt8) (l:Int) (h1:0≤l) (h2:l≤s.length):z7i (.d (.str s)) (some l)=some (.d (.str (s.drop l.toNat))):=by simp only [z7i,h1,h2,and_self,if_true]
@[go_sem] theorem z9k (s:List UInt8) (l h:Int) (h1:0≤l) (h2:l≤h) (h3:h≤s.length):z7j (.d (.str s)) (some l) (some h)=some (.d (.str ((s.take h.toNat).drop l.toNat))):=by simp only [z7j,h1,h2,h3,and_self,if_true]
def zqx (off:Nat) (v:AV):Option AV:=match v with|.ptr k s g o=>some (.ptr k s g (o+off))|.cptr cs=>some (.cptr (cs.drop off))|.d (.gp b o)=>some (.d (.gp b (o+off)))|_=>none
@[go_sem] theorem z4k (off:Nat) (x:AO):evP ρ lv G (.faddr off x)=zqx off (ev ρ x):=rfl
@[go_sem] theorem z2t (off k s g o:Nat):zqx off (.ptr k s g o)=some (.ptr k s g (o+off)):=rfl
@[go_sem] theorem z0k (off:Nat) (cs:List D):zqx off (.cptr cs)=some (.cptr (cs.drop off)):=rfl
@[go_sem] theorem z4l (off b o:Nat):zqx off (.d (.gp b o))=some (.d (.gp b (o+off))):=rfl
def zzk (agg:Bool) (off n:Nat) (v:AV):Option AV:=match v with|.d (.agg cs)=>(zcj agg n (cs.drop off)).map .d|_=>none
@[go_sem] theorem z4m (agg:Bool) (off n:Nat) (x:AO):evP ρ lv G (.field agg off n x)=zzk agg off n (ev ρ x):=rfl
@[go_sem] theorem z2u (agg:Bool) (off n:Nat) (cs:List D):zzk agg off n (.d (.agg cs))=(zcj agg n (cs.drop off)).map .d:=rfl
def zcn (sz:Nat) (x:Option D) (i:AV):Option AV:=match x,i with
 | some (.list es),.d (.int _ n)=>if es.all (zb sz)∧0≤n then (es[n.toNat]?).map fun e=>.cptr e.cells else none
 | some (.gs b off len _),.d (.int _ n)=>if 0≤n∧n<len then some (.d (.gp b (off+n.toNat * sz))) else none
 | _,_=>none
@[go_sem] theorem z4n (sz:Nat) (x i:AO):evP ρ lv G (.iaddr sz x i)=zcn sz (ev ρ x).data (ev ρ i):=rfl
theorem zpk (sz:Nat) (es:List D) (k:IntKind) (n:Int) (ha:es.all (zb sz)=true) (h0:0≤n) (h:n.toNat<es.length):zcn sz (some (.list es)) (.d (.int k n))=some (.cptr (es[n.toNat]).cells):=by
 simp only [zcn,ha,h0,and_self,if_true,List.getElem?_eq_getElem h,Option.map_some]
@[go_sem] theorem z2v {α:Type} (sz:Nat) (f:α→D) (es:List α) (k:IntKind) (n:Int) (h0:0≤n) (h:n.toNat<es.length):zcn sz (some (.list (es.map f))) (.d (.int k n))=if (es.map f).all (zb sz)=true then some (.cptr (f es[n.toNat]).cells) else none:=by
  by_cases ha:(es.map f).all (zb sz)=true
  · rw [zpk sz _ k n ha h0 (by simpa using h),if_pos ha];simp
  · rw [if_neg ha];simp [zcn,ha]
@[go_sem] theorem z4o (sz b off len cap:Nat) (k:IntKind) (n:Int) (h0:0≤n) (h:n<len):zcn sz (some (.gs b off len cap)) (.d (.int k n))=some (.d (.gp b (off+n.toNat * sz))):=by
  simp only [zcn,h0,h,and_self,if_true]
def zjv (len sz:Nat) (x i:AV):Option AV:=match x,i with
 | .ptr k s g o,.d (.int _ n)=>if 0≤n∧n<len then some (.ptr k s g (o+n.toNat * sz)) else none
 | .cptr cs,.d (.int _ n)=>if 0≤n∧n<len then some (.cptr (cs.drop (n.toNat * sz))) else none
 | .d (.gp b o),.d (.int _ n)=>if 0≤n∧n<len then some (.d (.gp b (o+n.toNat * sz))) else none
 | _,_=>none
@[go_sem] theorem z2w (len sz:Nat) (x i:AO):evP ρ lv G (.iaddrA len sz x i)=zjv len sz (ev ρ x) (ev ρ i):=rfl
@[go_sem] theorem z0l (len sz k s g o:Nat) (ik:IntKind) (n:Int) (h0:0≤n) (h:n<len):zjv len sz (.ptr k s g o) (.d (.int ik n))=some (.ptr k s g (o+n.toNat * sz)):=by simp only [zjv,h0,h,and_self,if_true]
@[go_sem] theorem z2x (len sz b o:Nat) (ik:IntKind) (n:Int) (h0:0≤n) (h:n<len):zjv len sz (.d (.gp b o)) (.d (.int ik n))=some (.d (.gp b (o+n.toNat * sz))):=by simp only [zjv,h0,h,and_self,if_true]
def z0m (x i:AV):Option AV:=match x,i with
 | .d (.str s),.d (.int _ n)=>if 0≤n then (s[n.toNat]?).map fun b=>.d (.int .u8 b.toNat) else none
 | _,_=>none
@[go_sem] theorem z7k (x i:AO):evP ρ lv G (.idxS x i)=z0m (ev ρ x) (ev ρ i):=rfl
@[go_sem] theorem z7l (s:List UInt8) (k:IntKind) (n:Int) (h0:0≤n) (h:n.toNat<s.length):z0m (.d (.str s)) (.d (.int k n))=some (.d (.int .u8 (s[n.toNat]).toNat)):=by
  simp only [z0m,h0,if_true,List.getElem?_eq_getElem h,Option.map_some]
def z0n (agg:Bool) (len sz:Nat) (x i:AV):Option AV:=match x,i with
 | .d (.agg cs),.d (.int _ n)=>if 0≤n∧n<len then (zcj agg sz (cs.drop (n.toNat * sz))).map .d else none
 | _,_=>none
@[go_sem] theorem z7m (agg:Bool) (len sz:Nat) (x i:AO):evP ρ lv G (.idxA agg len sz x i)=z0n agg len sz (ev ρ x) (ev ρ i):=rfl
@[go_sem] theorem z7n (agg:Bool) (len sz:Nat) (cs:List D) (k:IntKind) (n:Int) (h0:0≤n) (h:n<len):z0n agg len sz (.d (.agg cs)) (.d (.int k n))=(zcj agg sz (cs.drop (n.toNat * sz))).map .d:=by simp only [z0n,h0,h,and_self,if_true]
def z4p (x:AV) (i:Nat):Option AV:=match x with|.tup vs=>(vs[i]?).map .d|_=>none
@[go_sem] theorem z9l (x:AO) (i:Nat):evP ρ lv G (.ext x i)=z4p (ev ρ x) i:=rfl
@[go_sem] theorem vExt_0 (a:D) (vs:List D):z4p (.tup (a::vs)) 0=some (.d a):=rfl
@[go_sem] theorem vExt_1 (a b:D) (vs:List D):z4p (.tup (a::b::vs)) 1=some (.d b):=rfl
@[go_sem] theorem vExt_2 (a b c:D) (vs:List D):z4p (.tup (a::b::c::vs)) 2=some (.d c):=rfl
@[go_sem] theorem vExt_3 (a b c d:D) (vs:List D):z4p (.tup (a::b::c::d::vs)) 3=some (.d d):=rfl
def z2y (str:Bool) (x:Option D):Option AV:=match x with|some y=>(z73 str y).map fun n=>.d (.int .i64 n)|none=>none
@[go_sem] theorem z9m (str:Bool) (x:AO):evP ρ lv G (.len str x)=z2y str (ev ρ x).data:=rfl
@[go_sem] theorem z4q (es:List D):z2y false (some (.list es))=some (.d (.int .i64 es.length)):=rfl
@[go_sem] theorem z7o:z2y false (some .nilS)=some (.d (.int .i64 0)):=rfl
@[go_sem] theorem z9n (b off len cap:Nat):z2y false (some (.gs b off len cap))=some (.d (.int .i64 len)):=rfl
@[go_sem] theorem z7p (s:List UInt8):z2y true (some (.str s))=some (.d (.int .i64 s.length)):=rfl
def vMx (x y:AV):Option AV:=match x,y with|.d (.int k a),.d (.int _ b)=>some (.d (.int k (if b > a then b else a)))|_,_=>none
@[go_sem] theorem evP_mx (x y:AO):evP ρ lv G (.mx x y)=vMx (ev ρ x) (ev ρ y):=rfl
def vMn (x y:AV):Option AV:=match x,y with|.d (.int k a),.d (.int _ b)=>some (.d (.int k (if b<a then b else a)))|_,_=>none
@[go_sem] theorem evP_mn (x y:AO):evP ρ lv G (.mn x y)=vMn (ev ρ x) (ev ρ y):=rfl
@[go_sem] theorem vMn_i (k k':IntKind) (a b:Int):vMn (.d (.int k a)) (.d (.int k' b))=some (.d (.int k (min a b))):=by simp only [vMn];congr 3;by_cases h:b<a<;>simp [h]<;>omega
def z4r (x:Option D):Option AV:=match x with
 | some .nilS=>some (.d (.str []))
 | some (.list es)=>(zbh es).map fun l=>.d (.str l)
 | _=>none
@[go_sem] theorem z9o (x:AO):evP ρ lv G (.b2s x)=z4r (ev ρ x).data:=rfl
@[go_sem] theorem z7q:z4r (some .nilS)=some (.d (.str [])):=rfl
def eB (b:UInt8):D:=.int .u8 b.toNat
theorem zfs (l:List UInt8):zbh (l.map eB)=some l:=by
 induction l with
 | nil=>rfl
 | cons b l ih=>simp [eB,zbh] at ih ⊢;rw [ih]
def vS2b (x:AV):Option AV:=match x with|.d (.str s)=>some (.d (.list (s.map fun b=>.int .u8 b.toNat)))|_=>none
@[go_sem] theorem z9p (x:AO):evP ρ lv G (.s2b x)=vS2b (ev ρ x):=rfl
@[go_sem] theorem z9q (s:List UInt8):vS2b (.d (.str s))=some (.d (.list (s.map eB))):=rfl
@[go_sem] theorem z7r (b:UInt8):(eB b).cells=[.int .u8 b.toNat]:=rfl
def z9r (x:Option D):Option AV:=match x with|some .nilS=>some (.d (.int .i64 0))|some (.gs _ _ _ cap)=>some (.d (.int .i64 cap))|_=>none
@[go_sem] theorem z9s (x:AO):evP ρ lv G (.cap x)=z9r (ev ρ x).data:=rfl
@[go_sem] theorem z7s:z9r (some .nilS)=some (.d (.int .i64 0)):=rfl
@[go_sem] theorem z9t (b off len cap:Nat):z9r (some (.gs b off len cap))=some (.d (.int .i64 cap)):=rfl
@[go_sem] theorem zel (sz by_:Nat) (xs es:List D) (h0:0<by_) (hb:(xs.length+es.length) * by_≤mostBytes):zbc sz by_ (.own sz xs) (.list es)=if es.all (zb sz)=true then some (.own sz (xs++es)) else none:=by
  simp only [zbc,if_neg (Nat.ne_of_gt h0),zx6];by_cases ha:es.all (zb sz)=true<;>simp [ha,hb]
@[go_sem] theorem zpl (s:List UInt8) (h:s.length≤mostBytes):zbc 1 0 (.d (.str [])) (.str s)=some (.own 1 (s.map eB)):=by
  simp only [zbc,zu9,h,and_self,if_true]
  rfl
@[go_sem] theorem z4s (f:FuncId):target (.d (.fn f))=some (f,[]):=rfl
@[go_sem] theorem z0o (f:FuncId) (caps:List (Nat×Nat×Nat)):target (.func f caps)=some (f,caps.map fun (k,s,g)=>.ptr k s g 0):=rfl
end
theorem zk4 (n:Nat):(0≤(n:Int))=True:=by simp
theorem zo:mostBytes=140737488355328:=rfl
attribute [go_sem] zo List.isEmpty_cons List.isEmpty_nil zk4 Nat.add_zero Nat.zero_add decide_true decide_false not_true_eq_false not_false_eq_true Bool.not_true Bool.not_false AV.d.injEq and_self and_true true_and
@[go_sem] theorem sh_d (x:D):sh (.d x)=.d x:=rfl
@[go_sem] theorem sh_own (sz:Nat) (es:List D):sh (.own sz es)=.d (.list es):=rfl
@[go_sem] theorem sh_ptr (k s g off:Nat):sh (.ptr k s g off)=.ptr (k+1) s g off:=rfl
@[go_sem] theorem z9u (f:FuncId) (caps:List (Nat×Nat×Nat)):sh (.func f caps)=.func f (caps.map fun (k,s,g)=>(k+1,s,g)):=rfl
@[go_sem] theorem z9v (cs:List D):sh (.cptr cs)=.cptr cs:=rfl
theorem zhw {ρ:Env}:∀ {args:List AO} {xs:List D},zx ρ args=some xs→(args.map (ev ρ)).map sh=xs.map .d
 | [],xs,h=>by simp [zx] at h;subst h;rfl
 | o::args,xs,h=>by
   simp only [zx] at h
   split at h
   · rename_i x xs' hx hxs
     cases h
     simp only [List.map_cons,zhw hxs]
     congr 1
     generalize ev ρ o=v at hx
     cases v<;>simp [AV.data] at hx<;>subst hx<;>rfl
   · cases h
theorem zqy {P:Program} {d:Option Nat} {f:AO} {args:List AO} {q:Nat} {ρ:Env} {L:Hp} {σ:List Hp} {G:Gh} {K:St→Prop} {g:FuncId} {xs cs:List D} {Q:AV→Prop}
 (hc:∀ σ,zbb P g ((xs++cs).map .d) σ G fun r σ' G'=>σ'=σ∧G'=G∧Q r) (ht:target (ev ρ f)=some (g,cs.map .d)) (hd:zx ρ args=some xs) (hK:∀ r,Q r→K (put ρ d r,L,σ,G)):zdl P d f args q ρ L σ G K:=by
 unfold zdl
 rw [ht]
 have e:(args.map (ev ρ)++cs.map AV.d).map sh=(xs++cs).map AV.d:=by
  rw [List.map_append,zhw hd,List.map_append,List.map_map];rfl
 simp only
 split
 · rw [e]
   exact (hc _).mono fun r lv G' ⟨h1,h2,h3⟩=>by subst h1;subst h2;exact hK r h3
 · split
   · rw [e]
     exact (hc _).mono fun r lv G' ⟨h1,h2,h3⟩=>by subst h1;subst h2;exact ⟨rfl,fun _=>zjk.refl _,hK r h3⟩
   · refine ⟨cs,rfl,?_⟩
     rw [hd]
     exact (hc _).mono fun r lv G' ⟨h1,h2,h3⟩=>by subst h1;subst h2;exact ⟨rfl,fun _=>zjk.refl _,hK r h3⟩
theorem zuj {P:Program} {d:Option Nat} {f:AO} {args:List AO} {q:Nat} {ρ:Env} {L:Hp} {σ:List Hp} {G:Gh} {K:St→Prop} {g:FuncId} {xs:List D} {Q:AV→Prop}
 (hc:∀ σ,zbb P g (xs.map .d) σ G fun r σ' G'=>σ'=σ∧G'=G∧Q r) (ht:target (ev ρ f)=some (g,[])) (hd:zx ρ args=some xs) (hK:∀ r,Q r→K (put ρ d r,L,σ,G)):zdl P d f args q ρ L σ G K :=
 zqy (cs:=[]) (by simpa using hc) ht hd hK
theorem z0p {P:Program} {d:Option Nat} {f:AO} {args:List AO} {q:Nat} {ρ:Env} {L:Hp} {σ:List Hp} {G:Gh} {K:St→Prop} {g:FuncId} {xs:List D} {Q:AV→Prop}
 (hc:zba P g xs Q) (ht:target (ev ρ f)=some (g,[])) (hd:zx ρ args=some xs) (hK:∀ r,Q r→K (put ρ d r,L,σ,G)):zdl P d f args q ρ L σ G K :=
 zuj (fun σ=>hc.quiet σ G) ht hd hK
theorem E_le {l l':List (Nat×AV)} (h:∀ p∈l',VLe (E l p.1) p.2):∀ i,VLe (E l i) (E l' i):=by
 intro i
 induction l' with
 | nil=>exact .undef _
 | cons p l' ih =>
  obtain ⟨j,v⟩:=p
  simp only [E]
  split
  · rename_i e;subst e;exact h _ List.mem_cons_self
  · exact ih fun q hq=>h q (List.mem_cons_of_mem _ hq)
theorem zuk {l l':List (Nat×AV)} {L:Hp} {σ:List Hp} {G:Gh} (h:∀ p∈l',VLe (E l p.1) p.2):ztm (E l,L,σ,G) (E l',L,σ,G):=⟨E_le h,fun _=>BLe.refl _,rfl,GLe.refl _⟩
theorem z4t {l l':List (Nat×AV)} {h h':List (Nat×Blk)} {σ:List Hp} {G:Gh} (he:∀ p∈l',VLe (E l p.1) p.2) (hb:HB h=HB h'):ztm (E l,HB h,σ,G) (E l',HB h',σ,G):=by rw [← hb];exact zuk he
theorem zxq (v:AV):VLe v v=True:=by simp [VLe.refl]
theorem zul (v:AV):VLe v .undef=True:=by simp [VLe.undef]
theorem zsr (sz:Nat):VLe (.d .nilS) (.own sz [])=True:=by simp [VLe.nilown]
theorem z0q (sz:Nat) (es:List D):VLe (.own sz es) (.d (.list es))=True:=by simp [VLe.own]
attribute [go_sem] zxq zul zsr z0q
@[go_sem ↓] theorem z7t (l:List (Nat×AV)):(∀ p∈([]:List (Nat×AV)),VLe (E l p.1) p.2)=True:=by simp
@[go_sem ↓] theorem z4u (l l':List (Nat×AV)) (q:Nat×AV):(∀ p∈q::l',VLe (E l p.1) p.2)=(VLe (E l q.1) q.2∧∀ p∈l',VLe (E l p.1) p.2):=by simp
theorem zcx (h:List (Nat×Blk)):∀ (ss:List Nat),(ss.all fun s=>!(h.map (·.1)).contains s)=true→HB (h++ss.map fun s=>(s,⟨0,none⟩))=HB h:=by
 intro ss hs
 funext j
 induction h with
 | nil =>
  induction ss with
  | nil=>rfl
  | cons s ss ih=>simp only [List.nil_append,List.map_cons,HB] at ih ⊢;split<;>first|rfl|exact ih (by simp at hs ⊢)
 | cons p h ih =>
  obtain ⟨i,b⟩:=p
  simp only [List.cons_append,HB]
  split
  · rfl
  · refine ih ?_
    simp only [List.all_eq_true,List.map_cons,List.contains_cons,Bool.not_eq_true',Bool.or_eq_false_iff] at hs ⊢
    exact fun s hm=>(hs s hm).2
section
variable {P:Program} {κ:zaz→St→Prop} {st:St} {h:zu κ}
theorem W.seq [DD] {x y:ACode} (hx:W P x (zu.mk (a:=zaz.then (fun st'=>W P y (zu.mk (a:=κ)) st') κ)) st):W P (.seq x y) h st:=SW.seq hx
theorem W.block [DD] {id:Nat} {x:ACode} (hx:W P x (zu.mk (a:=zaz.inBlock id κ)) st):W P (.block id x) h st:=SW.block hx
theorem W.scope [DD] {x:ACode} (hx:W P x h st):W P (.scope x) h st:=SW.scope hx
theorem W.reg [DD] {d:Bool} {os:List AI} (hx:zaq P os st.1 st.2.1 st.2.2.1 st.2.2.2 (κ .normal)):W P (.reg d os) h st:=SW.reg hx
theorem W.skip [DD] (hx:κ .normal st):W P .skip h st:=SW.skip hx
theorem W.exit [DD] {id:Nat} (hx:κ (.exit id) st):W P (.exit id) h st:=SW.exit hx
theorem W.ret [DD] (hx:κ .ret st):W P .ret h st:=SW.ret hx
def wI2 (v:AV) {k1 k2:Prop} (_:zu k1) (_:zu k2):Prop:=∃ b,v=.d (.bool b)∧if b=true then k1 else k2
@[go_sem] theorem wI2_d (b:Bool) {k1 k2:Prop} (h1:zu k1) (h2:zu k2):wI2 (.d (.bool b)) h1 h2=wG (.d (.bool b)) true h1 h2:=by cases b<;>simp [wI2,wG,zh4]
theorem W.ifc [DD] {c:AO} {x y:ACode} (hx:wI2 (ev st.1 c) (zu.mk (a:=W P x (zu.mk (a:=κ)) st)) (zu.mk (a:=W P y (zu.mk (a:=κ)) st))):W P (.cond c x y) h st:=by
 obtain ⟨b,hb,hx⟩:=hx
 refine SW.cond hb (fun e=>?_) (fun e=>?_)
 · subst e;exact hx
 · subst e;exact hx
theorem zns {p:Prop} [Decidable p] {k1 k2:Prop} {i1:zu k1} {i2:zu k2} (h1:p→k1) (h2:¬ p→k2):wG (.d (.bool (decide p))) true i1 i2 :=
 wG_t (fun h=>h1 (of_decide_eq_true h)) (fun h=>h2 (of_decide_eq_false h))
theorem z0r {p:Prop} [Decidable p] {k1 k2:Prop} {i1:zu k1} {i2:zu k2} (h1:¬ p→k1) (h2:p→k2):wG (.d (.bool (decide p))) false i1 i2 :=
 wG_f (fun h=>h1 (of_decide_eq_false h)) (fun h=>h2 (of_decide_eq_true h))
theorem W.loop [DD] {x:ACode} (I:Nat→St→Prop) (h0:∃ n st0,ztm st st0∧I n st0) (round:∀ n st',I n st'→W P x (zu.mk (a:=zaz.then (Back (zu.mk (a:=I)) n) κ)) st'):W P (.loop x) h st:=by
 obtain ⟨n,st0,hl,hi⟩:=h0
 exact (SW.loop I hi round).weaken hl
theorem W.weaken [DD] {c:ACode} {st0:St} (hl:ztm st st0) (hx:W P c (zu.mk (a:=κ)) st0):W P c h st:=SW.weaken hl hx
theorem W.cut [DD] {x y:ACode} (J:St→Prop) (hx:W P x (zu.mk (a:=zaz.then (fun st'=>∃ st0,ztm st' st0∧J st0) κ)) st) (hJ:∀ st',J st'→W P y (zu.mk (a:=κ)) st'):W P (.seq x y) h st:=SW.cut J hx hJ
end
theorem zap {P:Program} {gs:List Nat} {f:FuncId} {nt:Nat} {res:List zgl} {c:ACode} {vs:List AV} {σ:List Hp} {G:Gh} {Q:AV→List Hp→Gh→Prop} (hm:P.follows .mixedOrders=true) (hf:zf P gs f=some ⟨nt,res,c⟩)
 (h:W P c (zu.mk (a:=zxe res Q)) (E (zqt 0 vs),HB [],σ,G)):zbb P f vs σ G Q :=
 zpd hm hf (by rw [zz8];exact h)
theorem zal {P:Program} {gs:List Nat} {f:FuncId} {nt:Nat} {res:List zgl} {c:ACode} {xs:List D} {Q:AV→Prop} (hm:P.follows .mixedOrders=true) (hf:zf P gs f=some ⟨nt,res,c⟩)
 (h:W P c (zu.mk (a:=zxe res fun r σ' G'=>σ'=[]∧G'=zdi∧Q r)) (E (zqt 0 (xs.map .d)),HB [],[],zdi)):zba P f xs Q:=zap hm hf h
theorem Fin.le {res:List zgl} {Q:AV→List Hp→Gh→Prop} {h:zu Q} {st:St} {r r':AV} (hf:fin res st.1 (st.2.1::st.2.2.1) st.2.2.2=some r) (hl:RLe r r') (hq:Q r' st.2.2.1 st.2.2.2):Fin res h st:=⟨r,r',hf,hl,hq⟩
theorem Fin.eq {res:List zgl} {Q:AV→List Hp→Gh→Prop} {h:zu Q} {st:St} {r:AV} (hf:fin res st.1 (st.2.1::st.2.2.1) st.2.2.2=some r) (hq:Q r st.2.2.1 st.2.2.2):Fin res h st:=⟨r,r,hf,.refl r,hq⟩
theorem Fin.p {res:List zgl} {Q:AV→Prop} {h:zu fun (r:AV) (σ':List Hp) (G':Gh)=>σ'=[]∧G'=zdi∧Q r} {ρ:Env} {L:Hp} {r:AV} (hf:fin res ρ [L] zdi=some r) (hq:Q r):Fin res h (ρ,L,[],zdi):=⟨r,r,hf,.refl r,rfl,rfl,hq⟩
theorem Fin.ple {res:List zgl} {Q:AV→Prop} {h:zu fun (r:AV) (σ':List Hp) (G':Gh)=>σ'=[]∧G'=zdi∧Q r} {ρ:Env} {L:Hp} {r r':AV} (hf:fin res ρ [L] zdi=some r) (hl:RLe r r') (hq:Q r'):Fin res h (ρ,L,[],zdi):=⟨r,r',hf,hl,rfl,rfl,hq⟩
section
variable {P:Program} {d:Option Nat} {f:AO} {args:List AO} {q:Nat} {ρ:Env} {L:Hp} {σ:List Hp} {G:Gh} {K:St→Prop} {h:zu K} {g:FuncId} {xs ys:List D} {Q:AV→Prop}
theorem wC_P (hc:zba P g xs Q) (ht:target (ev ρ f)=some (g,[])∧zx ρ args=some xs) (hK:∀ r,Q r→K (put ρ d r,L,σ,G)):wC P d f args q ρ L σ G h:=z0p hc ht.1 ht.2 hK
end
theorem zcz {k:IntKind} {a b:Int} (h:a=b):VLe (.d (.int k a)) (.d (.int k b)):=by rw [h];exact .refl _
theorem iE {k:IntKind} {a b:Int} (h:a=b):AV.d (.int k a)=.d (.int k b):=by rw [h]
end Go.E2
namespace Go.E2
structure Row (sz n cap:Nat) (es cs:List D):Prop where
 len:es.length=n
 all:es.all (zb sz)=true
 fit:n≤cap
 room:cap * sz≤cs.length
 eq:cs.take (n * sz)=zag es
theorem Row.fl {sz n cap:Nat} {es cs:List D} (h:Row sz n cap es cs):(zag es).length=n * sz:=by rw [zw h.all,h.len]
theorem Row.split {sz n cap:Nat} {es cs:List D} (h:Row sz n cap es cs):cs=zag es++cs.drop (n * sz):=by rw [← h.eq,List.take_append_drop]
theorem Row.ncs {sz n cap:Nat} {es cs:List D} (h:Row sz n cap es cs):n * sz≤cs.length:=Nat.le_trans (Nat.mul_le_mul_right _ h.fit) h.room
theorem Row.mk' {sz n cap:Nat} {es rest:List D} (hl:es.length=n) (ha:es.all (zb sz)=true) (hc:n≤cap) (hr:cap * sz≤(zag es++rest).length):Row sz n cap es (zag es++rest) :=
 ⟨hl,ha,hc,hr,by rw [List.take_append_of_le_length (by rw [zw ha,hl];exact Nat.le_refl _),List.take_of_length_le (by rw [zw ha,hl];exact Nat.le_refl _)]⟩
theorem zum {i n sz:Nat} (h:i<n):i * sz+sz≤n * sz:=by
 have:=Nat.mul_le_mul_right sz (Nat.succ_le_of_lt h)
 rw [Nat.succ_mul] at this;exact this
theorem Row.get {sz n cap:Nat} {es cs:List D} (h:Row sz n cap es cs) {i:Nat} (hi:i<es.length):(cs.drop (i * sz)).take sz=es[i].cells:=by
 have hi':i<n:=h.len▸hi
 have:=zum (sz:=sz) hi'
 rw [zqj h.all (List.getElem?_eq_getElem hi),← h.eq,List.drop_take,List.take_take]
 congr 1
 omega
theorem Row.get1 {sz n cap:Nat} {es cs:List D} (h:Row sz n cap es cs) {i j:Nat} (hi:i<es.length) (hj:j<sz):(cs.drop (i * sz+j)).head?=es[i].cells[j]?:=by
 rw [← h.get hi,List.getElem?_take_of_lt hj,List.getElem?_drop,List.head?_drop]
theorem Row.fits {sz n cap:Nat} {es cs:List D} (h:Row sz n cap es cs) {i:Nat} (hi:i<es.length):i * sz+sz≤cs.length:=by
 have:=zum (sz:=sz) (h.len▸hi:i<n)
 have:=h.ncs
 omega
theorem zjw {cs vs:List D} {off:Nat} (h:off+vs.length≤cs.length):(zbv cs vs off).length=cs.length:=by
 simp only [zbv,List.length_append,List.length_take,List.length_drop];omega
theorem znt {sz:Nat}:∀ {es:List D} {i:Nat} {x:D},es.all (zb sz)=true→x.cells.length=sz→i<es.length→zag (es.set i x)=zbv (zag es) x.cells (i * sz)
 | e::es,0,x,ha,hx,_=>by
   simp only [List.all_cons,Bool.and_eq_true] at ha
   have he:e.cells.length=sz:=by have:=ha.1;simp [zb] at this;exact this.1
   simp only [List.set_cons_zero,z7,zbv,Nat.zero_mul,List.take_zero,List.nil_append,Nat.zero_add]
   rw [List.drop_append_of_le_length (by omega),List.drop_of_length_le (by omega),List.nil_append]
 | e::es,i+1,x,ha,hx,hi=>by
   simp only [List.all_cons,Bool.and_eq_true] at ha
   have he:e.cells.length=sz:=by have:=ha.1;simp [zb] at this;exact this.1
   have ih:=znt (i:=i) ha.2 hx (by simpa using hi)
   simp only [List.set_cons_succ,z7,ih,zbv,Nat.add_mul,Nat.one_mul]
   rw [List.take_append,List.take_of_length_le (by omega:e.cells.length≤i * sz+sz),he,show i * sz+sz - sz=i * sz from by omega]
   rw [List.drop_append,List.drop_of_length_le (by omega:e.cells.length≤i * sz+sz+x.cells.length),List.nil_append,he,show i * sz+sz+x.cells.length - sz=i * sz+x.cells.length from by omega]
   simp [List.append_assoc]
theorem z0s {es:List D} {p:D→Bool} (h:es.all p=true) {i:Nat} {x:D} (hx:p x=true):(es.set i x).all p=true:=by
 rw [List.all_eq_true] at h ⊢
 intro y hy
 rcases List.mem_or_eq_of_mem_set hy with h1|h1
 · exact h y h1
 · subst h1;exact hx
theorem Row.set {sz n cap:Nat} {es cs:List D} (h:Row sz n cap es cs) {i:Nat} (hi:i<es.length) {x:D} (hx:zb sz x=true):Row sz n cap (es.set i x) (zbv cs x.cells (i * sz)):=by
 have hxl:x.cells.length=sz:=by simp [zb] at hx;exact hx.1
 have hf:=h.fits hi
 have hfl:=h.fl
 have hlt:=zum (sz:=sz) (h.len▸hi:i<n)
 refine ⟨by simpa using h.len,z0s h.all hx,h.fit,by rw [zjw (by omega)];exact h.room,?_⟩
 rw [znt h.all hxl hi]
 conv=>lhs;rw [h.split]
 simp only [zbv]
 rw [List.take_append_of_le_length (by rw [hfl];omega:i * sz≤(zag es).length),List.drop_append_of_le_length (by rw [hfl,hxl];omega),← List.append_assoc,List.take_append_of_le_length,List.take_of_length_le]
 · simp only [List.length_append,List.length_take,List.length_drop];omega
 · simp only [List.length_append,List.length_take,List.length_drop];omega
theorem zav {G:Gh} {sz:Nat} {es:List D} (h:es.all (zb sz)=true):zb2 G sz (.list es)=some (es.length,zag es):=by simp only [zb2,h,if_true]
theorem Row.view0 {G:Gh} {sz n cap b:Nat} {es cs:List D} (h:Row sz n cap es cs) (hb:G b=some cs) {c:Nat}:zb2 G sz (.gs b 0 n c)=some (n,zag es):=by
 have:=h.ncs
 have h0:0+n * sz≤cs.length:=by omega
 simp only [zb2,hb,h0,if_true,List.drop_zero,h.eq]
section
variable {d:Nat} {sz by_:Nat} {z:List D} {l:List (Nat×AV)} {L:Hp} {σ:List Hp} {G:Gh} {K:St→Prop}
theorem znu {olds es2:List D} {n m:Nat} {es:List D} (hz:z.length=sz) (ho:olds=zag es) (hn:es.length=n) (ha:es.all (zb sz)=true) (hm:es2.length=m) (ha2:es2.all (zb sz)=true) (hb:(n+m) * by_≤mostBytes)
 (hK:∀ b cap cs,G b=none→Row sz (n+m) cap (es++es2) cs→K (E ((d,.d (.gs b 0 (n+m) cap))::l),L,σ,G.set b (some cs))):zs0 (some d) sz by_ z olds (zag es2) n m (E l) L σ G K:=by
 refine ⟨hb,fun b cap h1 h2=>hK b cap _ h1 ?_⟩
 subst ho
 have e:zag es++zag es2++rep (cap - (n+m)) z=zag (es++es2)++rep (cap - (n+m)) z:=by rw [zdj]
 rw [e]
 have hall:(es++es2).all (zb sz)=true:=by rw [List.all_append,ha,ha2];rfl
 refine Row.mk' (by simp [hn,hm]) hall h2 ?_
 rw [List.length_append,zw hall,List.length_append,hn,hm]
 have:(rep (cap - (n+m)) z).length=(cap - (n+m)) * sz:=by simp [rep,hz]
 rw [this,← Nat.add_mul]
 exact Nat.mul_le_mul_right _ (by omega)
theorem zxr {es2:List D} {m:Nat} (hz:z.length=sz) (hm:es2.length=m) (ha2:es2.all (zb sz)=true) (hb:m * by_≤mostBytes)
 (h0:m=0→K (E ((d,.d .nilS)::l),L,σ,G)) (hK:m≠0→∀ b cap cs,G b=none→Row sz m cap es2 cs→K (E ((d,.d (.gs b 0 m cap))::l),L,σ,G.set b (some cs))):zs1 (some d) sz by_ z .nilS m (zag es2) (E l) L σ G K:=by
 simp only [zs1]
 split
 · rename_i e;exact h0 e
 · rename_i e
   refine znu (es:=[]) hz (by simp [zag]) rfl rfl hm ha2 (by simpa using hb) ?_
   intro b cap cs h1 h2
   have:=hK e b cap cs h1 (by simpa using h2)
   simpa using this
theorem zxs {b n cap:Nat} {es cs es2:List D} {m:Nat} (hG:G b=some cs) (hr:Row sz n cap es cs) (hz:z.length=sz) (hm:es2.length=m) (ha2:es2.all (zb sz)=true) (hb:(n+m) * by_≤mostBytes)
 (h1:∀ cs',n+m≤cap→Row sz (n+m) cap (es++es2) cs'→K (E ((d,.d (.gs b 0 (n+m) cap))::l),L,σ,G.set b (some cs')))
 (h2:∀ b' cap' cs',cap<n+m→G b'=none→Row sz (n+m) cap' (es++es2) cs'→K (E ((d,.d (.gs b' 0 (n+m) cap'))::l),L,σ,G.set b' (some cs'))):zs1 (some d) sz by_ z (.gs b 0 n cap) m (zag es2) (E l) L σ G K:=by
 have hn:=hr.ncs
 have hfl:=hr.fl
 have hall:(es++es2).all (zb sz)=true:=by rw [List.all_append,hr.all,ha2];rfl
 simp only [zs1,hG,Nat.zero_add]
 refine ⟨hn,?_⟩
 split
 · rename_i hc
   have hfit:(n+m) * sz≤cs.length:=Nat.le_trans (Nat.mul_le_mul_right _ hc) hr.room
   refine ⟨hfit,h1 _ hc ⟨by simp [hr.len,hm],hall,hc,?_,?_⟩⟩
   · rw [zjw (by rw [zw ha2,hm,← Nat.add_mul];exact hfit)];exact hr.room
   · simp only [zbv]
     rw [hr.eq,← zdj,List.take_append_of_le_length,List.take_of_length_le]
     · rw [zw hall,List.length_append,hr.len,hm];exact Nat.le_refl _
     · rw [zw hall,List.length_append,hr.len,hm];exact Nat.le_refl _
 · rename_i hc
   rw [List.drop_zero,hr.eq]
   exact znu hz rfl hr.len hr.all hm ha2 hb fun b' cap' cs' q1 q2=>h2 b' cap' cs' (by omega) q1 q2
end
section
variable {P:Program} {os:List AI} {l:List (Nat×AV)} {L:Hp} {σ:List Hp} {G:Gh} {K:St→Prop}
def wA (x:AV) (y:Option D) {k:D→D→Prop} (_:zu k):Prop:=∃ u v,x=.d u∧y=some v∧k u v
@[go_sem] theorem wA_mk (u v:D) {k:D→D→Prop} (h:zu k):wA (.d u) (some v) h=k u v:=by simp [wA]
def z4v (d:Option Nat) (sz by_:Nat) (z:List D) (x y:D) (ρ:Env) (L:Hp) (σ:List Hp) (G:Gh) {K:St→Prop} (_:zu K):Prop:=match zsz G sz y with|some (m,ys)=>zs1 d sz by_ z x m ys ρ L σ G K|none=>False
theorem zun {d:Option Nat} {sz by_:Nat} {z:List D} {x y:D} {ρ:Env} {m:Nat} {ys:List D} {hk:zu K} (h:zb2 G sz y=some (m,ys)) (hK:zs1 d sz by_ z x m ys ρ L σ G K):z4v d sz by_ z x y ρ L σ G hk:=by unfold z4v;rw [zx5 h];exact hK
@[go_sem ↓] theorem z4w {d:Nat} {sz b:Nat} {z:List D} {x y:AO}:zaq P (⟨some d,.appG sz b z x y,none⟩::os) (E l) L σ G K=wA (ev (E l) x) (ev (E l) y).data (zu.mk (a:=fun u v=>z4v (some d) sz b z u v (E l) L σ G (zu.mk (a:=fun st=>zaq P os st.1 st.2.1 st.2.2.1 st.2.2.2 K)))):=by
  simp only [zaq,zaf,zax,zce,wA,z4v,eq_iff_iff]
  generalize ev (E l) x=u
  generalize (ev (E l) y).data=v
  cases u<;>cases v<;>simp<;>exact Iff.rfl
def z0t {k:Nat→Prop} (_:zu k) (G:Gh):Prop:=∀ b,G b=none→k b
theorem zam {k:Nat→Prop} {h:zu k} {G:Gh} (hk:∀ b,G b=none→k b):z0t h G:=hk
@[go_sem ↓] theorem z7u {d:Nat} {sz n:Nat} {z:D} {ps:List (Nat×AO)}:zaq P (⟨some d,.mkG sz n z ps,none⟩::os) (E l) L σ G K=wB (zx (E l) (ps.map (·.2))) (zu.mk (a:=fun vs=>wT (vs.all (zb sz) && zb sz z && (ps.all fun p=>p.1<n)) (zu.mk (a:=wL ((ps.zip vs).foldl (fun es (p,v)=>es.set p.1 v) (List.replicate n z)) (zu.mk (a:=fun es=>z0t (zu.mk (a:=fun b=>zaq P os (E ((d,.d (.gs b 0 n n))::l)) L σ (G.set b (some (zag es))) K)) G)))))):=by
  simp only [zaq,zaf,zax,zce,wB,wT,wL,z0t,eq_iff_iff]
  cases zx (E l) (ps.map (·.2)) with
  | none=>simp
  | some vs=>simp [zsq]
end
end Go.E2
