/-
 Rules by which a region is run on what its slots hold.
 Conditions: none;definitions and laws.
-/
import Derived.Test.YtpplfpnjfjnkdaaGreatDoorEN1
namespace Go.E2
def E:List (Nat×AV)→Env
 | [],_=>.undef
 | (i,v)::l,j=>if j=i then v else E l j
def HB:List (Nat×Blk)→Hp
 | [],_=>⟨0,none⟩
 | (i,b)::l,j=>if j=i then b else HB l j
def zp6:List (Nat×Blk)→Nat→Blk→List (Nat×Blk)
 | [],s,b=>[(s,b)]
 | (i,c)::l,s,b=>if s=i then (s,b)::l else (i,c)::zp6 l s b
@[go_sem] theorem E_nil (j:Nat):E [] j=.undef:=rfl
@[go_sem] theorem E_cons (i j:Nat) (v:AV) (l:List (Nat×AV)):E ((i,v)::l) j=if j=i then v else E l j:=rfl
@[go_sem] theorem HB_nil (j:Nat):HB [] j=⟨0,none⟩:=rfl
@[go_sem] theorem HB_cons (i j:Nat) (b:Blk) (l:List (Nat×Blk)):HB ((i,b)::l) j=if j=i then b else HB l j:=rfl
@[go_sem] theorem z90 (s:Nat) (b:Blk):zp6 [] s b=[(s,b)]:=rfl
@[go_sem] theorem z6e (i s:Nat) (b c:Blk) (l:List (Nat×Blk)):zp6 ((i,c)::l) s b=if s=i then (s,b)::l else (i,c)::zp6 l s b:=rfl
theorem zyk (l:List (Nat×AV)) (d:Nat) (v:AV):upd (E l) d v=E ((d,v)::l):=rfl
theorem zvb (l:List (Nat×Blk)) (s:Nat) (b:Blk):upd (HB l) s b=HB (zp6 l s b):=by
 induction l with
 | nil=>rfl
 | cons p l ih =>
  obtain ⟨i,c⟩:=p
  funext j
  simp only [zp6]
  by_cases h:s=i
  · subst h
    rw [if_pos rfl]
    by_cases hj:j=s<;>simp [upd,HB,hj]
  · rw [if_neg h]
    have e:=congrFun ih j
    by_cases hj:j=s
    · subst hj
      simp [upd] at e
      simp [upd,HB,h,← e]
    · simp [upd,hj] at e
      simp [upd,HB,hj,← e]
def zt5 (n:Nat):List AV→List (Nat×AV)
 | []=>[]
 | v::vs=>(n,v)::zt5 (n+1) vs
theorem zrw:∀ (vs:List AV) (n i:Nat),E (zt5 n vs) i=if n≤i then vs.getD (i - n) .undef else .undef
 | [],n,i=>by simp [zt5,E]
 | v::vs,n,i=>by
   simp only [zt5,E]
   by_cases h:i=n
   · subst h;simp
   · rw [if_neg h,zrw vs (n+1) i]
     by_cases h1:n≤i
     · have:n+1≤i:=by omega
       rw [if_pos h1,if_pos this]
       obtain ⟨k,rfl⟩:∃ k,i=n+1+k:=⟨i - (n+1),by omega⟩
       have e1:n+1+k - n=k+1:=by omega
       have e2:n+1+k - (n+1)=k:=by omega
       rw [e1,e2];simp
     · have:¬ n+1≤i:=by omega
       rw [if_neg h1,if_neg this]
theorem ofL_E (vs:List AV):ofL vs=E (zt5 0 vs):=by
 funext i;rw [zrw];simp [ofL]
@[go_sem] theorem z91 (n:Nat):zt5 n []=[]:=rfl
@[go_sem] theorem z6f (n:Nat) (v:AV) (vs:List AV):zt5 n (v::vs)=(n,v)::zt5 (n+1) vs:=rfl
structure zm {α:Type} (a:α):Type where
 mk ::
def wV (v:AV) {k:AV→Prop} (_:zm k):Prop:=k v
def wL (cs:List D) {k:List D→Prop} (_:zm k):Prop:=k cs
def wN (n:Nat) {k:Nat→Prop} (_:zm k):Prop:=k n
def wH (h:List (Nat×Blk)) {k:List (Nat×Blk)→Prop} (_:zm k):Prop:=k h
def wO (o:Option AV) {k:AV→Prop} (_:zm k):Prop:=∃ v,o=some v∧k v
def wD (o:Option D) {k:D→Prop} (_:zm k):Prop:=∃ v,o=some v∧k v
def wB (o:Option (List D)) {k:List D→Prop} (_:zm k):Prop:=∃ v,o=some v∧k v
def wT (b:Bool) {p:Prop} (_:zm p):Prop:=b=true∧p
def wP (c:Prop) {p:Prop} (_:zm p):Prop:=c∧p
def wG (v:AV) (want:Bool) {k1 k2:Prop} (_:zm k1) (_:zm k2):Prop:=∃ r,zhr v want=some r∧if r=true then k1 else k2
section
variable {v v':AV} {k:AV→Prop} {o o':Option AV} {b b':Bool} {p:Prop}
@[go_sem] theorem wV_eq (h:zm k):wV v h=k v:=rfl
@[go_sem] theorem wL_eq (c:List D) {k:List D→Prop} (h:zm k):wL c h=k c:=rfl
@[go_sem] theorem wN_eq (c:Nat) {k:Nat→Prop} (h:zm k):wN c h=k c:=rfl
@[go_sem] theorem wH_eq (c:List (Nat×Blk)) {k:List (Nat×Blk)→Prop} (h:zm k):wH c h=k c:=rfl
@[go_sem] theorem wO_some (h:zm k):wO (some v) h=k v:=by simp [wO]
@[go_sem] theorem wD_some (x:D) {k:D→Prop} (h:zm k):wD (some x) h=k x:=by simp [wD]
@[go_sem] theorem wB_some (x:List D) {k:List D→Prop} (h:zm k):wB (some x) h=k x:=by simp [wB]
@[go_sem] theorem wT_true (h:zm p):wT true h=p:=by simp [wT]
@[go_sem] theorem wP_true (h:zm p):wP True h=p:=by simp [wP]
@[go_sem] theorem wG_tt {k1 k2:Prop} (h1:zm k1) (h2:zm k2):wG (.d (.bool true)) true h1 h2=k1:=by simp [wG,zhr]
@[go_sem] theorem wG_ff {k1 k2:Prop} (h1:zm k1) (h2:zm k2):wG (.d (.bool false)) false h1 h2=k1:=by simp [wG,zhr]
@[go_sem] theorem wG_tf {k1 k2:Prop} (h1:zm k1) (h2:zm k2):wG (.d (.bool true)) false h1 h2=k2:=by simp [wG,zhr]
@[go_sem] theorem wG_ft {k1 k2:Prop} (h1:zm k1) (h2:zm k2):wG (.d (.bool false)) true h1 h2=k2:=by simp [wG,zhr]
@[go_sem] theorem wG_skp {want:Bool} {k1 k2:Prop} (h1:zm k1) (h2:zm k2):wG .skp want h1 h2=k2:=by simp [wG,zhr]
theorem wG_t {b:Bool} {k1 k2:Prop} {i1:zm k1} {i2:zm k2} (h1:b=true→k1) (h2:b=false→k2):wG (.d (.bool b)) true i1 i2:=by
 cases b
 · rw [wG_ft];exact h2 rfl
 · rw [wG_tt];exact h1 rfl
theorem wG_f {b:Bool} {k1 k2:Prop} {i1:zm k1} {i2:zm k2} (h1:b=false→k1) (h2:b=true→k2):wG (.d (.bool b)) false i1 i2:=by
 cases b
 · rw [wG_ff];exact h1 rfl
 · rw [wG_tf];exact h2 rfl
theorem z6g {c:Prop} {h:zm p} (hc:c) (hk:p):wP c h:=⟨hc,hk⟩
end
@[go_sem] theorem data_d (x:D):(AV.d x).data=some x:=rfl
@[go_sem] theorem z92 (sz:Nat) (es:List D):(AV.own sz es).data=some (.list es):=rfl
@[go_sem] theorem cp_d (x:D):(AV.d x).cp=.d x:=rfl
@[go_sem] theorem cp_own (sz:Nat) (es:List D):(AV.own sz es).cp=.d (.list es):=rfl
@[go_sem] theorem cp_ptr (k s g off:Nat):(AV.ptr k s g off).cp=.ptr k s g off:=rfl
@[go_sem] theorem cp_cptr (cs:List D):(AV.cptr cs).cp=.cptr cs:=rfl
@[go_sem] theorem cp_func (f:FuncId) (c:List (Nat×Nat×Nat)):(AV.func f c).cp=.func f c:=rfl
@[go_sem] theorem cp_tup (xs:List D):(AV.tup xs).cp=.tup xs:=rfl
@[go_sem] theorem cp_skp:AV.skp.cp=.skp:=rfl
@[go_sem] theorem z93:AV.undef.cp=.undef:=rfl
@[go_sem] theorem ev_t (ρ:Env) (i:Nat):ev ρ (.t i)=ρ i:=rfl
@[go_sem] theorem ev_c (ρ:Env) (x:D):ev ρ (.c x)=.d x:=rfl
@[go_sem] theorem ztf (l:List (Nat×AV)) (d:Nat) (v:AV):put (E l) (some d) v=E ((d,v)::l):=rfl
@[go_sem] theorem z94 (ρ:Env) (v:AV):put ρ none v=ρ:=rfl
@[go_sem] theorem blk_0 (h:Hp) (σ:List Hp) (s g:Nat):blk (h::σ) 0 s g=if (h s).g=g then (h s).c else none:=rfl
@[go_sem] theorem blk_s (h:Hp) (σ:List Hp) (k s g:Nat):blk (h::σ) (k+1) s g=blk σ k s g:=rfl
@[go_sem] theorem blk_1 (h:Hp) (σ:List Hp) (s g:Nat):blk (h::σ) 1 s g=blk σ 0 s g:=rfl
@[go_sem] theorem blk_2 (h:Hp) (σ:List Hp) (s g:Nat):blk (h::σ) 2 s g=blk σ 1 s g:=rfl
@[go_sem] theorem blk_3 (h:Hp) (σ:List Hp) (s g:Nat):blk (h::σ) 3 s g=blk σ 2 s g:=rfl
def wS (n:Nat) (pa:AV) (y:Option D) (r:Root) (h:List (Nat×Blk)) (σ:List Hp) (G:Gh) {k:Hp→List Hp→Gh→Prop} (_:zm k):Prop :=
 match pa,y with
 | .ptr 0 s g off,some y=>wT (zbv r 0 s && zb n y) (zm.mk (a:=wB (blk (HB h::σ) 0 s g) (zm.mk (a:=fun cs=>wP (off+n≤cs.length) (zm.mk (a:=wL (zaw cs y.cells off) (zm.mk (a:=fun cs'=>wH (zp6 h s ⟨g,some cs'⟩) (zm.mk (a:=fun h'=>k (HB h') σ G))))))))))
 | .ptr (i+1) s g off,some y=>wT (zbv r (i+1) s && zb n y) (zm.mk (a:=wB (blk σ i s g) (zm.mk (a:=fun cs=>wP (off+n≤cs.length) (zm.mk (a:=wL (zaw cs y.cells off) (zm.mk (a:=fun cs'=>∃ h0,σ[i]?=some h0∧k (HB h) (σ.set i (upd h0 s ⟨g,some cs'⟩)) G))))))))
 | .d (.gp b off),some y=>wT (r.foreignOk && zb n y) (zm.mk (a:=wB (G b) (zm.mk (a:=fun cs=>wP (off+n≤cs.length) (zm.mk (a:=wL (zaw cs y.cells off) (zm.mk (a:=fun cs'=>k (HB h) σ (G.set b (some cs'))))))))))
 | _,_=>False
@[go_sem] theorem wS_0 (n s g off:Nat) (y:D) (r:Root) (h:List (Nat×Blk)) (σ:List Hp) (G:Gh) {k:Hp→List Hp→Gh→Prop} (hk:zm k):wS n (.ptr 0 s g off) (some y) r h σ G hk =
  wT (zbv r 0 s && zb n y) (zm.mk (a:=wB (blk (HB h::σ) 0 s g) (zm.mk (a:=fun cs=>wP (off+n≤cs.length) (zm.mk (a:=wL (zaw cs y.cells off) (zm.mk (a:=fun cs'=>wH (zp6 h s ⟨g,some cs'⟩) (zm.mk (a:=fun h'=>k (HB h') σ G)))))))))):=rfl
@[go_sem] theorem wS_s (n i s g off:Nat) (y:D) (r:Root) (h:List (Nat×Blk)) (σ:List Hp) (G:Gh) {k:Hp→List Hp→Gh→Prop} (hk:zm k):wS n (.ptr (i+1) s g off) (some y) r h σ G hk =
  wT (zbv r (i+1) s && zb n y) (zm.mk (a:=wB (blk σ i s g) (zm.mk (a:=fun cs=>wP (off+n≤cs.length) (zm.mk (a:=wL (zaw cs y.cells off) (zm.mk (a:=fun cs'=>∃ h0,σ[i]?=some h0∧k (HB h) (σ.set i (upd h0 s ⟨g,some cs'⟩)) G)))))))):=rfl
@[go_sem] theorem wS_gp (n b off:Nat) (y:D) (r:Root) (h:List (Nat×Blk)) (σ:List Hp) (G:Gh) {k:Hp→List Hp→Gh→Prop} (hk:zm k):wS n (.d (.gp b off)) (some y) r h σ G hk =
  wT (r.foreignOk && zb n y) (zm.mk (a:=wB (G b) (zm.mk (a:=fun cs=>wP (off+n≤cs.length) (zm.mk (a:=wL (zaw cs y.cells off) (zm.mk (a:=fun cs'=>k (HB h) σ (G.set b (some cs')))))))))):=rfl
def wI (neg:Bool) (o:Option D) {k:Bool→Prop} (_:zm k):Prop :=
 match o with
 | some .nilS=>k (!neg)
 | some (.list es)=>∀ t,(es≠[]→t=neg)→k t
 | some (.gs _ _ _ _)=>k neg
 | _=>False
@[go_sem] theorem wI_nil (neg:Bool) {k:Bool→Prop} (h:zm k):wI neg (some .nilS) h=k (!neg):=rfl
@[go_sem] theorem wI_gs (neg:Bool) (b off n cap:Nat) {k:Bool→Prop} (h:zm k):wI neg (some (.gs b off n cap)) h=k neg:=rfl
def wC (P:Program) (d:Option Nat) (f:AO) (args:List AO) (q:Nat) (ρ:Env) (L:Hp) (σ:List Hp) (G:Gh) {K:St→Prop} (_:zm K):Prop:=zch P d f args q ρ L σ G K
def W (P:Program) (c:ACode) {κ:zbu→St→Prop} (_:zm κ) (st:St):Prop:=SW P c κ st
section
variable {P:Program} {os:List AI} {l:List (Nat×AV)} {L:Hp} {h:List (Nat×Blk)} {σ:List Hp} {G:Gh} {K:St→Prop}
@[go_sem ↓] theorem z95 {ρ:Env}:zac P [] ρ L σ G K=K (ρ,L,σ,G):=rfl
@[go_sem ↓] theorem z4q {d:Option Nat} {op:AOp} {t:Nat} {w:Bool}:zac P (⟨d,op,some (t,w)⟩::os) (E l) L σ G K=wG (E l t) w (zm.mk (a:=zac P (⟨d,op,none⟩::os) (E l) L σ G K)) (zm.mk (a:=zac P os (put (E l) d .skp) L σ G K)):=rfl
theorem zep {d:Option Nat} {op:AOp} {ρ:Env} (hd:∀ K':St→Prop,zax P ⟨d,op,none⟩ ρ L σ G K'=(∃ st,zk d op ρ L σ G=some st∧K' st)) :
 zac P (⟨d,op,none⟩::os) ρ L σ G K=∃ st,zk d op ρ L σ G=some st∧zac P os st.1 st.2.1 st.2.2.1 st.2.2.2 K:=hd _
theorem zu {d:Nat} {op:AOp} (hd:∀ K':St→Prop,zax P ⟨some d,op,none⟩ (E l) L σ G K'=(∃ st,zk (some d) op (E l) L σ G=some st∧K' st)) (he:zk (some d) op (E l) L σ G=(evP (E l) (L::σ) G op).map fun v=>(put (E l) (some d) v,L,σ,G)) :
 zac P (⟨some d,op,none⟩::os) (E l) L σ G K=wO (evP (E l) (L::σ) G op) (zm.mk (a:=fun v=>zac P os (E ((d,v)::l)) L σ G K)):=by
 rw [zep hd,he]
 simp only [Option.map_eq_some_iff,wO,eq_iff_iff]
 constructor
 · rintro ⟨st,⟨v,hv,rfl⟩,hk⟩;exact ⟨v,hv,hk⟩
 · rintro ⟨v,hv,hk⟩;exact ⟨_,⟨v,hv,rfl⟩,hk⟩
@[go_sem ↓] theorem z96 {d:Nat} {x:AO}:zac P (⟨some d,.mv false x,none⟩::os) (E l) L σ G K=wV (ev (E l) x).cp (zm.mk (a:=fun v=>zac P os (E ((d,v)::l)) L σ G K)):=by
  rw [zu (fun _=>rfl) rfl];simp [evP,wO,wV]
@[go_sem ↓] theorem z6h {d:Nat} {x:D}:zac P (⟨some d,.mv true (.c x),none⟩::os) (E l) L σ G K=zac P os (E ((d,.d x)::l)) L σ G K:=by
  rw [zep (fun _=>rfl)];simp [zk,zdx,ev,ztf]
@[go_sem ↓] theorem z97 {d i:Nat}:zac P (⟨some d,.mv true (.t i),none⟩::os) (E l) L σ G K=wV (E l i) (zm.mk (a:=fun v=>wV v.cp (zm.mk (a:=fun v'=>zac P os (E ((d,v)::(i,v')::l)) L σ G K)))):=by
  rw [zep (fun _=>rfl)];simp [zk,zdx,ev,ztf,zyk,wV]
@[go_sem ↓] theorem z6i {d:Nat} {a b c:AO}:zac P (⟨some d,.pick a b c,none⟩::os) (E l) L σ G K=wO (evP (E l) (L::σ) G (.pick a b c)) (zm.mk (a:=fun v=>zac P os (E ((d,v)::l)) L σ G K)):=zu (fun _=>rfl) rfl
@[go_sem ↓] theorem z4r {d:Nat} {z:List D} {ps:List (Nat×Nat×AO)}:zac P (⟨some d,.build z ps,none⟩::os) (E l) L σ G K=wO (evP (E l) (L::σ) G (.build z ps)) (zm.mk (a:=fun v=>zac P os (E ((d,v)::l)) L σ G K)):=zu (fun _=>rfl) rfl
@[go_sem ↓] theorem z0o {d:Nat} {a b:Nat} {z:D} {ps:List (Nat×AO)}:zac P (⟨some d,.mkslice a b z ps,none⟩::os) (E l) L σ G K=wO (evP (E l) (L::σ) G (.mkslice a b z ps)) (zm.mk (a:=fun v=>zac P os (E ((d,v)::l)) L σ G K)):=zu (fun _=>rfl) rfl
@[go_sem ↓] theorem z6j {d:Nat} {a:Bool} {n:Nat} {x:AO} {r:Root}:zac P (⟨some d,.load a n x r,none⟩::os) (E l) L σ G K=wO (evP (E l) (L::σ) G (.load a n x r)) (zm.mk (a:=fun v=>zac P os (E ((d,v)::l)) L σ G K)):=zu (fun _=>rfl) rfl
@[go_sem ↓] theorem z4s {d:Nat} {x:AO}:zac P (⟨some d,.nilck x,none⟩::os) (E l) L σ G K=wO (evP (E l) (L::σ) G (.nilck x)) (zm.mk (a:=fun v=>zac P os (E ((d,v)::l)) L σ G K)):=zu (fun _=>rfl) rfl
@[go_sem ↓] theorem z98 {d:Nat} {o:BinOp} {x y:AO}:zac P (⟨some d,.bin o x y,none⟩::os) (E l) L σ G K=wO (evP (E l) (L::σ) G (.bin o x y)) (zm.mk (a:=fun v=>zac P os (E ((d,v)::l)) L σ G K)):=zu (fun _=>rfl) rfl
@[go_sem ↓] theorem z99 {d:Nat} {n:Bool} {ks:List Kd} {x y:AO}:zac P (⟨some d,.eqs n ks x y,none⟩::os) (E l) L σ G K=wO (evP (E l) (L::σ) G (.eqs n ks x y)) (zm.mk (a:=fun v=>zac P os (E ((d,v)::l)) L σ G K)):=zu (fun _=>rfl) rfl
@[go_sem ↓] theorem regW_eqb {d:Nat} {n:Bool} {x y:AO}:zac P (⟨some d,.eqb n x y,none⟩::os) (E l) L σ G K=wO (evP (E l) (L::σ) G (.eqb n x y)) (zm.mk (a:=fun v=>zac P os (E ((d,v)::l)) L σ G K)):=zu (fun _=>rfl) rfl
@[go_sem ↓] theorem regW_not {d:Nat} {x:AO}:zac P (⟨some d,.not x,none⟩::os) (E l) L σ G K=wO (evP (E l) (L::σ) G (.not x)) (zm.mk (a:=fun v=>zac P os (E ((d,v)::l)) L σ G K)):=zu (fun _=>rfl) rfl
@[go_sem ↓] theorem regW_neg {d:Nat} {x:AO}:zac P (⟨some d,.neg x,none⟩::os) (E l) L σ G K=wO (evP (E l) (L::σ) G (.neg x)) (zm.mk (a:=fun v=>zac P os (E ((d,v)::l)) L σ G K)):=zu (fun _=>rfl) rfl
@[go_sem ↓] theorem z6k {d:Nat} {k:IntKind} {x:AO}:zac P (⟨some d,.conv k x,none⟩::os) (E l) L σ G K=wO (evP (E l) (L::σ) G (.conv k x)) (zm.mk (a:=fun v=>zac P os (E ((d,v)::l)) L σ G K)):=zu (fun _=>rfl) rfl
@[go_sem ↓] theorem z19 {d:Nat} {f:FuncId} {c:List AO}:zac P (⟨some d,.mkfunc f c,none⟩::os) (E l) L σ G K=wO (evP (E l) (L::σ) G (.mkfunc f c)) (zm.mk (a:=fun v=>zac P os (E ((d,v)::l)) L σ G K)):=zu (fun _=>rfl) rfl
@[go_sem ↓] theorem regW_sl0 {d:Nat} {n:Nat} {x:AO}:zac P (⟨some d,.sl0 n x,none⟩::os) (E l) L σ G K=wO (evP (E l) (L::σ) G (.sl0 n x)) (zm.mk (a:=fun v=>zac P os (E ((d,v)::l)) L σ G K)):=zu (fun _=>rfl) rfl
@[go_sem ↓] theorem z6l {d:Nat} {n:Nat} {x y z:AO}:zac P (⟨some d,.sl3L n x y z,none⟩::os) (E l) L σ G K=wO (evP (E l) (L::σ) G (.sl3L n x y z)) (zm.mk (a:=fun v=>zac P os (E ((d,v)::l)) L σ G K)):=zu (fun _=>rfl) rfl
@[go_sem ↓] theorem regW_sl {d:Nat} {n:Nat} {x:AO} {lo hi:Option AO}:zac P (⟨some d,.sl n x lo hi,none⟩::os) (E l) L σ G K=wO (evP (E l) (L::σ) G (.sl n x lo hi)) (zm.mk (a:=fun v=>zac P os (E ((d,v)::l)) L σ G K)):=zu (fun _=>rfl) rfl
@[go_sem ↓] theorem regW_slS {d:Nat} {x:AO} {lo hi:Option AO}:zac P (⟨some d,.slS x lo hi,none⟩::os) (E l) L σ G K=wO (evP (E l) (L::σ) G (.slS x lo hi)) (zm.mk (a:=fun v=>zac P os (E ((d,v)::l)) L σ G K)):=zu (fun _=>rfl) rfl
@[go_sem ↓] theorem z4t {d:Nat} {n:Nat} {x:AO}:zac P (⟨some d,.faddr n x,none⟩::os) (E l) L σ G K=wO (evP (E l) (L::σ) G (.faddr n x)) (zm.mk (a:=fun v=>zac P os (E ((d,v)::l)) L σ G K)):=zu (fun _=>rfl) rfl
@[go_sem ↓] theorem z4u {d:Nat} {a:Bool} {o n:Nat} {x:AO}:zac P (⟨some d,.field a o n x,none⟩::os) (E l) L σ G K=wO (evP (E l) (L::σ) G (.field a o n x)) (zm.mk (a:=fun v=>zac P os (E ((d,v)::l)) L σ G K)):=zu (fun _=>rfl) rfl
@[go_sem ↓] theorem z4v {d:Nat} {n:Nat} {x i:AO}:zac P (⟨some d,.iaddr n x i,none⟩::os) (E l) L σ G K=wO (evP (E l) (L::σ) G (.iaddr n x i)) (zm.mk (a:=fun v=>zac P os (E ((d,v)::l)) L σ G K)):=zu (fun _=>rfl) rfl
@[go_sem ↓] theorem z2a {d:Nat} {m n:Nat} {x i:AO}:zac P (⟨some d,.iaddrA m n x i,none⟩::os) (E l) L σ G K=wO (evP (E l) (L::σ) G (.iaddrA m n x i)) (zm.mk (a:=fun v=>zac P os (E ((d,v)::l)) L σ G K)):=zu (fun _=>rfl) rfl
@[go_sem ↓] theorem z6m {d:Nat} {x i:AO}:zac P (⟨some d,.idxS x i,none⟩::os) (E l) L σ G K=wO (evP (E l) (L::σ) G (.idxS x i)) (zm.mk (a:=fun v=>zac P os (E ((d,v)::l)) L σ G K)):=zu (fun _=>rfl) rfl
@[go_sem ↓] theorem z6n {d:Nat} {a:Bool} {m n:Nat} {x i:AO}:zac P (⟨some d,.idxA a m n x i,none⟩::os) (E l) L σ G K=wO (evP (E l) (L::σ) G (.idxA a m n x i)) (zm.mk (a:=fun v=>zac P os (E ((d,v)::l)) L σ G K)):=zu (fun _=>rfl) rfl
@[go_sem ↓] theorem regW_ext {d:Nat} {x:AO} {i:Nat}:zac P (⟨some d,.ext x i,none⟩::os) (E l) L σ G K=wO (evP (E l) (L::σ) G (.ext x i)) (zm.mk (a:=fun v=>zac P os (E ((d,v)::l)) L σ G K)):=zu (fun _=>rfl) rfl
@[go_sem ↓] theorem regW_len {d:Nat} {s:Bool} {x:AO}:zac P (⟨some d,.len s x,none⟩::os) (E l) L σ G K=wO (evP (E l) (L::σ) G (.len s x)) (zm.mk (a:=fun v=>zac P os (E ((d,v)::l)) L σ G K)):=zu (fun _=>rfl) rfl
@[go_sem ↓] theorem regW_mx {d:Nat} {x y:AO}:zac P (⟨some d,.mx x y,none⟩::os) (E l) L σ G K=wO (evP (E l) (L::σ) G (.mx x y)) (zm.mk (a:=fun v=>zac P os (E ((d,v)::l)) L σ G K)):=zu (fun _=>rfl) rfl
@[go_sem ↓] theorem regW_mn {d:Nat} {x y:AO}:zac P (⟨some d,.mn x y,none⟩::os) (E l) L σ G K=wO (evP (E l) (L::σ) G (.mn x y)) (zm.mk (a:=fun v=>zac P os (E ((d,v)::l)) L σ G K)):=zu (fun _=>rfl) rfl
@[go_sem ↓] theorem regW_b2s {d:Nat} {x:AO}:zac P (⟨some d,.b2s x,none⟩::os) (E l) L σ G K=wO (evP (E l) (L::σ) G (.b2s x)) (zm.mk (a:=fun v=>zac P os (E ((d,v)::l)) L σ G K)):=zu (fun _=>rfl) rfl
@[go_sem ↓] theorem regW_s2b {d:Nat} {x:AO}:zac P (⟨some d,.s2b x,none⟩::os) (E l) L σ G K=wO (evP (E l) (L::σ) G (.s2b x)) (zm.mk (a:=fun v=>zac P os (E ((d,v)::l)) L σ G K)):=zu (fun _=>rfl) rfl
@[go_sem ↓] theorem regW_cap {d:Nat} {x:AO}:zac P (⟨some d,.cap x,none⟩::os) (E l) L σ G K=wO (evP (E l) (L::σ) G (.cap x)) (zm.mk (a:=fun v=>zac P os (E ((d,v)::l)) L σ G K)):=zu (fun _=>rfl) rfl
@[go_sem ↓] theorem regW_sl3 {d:Nat} {n:Nat} {x:AO} {lo:Option AO} {hi m:AO}:zac P (⟨some d,.sl3 n x lo hi m,none⟩::os) (E l) L σ G K=wO (evP (E l) (L::σ) G (.sl3 n x lo hi m)) (zm.mk (a:=fun v=>zac P os (E ((d,v)::l)) L σ G K)):=zu (fun _=>rfl) rfl
@[go_sem ↓] theorem z4w {s:Nat} {z:List D}:zac P (⟨some s,.alloc z,none⟩::os) (E l) (HB h) σ G K=wN ((HB h s).g+1) (zm.mk (a:=fun g=>wH (zp6 h s ⟨g,some z⟩) (zm.mk (a:=fun h'=>zac P os (E ((s,.ptr 0 s g 0)::l)) (HB h') σ G K)))):=by
  rw [zep (fun _=>rfl)];simp [zk,zyk,zvb,wN,wH]
@[go_sem ↓] theorem regW_box {s n:Nat} {x:AO}:zac P (⟨some s,.box n x,none⟩::os) (E l) (HB h) σ G K=wD (ev (E l) x).data (zm.mk (a:=fun y=>wT (zb n y) (zm.mk (a:=wL y.cells (zm.mk (a:=fun cs=>wN ((HB h s).g+1) (zm.mk (a:=fun g=>wH (zp6 h s ⟨g,some cs⟩) (zm.mk (a:=fun h'=>zac P os (E ((s,.ptr 0 s g 0)::l)) (HB h') σ G K)))))))))):=by
  rw [zep (fun _=>rfl)]
  simp only [zk,wD,wT,wL,wN,wH,zyk,zvb,eq_iff_iff]
  cases (ev (E l) x).data with
  | none=>simp
  | some y=>by_cases hy:zb n y=true<;>simp [hy]
@[go_sem ↓] theorem z4x {d:Option Nat} {n:Nat} {a v:AO} {r:Root}:zac P (⟨d,.store n a v r,none⟩::os) (E l) (HB h) σ G K=wS n (ev (E l) a) (ev (E l) v).data r h σ G (zm.mk (a:=fun L' σ' G'=>zac P os (put (E l) d .undef) L' σ' G' K)):=by
  rw [zep (fun _=>rfl)]
  simp only [zk,eq_iff_iff]
  generalize ev (E l) a=pa
  generalize (ev (E l) v).data=y
  cases y with
  | none=>cases pa<;>simp [wS]
  | some y =>
   cases pa with
   | ptr k s g off =>
    cases k with
    | zero =>
     simp only [wS,wT,wB,wP,wL,wH]
     by_cases h1:(zbv r 0 s && zb n y)=true
     · simp only [h1,if_true,true_and]
       cases hb:blk (HB h::σ) 0 s g with
       | none=>simp
       | some cs =>
        by_cases h2:off+n≤cs.length
        · simp [h2,zvb]
        · simp [h2]
     · simp [h1]
    | succ k =>
     simp only [wS,wT,wB,wP,wL]
     by_cases h1:(zbv r (k+1) s && zb n y)=true
     · simp only [h1,if_true,true_and,blk_s]
       cases hb:blk σ k s g with
       | none=>simp
       | some cs =>
        by_cases h2:off+n≤cs.length
        · simp only [h2,if_true,true_and,Option.some.injEq,exists_eq_left']
          cases σ[k]? with
          | none=>simp
          | some h0=>simp
        · simp [h2]
     · simp [h1]
   | d x =>
    cases x with
    | gp b off =>
     simp only [wS,wT,wB,wP,wL]
     by_cases h1:(r.foreignOk && zb n y)=true
     · simp only [h1,if_true,true_and]
       cases hb:G b with
       | none=>simp
       | some cs =>
        by_cases h2:off+n≤cs.length
        · simp [h2]
        · simp [h2]
     · simp [h1]
    | _=>simp [wS]
   | _=>simp [wS]
@[go_sem ↓] theorem z2b {d i sz b:Nat} {y:AO}:zac P (⟨some d,.append sz b (.t i) y,none⟩::os) (E l) L σ G K=wD (ev (E l) y).data (zm.mk (a:=fun z=>wO (zcf sz b (E l i) z) (zm.mk (a:=fun v=>wV (E l i).cp (zm.mk (a:=fun v'=>zac P os (E ((d,v)::(i,v')::l)) L σ G K)))))):=by
  rw [zep (fun _=>rfl)]
  simp only [zk,wD,wO,wV,eq_iff_iff,zdx,zyk,ev_t]
  generalize (ev (E l) y).data=o
  cases o with
  | none=>simp
  | some z =>
   simp only [Option.map_eq_some_iff,Option.some.injEq,exists_eq_left']
   constructor
   · rintro ⟨st,⟨v,hv,rfl⟩,hk⟩;exact ⟨v,hv,hk⟩
   · rintro ⟨v,hv,hk⟩;exact ⟨_,⟨v,hv,rfl⟩,hk⟩
@[go_sem ↓] theorem z4y {d:Nat} {neg:Bool} {x:AO}:zac P (⟨some d,.isnil neg x,none⟩::os) (E l) L σ G K=wI neg (ev (E l) x).data (zm.mk (a:=fun t=>zac P os (E ((d,.d (.bool t))::l)) L σ G K)):=by
  simp only [zac,zag,zax,zcd,zk,evP,eq_iff_iff]
  cases (ev (E l) x).data with
  | none=>simp [wI]
  | some y =>
   cases y with
   | list es =>
    cases es with
    | nil=>simp [wI,ztf]
    | cons e es=>simp [wI,ztf]
   | _=>simp [wI,ztf]
@[go_sem ↓] theorem z6o {d:Option Nat} {f:AO} {as:List AO} {q:Nat}:zac P (⟨d,.call f as q,none⟩::os) (E l) L σ G K=wC P d f as q (E l) L σ G (zm.mk (a:=fun st=>zac P os st.1 st.2.1 st.2.2.1 st.2.2.2 K)):=rfl
end
section
variable {f:St→Prop} {κ κ':zbu→St→Prop} {st st':St} {id:Nat}
@[go_sem ↓] theorem z2c:zbu.then f κ .normal st=f st:=rfl
@[go_sem ↓] theorem z6p:zbu.then f κ (.exit id) st=κ (.exit id) st:=rfl
@[go_sem ↓] theorem then_ret:zbu.then f κ .ret st=κ .ret st:=rfl
@[go_sem ↓] theorem zx4:zbu.inBlock id κ .normal st=κ .normal st:=rfl
@[go_sem ↓] theorem z2d:zbu.inBlock id κ .ret st=κ .ret st:=rfl
@[go_sem ↓] theorem z0p {id':Nat}:zbu.inBlock id κ (.exit id') st=if id'=id then κ .normal st else κ (.exit id') st:=rfl
def Fin (res:List zgv) {Q:AV→List Hp→Gh→Prop} (_:zm Q) (st:St):Prop:=z13 res Q st
@[go_sem ↓] theorem z2e {res:List zgv} {Q:AV→List Hp→Gh→Prop}:zu2 res Q .normal st=Fin res (zm.mk (a:=Q)) st:=rfl
@[go_sem ↓] theorem endQ_ret {res:List zgv} {Q:AV→List Hp→Gh→Prop}:zu2 res Q .ret st=Fin res (zm.mk (a:=Q)) st:=rfl
def Back {I:Nat→St→Prop} (_:zm I) (n:Nat) (st:St):Prop:=∃ m st0,m<n∧zsb st st0∧I m st0
end
end Go.E2
