/-
 Rules by which a region is run on what its slots hold.
 Conditions: none;definitions and laws.
-/
import Derived.Test.YtpplfpnjfjnkdaaGreatDoorEN1
namespace Go.E2
def E:List (Nat×AV)→Env
 | [],_=>.undef
 | (i,v)::l,j=>if j=i then v else E l j
def HB:List (Nat×Blk)→Hp
 | [],_=>⟨0,none⟩
 | (i,b)::l,j=>if j=i then b else HB l j
def ztl:List (Nat×Blk)→Nat→Blk→List (Nat×Blk)
 | [],s,b=>[(s,b)]
 | (i,c)::l,s,b=>if s=i then (s,b)::l else (i,c)::ztl l s b
@[go_sem] theorem E_nil (j:Nat):E [] j=.undef:=rfl
@[go_sem] theorem E_cons (i j:Nat) (v:AV) (l:List (Nat×AV)):E ((i,v)::l) j=if j=i then v else E l j:=rfl
@[go_sem] theorem HB_nil (j:Nat):HB [] j=⟨0,none⟩:=rfl
@[go_sem] theorem HB_cons (i j:Nat) (b:Blk) (l:List (Nat×Blk)):HB ((i,b)::l) j=if j=i then b else HB l j:=rfl
@[go_sem] theorem hset_nil (s:Nat) (b:Blk):ztl [] s b=[(s,b)]:=rfl
@[go_sem] theorem z6z (i s:Nat) (b c:Blk) (l:List (Nat×Blk)):ztl ((i,c)::l) s b=if s=i then (s,b)::l else (i,c)::ztl l s b:=rfl
theorem zvo (l:List (Nat×AV)) (d:Nat) (v:AV):upd (E l) d v=E ((d,v)::l):=rfl
theorem zvp (l:List (Nat×Blk)) (s:Nat) (b:Blk):upd (HB l) s b=HB (ztl l s b):=by
 induction l with
 | nil=>rfl
 | cons p l ih =>
  obtain ⟨i,c⟩:=p
  funext j
  simp only [ztl]
  by_cases h:s=i
  · subst h
    rw [if_pos rfl]
    by_cases hj:j=s<;>simp [upd,HB,hj]
  · rw [if_neg h]
    have e:=congrFun ih j
    by_cases hj:j=s
    · subst hj
      simp [upd] at e
      simp [upd,HB,h,← e]
    · simp [upd,hj] at e
      simp [upd,HB,hj,← e]
def zuk (n:Nat):List AV→List (Nat×AV)
 | []=>[]
 | v::vs=>(n,v)::zuk (n+1) vs
theorem zrs:∀ (vs:List AV) (n i:Nat),E (zuk n vs) i=if n≤i then vs.getD (i - n) .undef else .undef
 | [],n,i=>by simp [zuk,E]
 | v::vs,n,i=>by
   simp only [zuk,E]
   by_cases h:i=n
   · subst h;simp
   · rw [if_neg h,zrs vs (n+1) i]
     by_cases h1:n≤i
     · have:n+1≤i:=by omega
       rw [if_pos h1,if_pos this]
       obtain ⟨k,rfl⟩:∃ k,i=n+1+k:=⟨i - (n+1),by omega⟩
       have e1:n+1+k - n=k+1:=by omega
       have e2:n+1+k - (n+1)=k:=by omega
       rw [e1,e2];simp
     · have:¬ n+1≤i:=by omega
       rw [if_neg h1,if_neg this]
theorem ofL_E (vs:List AV):ofL vs=E (zuk 0 vs):=by
 funext i;rw [zrs];simp [ofL]
@[go_sem] theorem nums_nil (n:Nat):zuk n []=[]:=rfl
@[go_sem] theorem z60 (n:Nat) (v:AV) (vs:List AV):zuk n (v::vs)=(n,v)::zuk (n+1) vs:=rfl
structure zp {α:Type} (a:α):Type where
 mk ::
def wV (v:AV) {k:AV→Prop} (_:zp k):Prop:=k v
def wL (cs:List D) {k:List D→Prop} (_:zp k):Prop:=k cs
def wN (n:Nat) {k:Nat→Prop} (_:zp k):Prop:=k n
def wH (h:List (Nat×Blk)) {k:List (Nat×Blk)→Prop} (_:zp k):Prop:=k h
def wO (o:Option AV) {k:AV→Prop} (_:zp k):Prop:=∃ v,o=some v∧k v
def wD (o:Option D) {k:D→Prop} (_:zp k):Prop:=∃ v,o=some v∧k v
def wB (o:Option (List D)) {k:List D→Prop} (_:zp k):Prop:=∃ v,o=some v∧k v
def wT (b:Bool) {p:Prop} (_:zp p):Prop:=b=true∧p
def wP (c:Prop) {p:Prop} (_:zp p):Prop:=c∧p
def wG (v:AV) (want:Bool) {k1 k2:Prop} (_:zp k1) (_:zp k2):Prop:=∃ r,zh5 v want=some r∧if r=true then k1 else k2
section
variable {v v':AV} {k:AV→Prop} {o o':Option AV} {b b':Bool} {p:Prop}
@[go_sem] theorem wV_eq (h:zp k):wV v h=k v:=rfl
@[go_sem] theorem wL_eq (c:List D) {k:List D→Prop} (h:zp k):wL c h=k c:=rfl
@[go_sem] theorem wN_eq (c:Nat) {k:Nat→Prop} (h:zp k):wN c h=k c:=rfl
@[go_sem] theorem wH_eq (c:List (Nat×Blk)) {k:List (Nat×Blk)→Prop} (h:zp k):wH c h=k c:=rfl
@[go_sem] theorem wO_some (h:zp k):wO (some v) h=k v:=by simp [wO]
@[go_sem] theorem wD_some (x:D) {k:D→Prop} (h:zp k):wD (some x) h=k x:=by simp [wD]
@[go_sem] theorem wB_some (x:List D) {k:List D→Prop} (h:zp k):wB (some x) h=k x:=by simp [wB]
@[go_sem] theorem wT_true (h:zp p):wT true h=p:=by simp [wT]
@[go_sem] theorem wP_true (h:zp p):wP True h=p:=by simp [wP]
@[go_sem] theorem wG_tt {k1 k2:Prop} (h1:zp k1) (h2:zp k2):wG (.d (.bool true)) true h1 h2=k1:=by simp [wG,zh5]
@[go_sem] theorem wG_ff {k1 k2:Prop} (h1:zp k1) (h2:zp k2):wG (.d (.bool false)) false h1 h2=k1:=by simp [wG,zh5]
@[go_sem] theorem wG_tf {k1 k2:Prop} (h1:zp k1) (h2:zp k2):wG (.d (.bool true)) false h1 h2=k2:=by simp [wG,zh5]
@[go_sem] theorem wG_ft {k1 k2:Prop} (h1:zp k1) (h2:zp k2):wG (.d (.bool false)) true h1 h2=k2:=by simp [wG,zh5]
@[go_sem] theorem wG_skp {want:Bool} {k1 k2:Prop} (h1:zp k1) (h2:zp k2):wG .skp want h1 h2=k2:=by simp [wG,zh5]
theorem wG_t {b:Bool} {k1 k2:Prop} {i1:zp k1} {i2:zp k2} (h1:b=true→k1) (h2:b=false→k2):wG (.d (.bool b)) true i1 i2:=by
 cases b
 · rw [wG_ft];exact h2 rfl
 · rw [wG_tt];exact h1 rfl
theorem wG_f {b:Bool} {k1 k2:Prop} {i1:zp k1} {i2:zp k2} (h1:b=false→k1) (h2:b=true→k2):wG (.d (.bool b)) false i1 i2:=by
 cases b
 · rw [wG_ff];exact h1 rfl
 · rw [wG_tf];exact h2 rfl
theorem z2w {c:Prop} {h:zp p} (hc:c) (hk:p):wP c h:=⟨hc,hk⟩
end
@[go_sem] theorem data_d (x:D):(AV.d x).data=some x:=rfl
@[go_sem] theorem data_own (sz:Nat) (es:List D):(AV.own sz es).data=some (.list es):=rfl
@[go_sem] theorem cp_d (x:D):(AV.d x).cp=.d x:=rfl
@[go_sem] theorem cp_own (sz:Nat) (es:List D):(AV.own sz es).cp=.d (.list es):=rfl
@[go_sem] theorem cp_ptr (k s g off:Nat):(AV.ptr k s g off).cp=.ptr k s g off:=rfl
@[go_sem] theorem cp_cptr (cs:List D):(AV.cptr cs).cp=.cptr cs:=rfl
@[go_sem] theorem cp_func (f:FuncId) (c:List (Nat×Nat×Nat)):(AV.func f c).cp=.func f c:=rfl
@[go_sem] theorem cp_tup (xs:List D):(AV.tup xs).cp=.tup xs:=rfl
@[go_sem] theorem cp_skp:AV.skp.cp=.skp:=rfl
@[go_sem] theorem cp_undef:AV.undef.cp=.undef:=rfl
@[go_sem] theorem ev_t (ρ:Env) (i:Nat):ev ρ (.t i)=ρ i:=rfl
@[go_sem] theorem ev_c (ρ:Env) (x:D):ev ρ (.c x)=.d x:=rfl
@[go_sem] theorem ztm (l:List (Nat×AV)) (d:Nat) (v:AV):put (E l) (some d) v=E ((d,v)::l):=rfl
@[go_sem] theorem put_none (ρ:Env) (v:AV):put ρ none v=ρ:=rfl
@[go_sem] theorem blk_0 (h:Hp) (σ:List Hp) (s g:Nat):blk (h::σ) 0 s g=if (h s).g=g then (h s).c else none:=rfl
@[go_sem] theorem blk_s (h:Hp) (σ:List Hp) (k s g:Nat):blk (h::σ) (k+1) s g=blk σ k s g:=rfl
@[go_sem] theorem blk_1 (h:Hp) (σ:List Hp) (s g:Nat):blk (h::σ) 1 s g=blk σ 0 s g:=rfl
@[go_sem] theorem blk_2 (h:Hp) (σ:List Hp) (s g:Nat):blk (h::σ) 2 s g=blk σ 1 s g:=rfl
@[go_sem] theorem blk_3 (h:Hp) (σ:List Hp) (s g:Nat):blk (h::σ) 3 s g=blk σ 2 s g:=rfl
def wS (n:Nat) (pa:AV) (y:Option D) (r:Root) (h:List (Nat×Blk)) (σ:List Hp) (G:Gh) {k:Hp→List Hp→Gh→Prop} (_:zp k):Prop :=
 match pa,y with
 | .ptr 0 s g off,some y=>wT (zb6 r 0 s && ze n y) (zp.mk (a:=wB (blk (HB h::σ) 0 s g) (zp.mk (a:=fun cs=>wP (off+n≤cs.length) (zp.mk (a:=wL (zau cs y.cells off) (zp.mk (a:=fun cs'=>wH (ztl h s ⟨g,some cs'⟩) (zp.mk (a:=fun h'=>k (HB h') σ G))))))))))
 | .ptr (i+1) s g off,some y=>wT (zb6 r (i+1) s && ze n y) (zp.mk (a:=wB (blk σ i s g) (zp.mk (a:=fun cs=>wP (off+n≤cs.length) (zp.mk (a:=wL (zau cs y.cells off) (zp.mk (a:=fun cs'=>∃ h0,σ[i]?=some h0∧k (HB h) (σ.set i (upd h0 s ⟨g,some cs'⟩)) G))))))))
 | .d (.gp b off),some y=>wT (r.foreignOk && ze n y) (zp.mk (a:=wB (G b) (zp.mk (a:=fun cs=>wP (off+n≤cs.length) (zp.mk (a:=wL (zau cs y.cells off) (zp.mk (a:=fun cs'=>k (HB h) σ (G.set b (some cs'))))))))))
 | _,_=>False
@[go_sem] theorem wS_0 (n s g off:Nat) (y:D) (r:Root) (h:List (Nat×Blk)) (σ:List Hp) (G:Gh) {k:Hp→List Hp→Gh→Prop} (hk:zp k):wS n (.ptr 0 s g off) (some y) r h σ G hk =
  wT (zb6 r 0 s && ze n y) (zp.mk (a:=wB (blk (HB h::σ) 0 s g) (zp.mk (a:=fun cs=>wP (off+n≤cs.length) (zp.mk (a:=wL (zau cs y.cells off) (zp.mk (a:=fun cs'=>wH (ztl h s ⟨g,some cs'⟩) (zp.mk (a:=fun h'=>k (HB h') σ G)))))))))):=rfl
@[go_sem] theorem wS_s (n i s g off:Nat) (y:D) (r:Root) (h:List (Nat×Blk)) (σ:List Hp) (G:Gh) {k:Hp→List Hp→Gh→Prop} (hk:zp k):wS n (.ptr (i+1) s g off) (some y) r h σ G hk =
  wT (zb6 r (i+1) s && ze n y) (zp.mk (a:=wB (blk σ i s g) (zp.mk (a:=fun cs=>wP (off+n≤cs.length) (zp.mk (a:=wL (zau cs y.cells off) (zp.mk (a:=fun cs'=>∃ h0,σ[i]?=some h0∧k (HB h) (σ.set i (upd h0 s ⟨g,some cs'⟩)) G)))))))):=rfl
@[go_sem] theorem wS_gp (n b off:Nat) (y:D) (r:Root) (h:List (Nat×Blk)) (σ:List Hp) (G:Gh) {k:Hp→List Hp→Gh→Prop} (hk:zp k):wS n (.d (.gp b off)) (some y) r h σ G hk =
  wT (r.foreignOk && ze n y) (zp.mk (a:=wB (G b) (zp.mk (a:=fun cs=>wP (off+n≤cs.length) (zp.mk (a:=wL (zau cs y.cells off) (zp.mk (a:=fun cs'=>k (HB h) σ (G.set b (some cs')))))))))):=rfl
def wI (neg:Bool) (o:Option D) {k:Bool→Prop} (_:zp k):Prop :=
 match o with
 | some .nilS=>k (!neg)
 | some (.list es)=>∀ t,(es≠[]→t=neg)→k t
 | some (.gs _ _ _ _)=>k neg
 | _=>False
@[go_sem] theorem wI_nil (neg:Bool) {k:Bool→Prop} (h:zp k):wI neg (some .nilS) h=k (!neg):=rfl
@[go_sem] theorem wI_gs (neg:Bool) (b off n cap:Nat) {k:Bool→Prop} (h:zp k):wI neg (some (.gs b off n cap)) h=k neg:=rfl
def wC (P:Program) (d:Option Nat) (f:AO) (args:List AO) (q:Nat) (ρ:Env) (L:Hp) (σ:List Hp) (G:Gh) {K:St→Prop} (_:zp K):Prop:=zcl P d f args q ρ L σ G K
def W (P:Program) (c:ACode) {κ:zby→St→Prop} (_:zp κ) (st:St):Prop:=SW P c κ st
section
variable {P:Program} {os:List AI} {l:List (Nat×AV)} {L:Hp} {h:List (Nat×Blk)} {σ:List Hp} {G:Gh} {K:St→Prop}
@[go_sem ↓] theorem regW_nil {ρ:Env}:zaw P [] ρ L σ G K=K (ρ,L,σ,G):=rfl
@[go_sem ↓] theorem z5i {d:Option Nat} {op:AOp} {t:Nat} {w:Bool}:zaw P (⟨d,op,some (t,w)⟩::os) (E l) L σ G K=wG (E l t) w (zp.mk (a:=zaw P (⟨d,op,none⟩::os) (E l) L σ G K)) (zp.mk (a:=zaw P os (put (E l) d .skp) L σ G K)):=rfl
theorem zej {d:Option Nat} {op:AOp} {ρ:Env} (hd:∀ K':St→Prop,za5 P ⟨d,op,none⟩ ρ L σ G K'=(∃ st,zk d op ρ L σ G=some st∧K' st)) :
 zaw P (⟨d,op,none⟩::os) ρ L σ G K=∃ st,zk d op ρ L σ G=some st∧zaw P os st.1 st.2.1 st.2.2.1 st.2.2.2 K:=hd _
theorem zad {d:Nat} {op:AOp} (hd:∀ K':St→Prop,za5 P ⟨some d,op,none⟩ (E l) L σ G K'=(∃ st,zk (some d) op (E l) L σ G=some st∧K' st)) (he:zk (some d) op (E l) L σ G=(evP (E l) (L::σ) G op).map fun v=>(put (E l) (some d) v,L,σ,G)) :
 zaw P (⟨some d,op,none⟩::os) (E l) L σ G K=wO (evP (E l) (L::σ) G op) (zp.mk (a:=fun v=>zaw P os (E ((d,v)::l)) L σ G K)):=by
 rw [zej hd,he]
 simp only [yk8Q,wO,eq_iff_iff]
 constructor
 · rintro ⟨st,⟨v,hv,rfl⟩,hk⟩;exact ⟨v,hv,hk⟩
 · rintro ⟨v,hv,hk⟩;exact ⟨_,⟨v,hv,rfl⟩,hk⟩
@[go_sem ↓] theorem regW_mvF {d:Nat} {x:AO}:zaw P (⟨some d,.mv false x,none⟩::os) (E l) L σ G K=wV (ev (E l) x).cp (zp.mk (a:=fun v=>zaw P os (E ((d,v)::l)) L σ G K)):=by
  rw [zad (fun _=>rfl) rfl];simp [evP,wO,wV]
@[go_sem ↓] theorem z61 {d:Nat} {x:D}:zaw P (⟨some d,.mv true (.c x),none⟩::os) (E l) L σ G K=zaw P os (E ((d,.d x)::l)) L σ G K:=by
  rw [zej (fun _=>rfl)];simp [zk,zdf,ev,ztm]
@[go_sem ↓] theorem regW_mvT {d i:Nat}:zaw P (⟨some d,.mv true (.t i),none⟩::os) (E l) L σ G K=wV (E l i) (zp.mk (a:=fun v=>wV v.cp (zp.mk (a:=fun v'=>zaw P os (E ((d,v)::(i,v')::l)) L σ G K)))):=by
  rw [zej (fun _=>rfl)];simp [zk,zdf,ev,ztm,zvo,wV]
@[go_sem ↓] theorem z62 {d:Nat} {a b c:AO}:zaw P (⟨some d,.pick a b c,none⟩::os) (E l) L σ G K=wO (evP (E l) (L::σ) G (.pick a b c)) (zp.mk (a:=fun v=>zaw P os (E ((d,v)::l)) L σ G K)):=zad (fun _=>rfl) rfl
@[go_sem ↓] theorem z5j {d:Nat} {z:List D} {ps:List (Nat×Nat×AO)}:zaw P (⟨some d,.build z ps,none⟩::os) (E l) L σ G K=wO (evP (E l) (L::σ) G (.build z ps)) (zp.mk (a:=fun v=>zaw P os (E ((d,v)::l)) L σ G K)):=zad (fun _=>rfl) rfl
@[go_sem ↓] theorem z1c {d:Nat} {a b:Nat} {z:D} {ps:List (Nat×AO)}:zaw P (⟨some d,.mkslice a b z ps,none⟩::os) (E l) L σ G K=wO (evP (E l) (L::σ) G (.mkslice a b z ps)) (zp.mk (a:=fun v=>zaw P os (E ((d,v)::l)) L σ G K)):=zad (fun _=>rfl) rfl
@[go_sem ↓] theorem z63 {d:Nat} {a:Bool} {n:Nat} {x:AO} {r:Root}:zaw P (⟨some d,.load a n x r,none⟩::os) (E l) L σ G K=wO (evP (E l) (L::σ) G (.load a n x r)) (zp.mk (a:=fun v=>zaw P os (E ((d,v)::l)) L σ G K)):=zad (fun _=>rfl) rfl
@[go_sem ↓] theorem z5k {d:Nat} {x:AO}:zaw P (⟨some d,.nilck x,none⟩::os) (E l) L σ G K=wO (evP (E l) (L::σ) G (.nilck x)) (zp.mk (a:=fun v=>zaw P os (E ((d,v)::l)) L σ G K)):=zad (fun _=>rfl) rfl
@[go_sem ↓] theorem regW_bin {d:Nat} {o:BinOp} {x y:AO}:zaw P (⟨some d,.bin o x y,none⟩::os) (E l) L σ G K=wO (evP (E l) (L::σ) G (.bin o x y)) (zp.mk (a:=fun v=>zaw P os (E ((d,v)::l)) L σ G K)):=zad (fun _=>rfl) rfl
@[go_sem ↓] theorem regW_eqs {d:Nat} {n:Bool} {ks:List Kd} {x y:AO}:zaw P (⟨some d,.eqs n ks x y,none⟩::os) (E l) L σ G K=wO (evP (E l) (L::σ) G (.eqs n ks x y)) (zp.mk (a:=fun v=>zaw P os (E ((d,v)::l)) L σ G K)):=zad (fun _=>rfl) rfl
@[go_sem ↓] theorem regW_eqb {d:Nat} {n:Bool} {x y:AO}:zaw P (⟨some d,.eqb n x y,none⟩::os) (E l) L σ G K=wO (evP (E l) (L::σ) G (.eqb n x y)) (zp.mk (a:=fun v=>zaw P os (E ((d,v)::l)) L σ G K)):=zad (fun _=>rfl) rfl
@[go_sem ↓] theorem regW_not {d:Nat} {x:AO}:zaw P (⟨some d,.not x,none⟩::os) (E l) L σ G K=wO (evP (E l) (L::σ) G (.not x)) (zp.mk (a:=fun v=>zaw P os (E ((d,v)::l)) L σ G K)):=zad (fun _=>rfl) rfl
@[go_sem ↓] theorem regW_neg {d:Nat} {x:AO}:zaw P (⟨some d,.neg x,none⟩::os) (E l) L σ G K=wO (evP (E l) (L::σ) G (.neg x)) (zp.mk (a:=fun v=>zaw P os (E ((d,v)::l)) L σ G K)):=zad (fun _=>rfl) rfl
@[go_sem ↓] theorem z66 {d:Nat} {k:IntKind} {x:AO}:zaw P (⟨some d,.conv k x,none⟩::os) (E l) L σ G K=wO (evP (E l) (L::σ) G (.conv k x)) (zp.mk (a:=fun v=>zaw P os (E ((d,v)::l)) L σ G K)):=zad (fun _=>rfl) rfl
@[go_sem ↓] theorem regW_sl {d:Nat} {n:Nat} {x:AO} {lo hi:Option AO}:zaw P (⟨some d,.sl n x lo hi,none⟩::os) (E l) L σ G K=wO (evP (E l) (L::σ) G (.sl n x lo hi)) (zp.mk (a:=fun v=>zaw P os (E ((d,v)::l)) L σ G K)):=zad (fun _=>rfl) rfl
@[go_sem ↓] theorem regW_slS {d:Nat} {x:AO} {lo hi:Option AO}:zaw P (⟨some d,.slS x lo hi,none⟩::os) (E l) L σ G K=wO (evP (E l) (L::σ) G (.slS x lo hi)) (zp.mk (a:=fun v=>zaw P os (E ((d,v)::l)) L σ G K)):=zad (fun _=>rfl) rfl
@[go_sem ↓] theorem z5l {d:Nat} {n:Nat} {x:AO}:zaw P (⟨some d,.faddr n x,none⟩::os) (E l) L σ G K=wO (evP (E l) (L::σ) G (.faddr n x)) (zp.mk (a:=fun v=>zaw P os (E ((d,v)::l)) L σ G K)):=zad (fun _=>rfl) rfl
@[go_sem ↓] theorem z5m {d:Nat} {a:Bool} {o n:Nat} {x:AO}:zaw P (⟨some d,.field a o n x,none⟩::os) (E l) L σ G K=wO (evP (E l) (L::σ) G (.field a o n x)) (zp.mk (a:=fun v=>zaw P os (E ((d,v)::l)) L σ G K)):=zad (fun _=>rfl) rfl
@[go_sem ↓] theorem z5n {d:Nat} {n:Nat} {x i:AO}:zaw P (⟨some d,.iaddr n x i,none⟩::os) (E l) L σ G K=wO (evP (E l) (L::σ) G (.iaddr n x i)) (zp.mk (a:=fun v=>zaw P os (E ((d,v)::l)) L σ G K)):=zad (fun _=>rfl) rfl
@[go_sem ↓] theorem z2x {d:Nat} {m n:Nat} {x i:AO}:zaw P (⟨some d,.iaddrA m n x i,none⟩::os) (E l) L σ G K=wO (evP (E l) (L::σ) G (.iaddrA m n x i)) (zp.mk (a:=fun v=>zaw P os (E ((d,v)::l)) L σ G K)):=zad (fun _=>rfl) rfl
@[go_sem ↓] theorem z67 {d:Nat} {x i:AO}:zaw P (⟨some d,.idxS x i,none⟩::os) (E l) L σ G K=wO (evP (E l) (L::σ) G (.idxS x i)) (zp.mk (a:=fun v=>zaw P os (E ((d,v)::l)) L σ G K)):=zad (fun _=>rfl) rfl
@[go_sem ↓] theorem z68 {d:Nat} {a:Bool} {m n:Nat} {x i:AO}:zaw P (⟨some d,.idxA a m n x i,none⟩::os) (E l) L σ G K=wO (evP (E l) (L::σ) G (.idxA a m n x i)) (zp.mk (a:=fun v=>zaw P os (E ((d,v)::l)) L σ G K)):=zad (fun _=>rfl) rfl
@[go_sem ↓] theorem regW_ext {d:Nat} {x:AO} {i:Nat}:zaw P (⟨some d,.ext x i,none⟩::os) (E l) L σ G K=wO (evP (E l) (L::σ) G (.ext x i)) (zp.mk (a:=fun v=>zaw P os (E ((d,v)::l)) L σ G K)):=zad (fun _=>rfl) rfl
@[go_sem ↓] theorem regW_len {d:Nat} {s:Bool} {x:AO}:zaw P (⟨some d,.len s x,none⟩::os) (E l) L σ G K=wO (evP (E l) (L::σ) G (.len s x)) (zp.mk (a:=fun v=>zaw P os (E ((d,v)::l)) L σ G K)):=zad (fun _=>rfl) rfl
@[go_sem ↓] theorem regW_mx {d:Nat} {x y:AO}:zaw P (⟨some d,.mx x y,none⟩::os) (E l) L σ G K=wO (evP (E l) (L::σ) G (.mx x y)) (zp.mk (a:=fun v=>zaw P os (E ((d,v)::l)) L σ G K)):=zad (fun _=>rfl) rfl
@[go_sem ↓] theorem regW_b2s {d:Nat} {x:AO}:zaw P (⟨some d,.b2s x,none⟩::os) (E l) L σ G K=wO (evP (E l) (L::σ) G (.b2s x)) (zp.mk (a:=fun v=>zaw P os (E ((d,v)::l)) L σ G K)):=zad (fun _=>rfl) rfl
@[go_sem ↓] theorem z5o {s:Nat} {z:List D}:zaw P (⟨some s,.alloc z,none⟩::os) (E l) (HB h) σ G K=wN ((HB h s).g+1) (zp.mk (a:=fun g=>wH (ztl h s ⟨g,some z⟩) (zp.mk (a:=fun h'=>zaw P os (E ((s,.ptr 0 s g 0)::l)) (HB h') σ G K)))):=by
  rw [zej (fun _=>rfl)];simp [zk,zvo,zvp,wN,wH]
@[go_sem ↓] theorem regW_box {s n:Nat} {x:AO}:zaw P (⟨some s,.box n x,none⟩::os) (E l) (HB h) σ G K=wD (ev (E l) x).data (zp.mk (a:=fun y=>wT (ze n y) (zp.mk (a:=wL y.cells (zp.mk (a:=fun cs=>wN ((HB h s).g+1) (zp.mk (a:=fun g=>wH (ztl h s ⟨g,some cs⟩) (zp.mk (a:=fun h'=>zaw P os (E ((s,.ptr 0 s g 0)::l)) (HB h') σ G K)))))))))):=by
  rw [zej (fun _=>rfl)]
  simp only [zk,wD,wT,wL,wN,wH,zvo,zvp,eq_iff_iff]
  cases (ev (E l) x).data with
  | none=>simp
  | some y=>by_cases hy:ze n y=true<;>simp [hy]
@[go_sem ↓] theorem z5p {d:Option Nat} {n:Nat} {a v:AO} {r:Root}:zaw P (⟨d,.store n a v r,none⟩::os) (E l) (HB h) σ G K=wS n (ev (E l) a) (ev (E l) v).data r h σ G (zp.mk (a:=fun L' σ' G'=>zaw P os (put (E l) d .undef) L' σ' G' K)):=by
  rw [zej (fun _=>rfl)]
  simp only [zk,eq_iff_iff]
  generalize ev (E l) a=pa
  generalize (ev (E l) v).data=y
  cases y with
  | none=>cases pa<;>simp [wS]
  | some y =>
   cases pa with
   | ptr k s g off =>
    cases k with
    | zero =>
     simp only [wS,wT,wB,wP,wL,wH]
     by_cases h1:(zb6 r 0 s && ze n y)=true
     · simp only [h1,if_true,true_and]
       cases hb:blk (HB h::σ) 0 s g with
       | none=>simp
       | some cs =>
        by_cases h2:off+n≤cs.length
        · simp [h2,zvp]
        · simp [h2]
     · simp [h1]
    | succ k =>
     simp only [wS,wT,wB,wP,wL]
     by_cases h1:(zb6 r (k+1) s && ze n y)=true
     · simp only [h1,if_true,true_and,blk_s]
       cases hb:blk σ k s g with
       | none=>simp
       | some cs =>
        by_cases h2:off+n≤cs.length
        · simp only [h2,if_true,true_and,Option.some.injEq,exists_eq_left']
          cases σ[k]? with
          | none=>simp
          | some h0=>simp
        · simp [h2]
     · simp [h1]
   | d x =>
    cases x with
    | gp b off =>
     simp only [wS,wT,wB,wP,wL]
     by_cases h1:(r.foreignOk && ze n y)=true
     · simp only [h1,if_true,true_and]
       cases hb:G b with
       | none=>simp
       | some cs =>
        by_cases h2:off+n≤cs.length
        · simp [h2]
        · simp [h2]
     · simp [h1]
    | _=>simp [wS]
   | _=>simp [wS]
@[go_sem ↓] theorem regW_s2o {d:Nat} {y:AO}:zaw P (⟨some d,.append 1 0 (.c (.str [])) y,none⟩::os) (E l) L σ G K=wD (ev (E l) y).data (zp.mk (a:=fun z=>wO (zbz 1 0 (.d (.str [])) z) (zp.mk (a:=fun v=>zaw P os (E ((d,v)::l)) L σ G K)))):=by
  rw [zej (fun _=>rfl)]
  simp only [zk,wD,wO,eq_iff_iff,zdf,zvo,ev_c]
  generalize (ev (E l) y).data=o
  cases o with
  | none=>simp
  | some z =>
   simp only [yk8Q,Option.some.injEq,exists_eq_left']
   constructor
   · rintro ⟨st,⟨v,hv,rfl⟩,hk⟩;exact ⟨v,hv,hk⟩
   · rintro ⟨v,hv,hk⟩;exact ⟨_,⟨v,hv,rfl⟩,hk⟩
@[go_sem ↓] theorem z2y {d i sz b:Nat} {y:AO}:zaw P (⟨some d,.append sz b (.t i) y,none⟩::os) (E l) L σ G K=wD (ev (E l) y).data (zp.mk (a:=fun z=>wO (zbz sz b (E l i) z) (zp.mk (a:=fun v=>wV (E l i).cp (zp.mk (a:=fun v'=>zaw P os (E ((d,v)::(i,v')::l)) L σ G K)))))):=by
  rw [zej (fun _=>rfl)]
  simp only [zk,wD,wO,wV,eq_iff_iff,zdf,zvo,ev_t]
  generalize (ev (E l) y).data=o
  cases o with
  | none=>simp
  | some z =>
   simp only [yk8Q,Option.some.injEq,exists_eq_left']
   constructor
   · rintro ⟨st,⟨v,hv,rfl⟩,hk⟩;exact ⟨v,hv,hk⟩
   · rintro ⟨v,hv,hk⟩;exact ⟨_,⟨v,hv,rfl⟩,hk⟩
@[go_sem ↓] theorem z5q {d:Nat} {neg:Bool} {x:AO}:zaw P (⟨some d,.isnil neg x,none⟩::os) (E l) L σ G K=wI neg (ev (E l) x).data (zp.mk (a:=fun t=>zaw P os (E ((d,.d (.bool t))::l)) L σ G K)):=by
  simp only [zaw,zaj,za5,zci,zk,evP,eq_iff_iff]
  cases (ev (E l) x).data with
  | none=>simp [wI]
  | some y =>
   cases y with
   | list es =>
    cases es with
    | nil=>simp [wI,ztm]
    | cons e es=>simp [wI,ztm]
   | _=>simp [wI,ztm]
@[go_sem ↓] theorem z69 {d:Option Nat} {f:AO} {as:List AO} {q:Nat}:zaw P (⟨d,.call f as q,none⟩::os) (E l) L σ G K=wC P d f as q (E l) L σ G (zp.mk (a:=fun st=>zaw P os st.1 st.2.1 st.2.2.1 st.2.2.2 K)):=rfl
end
section
variable {f:St→Prop} {κ κ':zby→St→Prop} {st st':St} {id:Nat}
@[go_sem ↓] theorem z2z:zby.then f κ .normal st=f st:=rfl
@[go_sem ↓] theorem z7a:zby.then f κ (.exit id) st=κ (.exit id) st:=rfl
@[go_sem ↓] theorem then_ret:zby.then f κ .ret st=κ .ret st:=rfl
@[go_sem ↓] theorem zyr:zby.inBlock id κ .normal st=κ .normal st:=rfl
@[go_sem ↓] theorem z20:zby.inBlock id κ .ret st=κ .ret st:=rfl
@[go_sem ↓] theorem z1d {id':Nat}:zby.inBlock id κ (.exit id') st=if id'=id then κ .normal st else κ (.exit id') st:=rfl
def Fin (res:List zh4) {Q:AV→List Hp→Gh→Prop} (_:zp Q) (st:St):Prop:=z2u res Q st
@[go_sem ↓] theorem z21 {res:List zh4} {Q:AV→List Hp→Gh→Prop}:zyq res Q .normal st=Fin res (zp.mk (a:=Q)) st:=rfl
@[go_sem ↓] theorem endQ_ret {res:List zh4} {Q:AV→List Hp→Gh→Prop}:zyq res Q .ret st=Fin res (zp.mk (a:=Q)) st:=rfl
def Back {I:Nat→St→Prop} (_:zp I) (n:Nat) (st:St):Prop:=∃ m st0,m<n∧zwg st st0∧I m st0
