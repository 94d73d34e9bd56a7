/-
 Rules by which a region is run on what its slots hold.
 Conditions: none; definitions and laws.
-/
import Derived.Test.YtclmdhceceacoaaGreatDoorEN1
namespace Go.E2
def E:List (Nat × AV)→Env
 | [],_=>.undef
 | (i,v)::l,j=>if j=i then v else E l j
def HB:List (Nat × Blk)→Hp
 | [],_=>⟨0,none⟩
 | (i,b)::l,j=>if j=i then b else HB l j
def hset:List (Nat × Blk)→Nat→Blk→List (Nat × Blk)
 | [],s,b=>[(s,b)]
 | (i,c)::l,s,b=>if s=i then (s,b)::l else (i,c)::hset l s b
@[go_sem] theorem E_nil (j:Nat):E [] j=.undef:=rfl
@[go_sem] theorem E_cons (i j:Nat) (v:AV) (l:List (Nat × AV)):E ((i,v)::l) j=if j=i then v else E l j:=rfl
@[go_sem] theorem HB_nil (j:Nat):HB [] j=⟨0,none⟩:=rfl
@[go_sem] theorem HB_cons (i j:Nat) (b:Blk) (l:List (Nat × Blk)):HB ((i,b)::l) j=if j=i then b else HB l j:=rfl
@[go_sem] theorem hset_nil (s:Nat) (b:Blk):hset [] s b=[(s,b)]:=rfl
@[go_sem] theorem hset_cons (i s:Nat) (b c:Blk) (l:List (Nat × Blk)):hset ((i,c)::l) s b=if s=i then (s,b)::l else (i,c)::hset l s b:=rfl
theorem upd_E (l:List (Nat × AV)) (d:Nat) (v:AV):upd (E l) d v=E ((d,v)::l):=rfl
theorem upd_HB (l:List (Nat × Blk)) (s:Nat) (b:Blk):upd (HB l) s b=HB (hset l s b):=by
 induction l with
 | nil=>rfl
 | cons p l ih =>
  obtain ⟨i,c⟩:=p
  funext j
  simp only [hset]
  by_cases h:s=i
  · subst h
    rw [if_pos rfl]
    by_cases hj:j=s<;>simp [upd,HB,hj]
  · rw [if_neg h]
    have e:=congrFun ih j
    by_cases hj:j=s
    · subst hj
      simp [upd] at e
      simp [upd,HB,h,← e]
    · simp [upd,hj] at e
      simp [upd,HB,hj,← e]
def nums (n:Nat):List AV→List (Nat × AV)
 | []=>[]
 | v::vs=>(n,v)::nums (n + 1) vs
theorem nums_get:∀ (vs:List AV) (n i:Nat),E (nums n vs) i=if n≤i then vs.getD (i - n) .undef else .undef
 | [],n,i=>by simp [nums,E]
 | v::vs,n,i=>by
   simp only [nums,E]
   by_cases h:i=n
   · subst h; simp
   · rw [if_neg h,nums_get vs (n + 1) i]
     by_cases h1:n≤i
     · have:n + 1≤i:=by omega
       rw [if_pos h1,if_pos this]
       obtain ⟨k,rfl⟩:∃ k,i=n + 1 + k:=⟨i - (n + 1),by omega⟩
       have e1:n + 1 + k - n=k + 1:=by omega
       have e2:n + 1 + k - (n + 1)=k:=by omega
       rw [e1,e2]; simp
     · have:¬ n + 1≤i:=by omega
       rw [if_neg h1,if_neg this]
theorem ofL_E (vs:List AV):ofL vs=E (nums 0 vs):=by
 funext i; rw [nums_get]; simp [ofL]
@[go_sem] theorem nums_nil (n:Nat):nums n []=[]:=rfl
@[go_sem] theorem nums_cons (n:Nat) (v:AV) (vs:List AV):nums n (v::vs)=(n,v)::nums (n + 1) vs:=rfl
structure Hide {α:Type} (a:α):Type where
 mk ::
def wV (v:AV) {k:AV→Prop} (_:Hide k):Prop:=k v
def wL (cs:List D) {k:List D→Prop} (_:Hide k):Prop:=k cs
def wN (n:Nat) {k:Nat→Prop} (_:Hide k):Prop:=k n
def wH (h:List (Nat × Blk)) {k:List (Nat × Blk)→Prop} (_:Hide k):Prop:=k h
def wO (o:Option AV) {k:AV→Prop} (_:Hide k):Prop:=∃ v,o=some v∧k v
def wD (o:Option D) {k:D→Prop} (_:Hide k):Prop:=∃ v,o=some v∧k v
def wB (o:Option (List D)) {k:List D→Prop} (_:Hide k):Prop:=∃ v,o=some v∧k v
def wT (b:Bool) {p:Prop} (_:Hide p):Prop:=b=true∧p
def wP (c:Prop) {p:Prop} (_:Hide p):Prop:=c∧p
def wG (v:AV) (want:Bool) {k1 k2:Prop} (_:Hide k1) (_:Hide k2):Prop:=∃ r,gdec v want=some r∧if r=true then k1 else k2
section
variable {v v':AV} {k:AV→Prop} {o o':Option AV} {b b':Bool} {p:Prop}
@[go_sem] theorem wV_eq (h:Hide k):wV v h=k v:=rfl
@[go_sem] theorem wL_eq (c:List D) {k:List D→Prop} (h:Hide k):wL c h=k c:=rfl
@[go_sem] theorem wN_eq (c:Nat) {k:Nat→Prop} (h:Hide k):wN c h=k c:=rfl
@[go_sem] theorem wH_eq (c:List (Nat × Blk)) {k:List (Nat × Blk)→Prop} (h:Hide k):wH c h=k c:=rfl
@[go_sem] theorem wO_some (h:Hide k):wO (some v) h=k v:=by simp [wO]
@[go_sem] theorem wD_some (x:D) {k:D→Prop} (h:Hide k):wD (some x) h=k x:=by simp [wD]
@[go_sem] theorem wB_some (x:List D) {k:List D→Prop} (h:Hide k):wB (some x) h=k x:=by simp [wB]
@[go_sem] theorem wT_true (h:Hide p):wT true h=p:=by simp [wT]
@[go_sem] theorem wP_true (h:Hide p):wP True h=p:=by simp [wP]
@[go_sem] theorem wG_tt {k1 k2:Prop} (h1:Hide k1) (h2:Hide k2):wG (.d (.bool true)) true h1 h2=k1:=by simp [wG,gdec]
@[go_sem] theorem wG_ff {k1 k2:Prop} (h1:Hide k1) (h2:Hide k2):wG (.d (.bool false)) false h1 h2=k1:=by simp [wG,gdec]
@[go_sem] theorem wG_tf {k1 k2:Prop} (h1:Hide k1) (h2:Hide k2):wG (.d (.bool true)) false h1 h2=k2:=by simp [wG,gdec]
@[go_sem] theorem wG_ft {k1 k2:Prop} (h1:Hide k1) (h2:Hide k2):wG (.d (.bool false)) true h1 h2=k2:=by simp [wG,gdec]
@[go_sem] theorem wG_skp {want:Bool} {k1 k2:Prop} (h1:Hide k1) (h2:Hide k2):wG .skp want h1 h2=k2:=by simp [wG,gdec]
theorem wG_t {b:Bool} {k1 k2:Prop} {i1:Hide k1} {i2:Hide k2} (h1:b=true→k1) (h2:b=false→k2):wG (.d (.bool b)) true i1 i2:=by
 cases b
 · rw [wG_ft]; exact h2 rfl
 · rw [wG_tt]; exact h1 rfl
theorem wG_f {b:Bool} {k1 k2:Prop} {i1:Hide k1} {i2:Hide k2} (h1:b=false→k1) (h2:b=true→k2):wG (.d (.bool b)) false i1 i2:=by
 cases b
 · rw [wG_ff]; exact h1 rfl
 · rw [wG_tf]; exact h2 rfl
end
@[go_sem] theorem data_d (x:D):(AV.d x).data=some x:=rfl
@[go_sem] theorem data_own (sz:Nat) (es:List D):(AV.own sz es).data=some (.list es):=rfl
@[go_sem] theorem cp_d (x:D):(AV.d x).cp=.d x:=rfl
@[go_sem] theorem cp_own (sz:Nat) (es:List D):(AV.own sz es).cp=.d (.list es):=rfl
@[go_sem] theorem cp_ptr (k s g off:Nat):(AV.ptr k s g off).cp=.ptr k s g off:=rfl
@[go_sem] theorem cp_cptr (cs:List D):(AV.cptr cs).cp=.cptr cs:=rfl
@[go_sem] theorem cp_func (f:FuncId) (c:List (Nat × Nat × Nat)):(AV.func f c).cp=.func f c:=rfl
@[go_sem] theorem cp_tup (xs:List D):(AV.tup xs).cp=.tup xs:=rfl
@[go_sem] theorem cp_skp:AV.skp.cp=.skp:=rfl
@[go_sem] theorem cp_undef:AV.undef.cp=.undef:=rfl
@[go_sem] theorem ev_t (ρ:Env) (i:Nat):ev ρ (.t i)=ρ i:=rfl
@[go_sem] theorem ev_c (ρ:Env) (x:D):ev ρ (.c x)=.d x:=rfl
@[go_sem] theorem put_E (l:List (Nat × AV)) (d:Nat) (v:AV):put (E l) (some d) v=E ((d,v)::l):=rfl
@[go_sem] theorem put_none (ρ:Env) (v:AV):put ρ none v=ρ:=rfl
@[go_sem] theorem blk_0 (h:Hp) (σ:List Hp) (s g:Nat):blk (h::σ) 0 s g=if (h s).g=g then (h s).c else none:=rfl
@[go_sem] theorem blk_s (h:Hp) (σ:List Hp) (k s g:Nat):blk (h::σ) (k + 1) s g=blk σ k s g:=rfl
@[go_sem] theorem blk_1 (h:Hp) (σ:List Hp) (s g:Nat):blk (h::σ) 1 s g=blk σ 0 s g:=rfl
@[go_sem] theorem blk_2 (h:Hp) (σ:List Hp) (s g:Nat):blk (h::σ) 2 s g=blk σ 1 s g:=rfl
@[go_sem] theorem blk_3 (h:Hp) (σ:List Hp) (s g:Nat):blk (h::σ) 3 s g=blk σ 2 s g:=rfl
def wS (n:Nat) (pa:AV) (y:Option D) (r:Root) (h:List (Nat × Blk)) (σ:List Hp) (G:Gh) {k:Hp→List Hp→Gh→Prop} (_:Hide k):Prop :=
 match pa,y with
 | .ptr 0 s g off,some y=>wT (rootOk r 0 s && sizeOk n y) (Hide.mk (a:=wB (blk (HB h::σ) 0 s g) (Hide.mk (a:=fun cs=>wP (off + n≤cs.length) (Hide.mk (a:=wL (over cs y.cells off) (Hide.mk (a:=fun cs'=>wH (hset h s ⟨g,some cs'⟩) (Hide.mk (a:=fun h'=>k (HB h') σ G))))))))))
 | .ptr (i + 1) s g off,some y=>wT (rootOk r (i + 1) s && sizeOk n y) (Hide.mk (a:=wB (blk σ i s g) (Hide.mk (a:=fun cs=>wP (off + n≤cs.length) (Hide.mk (a:=wL (over cs y.cells off) (Hide.mk (a:=fun cs'=>∃ h0,σ[i]?=some h0∧k (HB h) (σ.set i (upd h0 s ⟨g,some cs'⟩)) G))))))))
 | .d (.gp b off),some y=>wT (r.foreignOk && sizeOk n y) (Hide.mk (a:=wB (G b) (Hide.mk (a:=fun cs=>wP (off + n≤cs.length) (Hide.mk (a:=wL (over cs y.cells off) (Hide.mk (a:=fun cs'=>k (HB h) σ (G.set b (some cs'))))))))))
 | _,_=>False
@[go_sem] theorem wS_0 (n s g off:Nat) (y:D) (r:Root) (h:List (Nat × Blk)) (σ:List Hp) (G:Gh) {k:Hp→List Hp→Gh→Prop} (hk:Hide k):wS n (.ptr 0 s g off) (some y) r h σ G hk =
  wT (rootOk r 0 s && sizeOk n y) (Hide.mk (a:=wB (blk (HB h::σ) 0 s g) (Hide.mk (a:=fun cs=>wP (off + n≤cs.length) (Hide.mk (a:=wL (over cs y.cells off) (Hide.mk (a:=fun cs'=>wH (hset h s ⟨g,some cs'⟩) (Hide.mk (a:=fun h'=>k (HB h') σ G)))))))))):=rfl
@[go_sem] theorem wS_s (n i s g off:Nat) (y:D) (r:Root) (h:List (Nat × Blk)) (σ:List Hp) (G:Gh) {k:Hp→List Hp→Gh→Prop} (hk:Hide k):wS n (.ptr (i + 1) s g off) (some y) r h σ G hk =
  wT (rootOk r (i + 1) s && sizeOk n y) (Hide.mk (a:=wB (blk σ i s g) (Hide.mk (a:=fun cs=>wP (off + n≤cs.length) (Hide.mk (a:=wL (over cs y.cells off) (Hide.mk (a:=fun cs'=>∃ h0,σ[i]?=some h0∧k (HB h) (σ.set i (upd h0 s ⟨g,some cs'⟩)) G)))))))):=rfl
@[go_sem] theorem wS_gp (n b off:Nat) (y:D) (r:Root) (h:List (Nat × Blk)) (σ:List Hp) (G:Gh) {k:Hp→List Hp→Gh→Prop} (hk:Hide k):wS n (.d (.gp b off)) (some y) r h σ G hk =
  wT (r.foreignOk && sizeOk n y) (Hide.mk (a:=wB (G b) (Hide.mk (a:=fun cs=>wP (off + n≤cs.length) (Hide.mk (a:=wL (over cs y.cells off) (Hide.mk (a:=fun cs'=>k (HB h) σ (G.set b (some cs')))))))))):=rfl
def wI (neg:Bool) (o:Option D) {k:Bool→Prop} (_:Hide k):Prop :=
 match o with
 | some .nilS=>k (!neg)
 | some (.list es)=>∀ t,(es ≠ []→t=neg)→k t
 | some (.gs _ _ _ _)=>k neg
 | _=>False
@[go_sem] theorem wI_nil (neg:Bool) {k:Bool→Prop} (h:Hide k):wI neg (some .nilS) h=k (!neg):=rfl
@[go_sem] theorem wI_gs (neg:Bool) (b off n cap:Nat) {k:Bool→Prop} (h:Hide k):wI neg (some (.gs b off n cap)) h=k neg:=rfl
def wC (P:Program) (d:Option Nat) (f:AO) (args:List AO) (q:Nat) (ρ:Env) (L:Hp) (σ:List Hp) (G:Gh) {K:St→Prop} (_:Hide K):Prop:=callW P d f args q ρ L σ G K
def W (P:Program) (c:ACode) {κ:AExit→St→Prop} (_:Hide κ) (st:St):Prop:=SW P c κ st
section
variable {P:Program} {os:List AI} {l:List (Nat × AV)} {L:Hp} {h:List (Nat × Blk)} {σ:List Hp} {G:Gh} {K:St→Prop}
@[go_sem ↓] theorem regW_nil {ρ:Env}:regW P [] ρ L σ G K=K (ρ,L,σ,G):=rfl
@[go_sem ↓] theorem regW_guard {d:Option Nat} {op:AOp} {t:Nat} {w:Bool}:regW P (⟨d,op,some (t,w)⟩::os) (E l) L σ G K=wG (E l t) w (Hide.mk (a:=regW P (⟨d,op,none⟩::os) (E l) L σ G K)) (Hide.mk (a:=regW P os (put (E l) d .skp) L σ G K)):=rfl
theorem regW_op {d:Option Nat} {op:AOp} {ρ:Env} (hd:∀ K':St→Prop,stepRun P ⟨d,op,none⟩ ρ L σ G K'=(∃ st,stepOp d op ρ L σ G=some st∧K' st)) :
 regW P (⟨d,op,none⟩::os) ρ L σ G K=∃ st,stepOp d op ρ L σ G=some st∧regW P os st.1 st.2.1 st.2.2.1 st.2.2.2 K:=hd _
theorem regW_pure {d:Nat} {op:AOp} (hd:∀ K':St→Prop,stepRun P ⟨some d,op,none⟩ (E l) L σ G K'=(∃ st,stepOp (some d) op (E l) L σ G=some st∧K' st)) (he:stepOp (some d) op (E l) L σ G=(evP (E l) (L::σ) G op).map fun v=>(put (E l) (some d) v,L,σ,G)) :
 regW P (⟨some d,op,none⟩::os) (E l) L σ G K=wO (evP (E l) (L::σ) G op) (Hide.mk (a:=fun v=>regW P os (E ((d,v)::l)) L σ G K)):=by
 rw [regW_op hd,he]
 simp only [Option.map_eq_some_iff,wO,eq_iff_iff]
 constructor
 · rintro ⟨st,⟨v,hv,rfl⟩,hk⟩; exact ⟨v,hv,hk⟩
 · rintro ⟨v,hv,hk⟩; exact ⟨_,⟨v,hv,rfl⟩,hk⟩
@[go_sem ↓] theorem regW_mvF {d:Nat} {x:AO}:regW P (⟨some d,.mv false x,none⟩::os) (E l) L σ G K=wV (ev (E l) x).cp (Hide.mk (a:=fun v=>regW P os (E ((d,v)::l)) L σ G K)):=by
  rw [regW_pure (fun _=>rfl) rfl]; simp [evP,wO,wV]
@[go_sem ↓] theorem regW_mvTc {d:Nat} {x:D}:regW P (⟨some d,.mv true (.c x),none⟩::os) (E l) L σ G K=regW P os (E ((d,.d x)::l)) L σ G K:=by
  rw [regW_op (fun _=>rfl)]; simp [stepOp,given,ev,put_E]
@[go_sem ↓] theorem regW_mvT {d i:Nat}:regW P (⟨some d,.mv true (.t i),none⟩::os) (E l) L σ G K=wV (E l i) (Hide.mk (a:=fun v=>wV v.cp (Hide.mk (a:=fun v'=>regW P os (E ((d,v)::(i,v')::l)) L σ G K)))):=by
  rw [regW_op (fun _=>rfl)]; simp [stepOp,given,ev,put_E,upd_E,wV]
@[go_sem ↓] theorem regW_pick {d:Nat} {a b c:AO}:regW P (⟨some d,.pick a b c,none⟩::os) (E l) L σ G K=wO (evP (E l) (L::σ) G (.pick a b c)) (Hide.mk (a:=fun v=>regW P os (E ((d,v)::l)) L σ G K)):=regW_pure (fun _=>rfl) rfl
@[go_sem ↓] theorem regW_build {d:Nat} {z:List D} {ps:List (Nat × Nat × AO)}:regW P (⟨some d,.build z ps,none⟩::os) (E l) L σ G K=wO (evP (E l) (L::σ) G (.build z ps)) (Hide.mk (a:=fun v=>regW P os (E ((d,v)::l)) L σ G K)):=regW_pure (fun _=>rfl) rfl
@[go_sem ↓] theorem regW_mkslice {d:Nat} {a b:Nat} {z:D} {ps:List (Nat × AO)}:regW P (⟨some d,.mkslice a b z ps,none⟩::os) (E l) L σ G K=wO (evP (E l) (L::σ) G (.mkslice a b z ps)) (Hide.mk (a:=fun v=>regW P os (E ((d,v)::l)) L σ G K)):=regW_pure (fun _=>rfl) rfl
@[go_sem ↓] theorem regW_load {d:Nat} {a:Bool} {n:Nat} {x:AO} {r:Root}:regW P (⟨some d,.load a n x r,none⟩::os) (E l) L σ G K=wO (evP (E l) (L::σ) G (.load a n x r)) (Hide.mk (a:=fun v=>regW P os (E ((d,v)::l)) L σ G K)):=regW_pure (fun _=>rfl) rfl
@[go_sem ↓] theorem regW_nilck {d:Nat} {x:AO}:regW P (⟨some d,.nilck x,none⟩::os) (E l) L σ G K=wO (evP (E l) (L::σ) G (.nilck x)) (Hide.mk (a:=fun v=>regW P os (E ((d,v)::l)) L σ G K)):=regW_pure (fun _=>rfl) rfl
@[go_sem ↓] theorem regW_bin {d:Nat} {o:BinOp} {x y:AO}:regW P (⟨some d,.bin o x y,none⟩::os) (E l) L σ G K=wO (evP (E l) (L::σ) G (.bin o x y)) (Hide.mk (a:=fun v=>regW P os (E ((d,v)::l)) L σ G K)):=regW_pure (fun _=>rfl) rfl
@[go_sem ↓] theorem regW_eqs {d:Nat} {n:Bool} {ks:List Kd} {x y:AO}:regW P (⟨some d,.eqs n ks x y,none⟩::os) (E l) L σ G K=wO (evP (E l) (L::σ) G (.eqs n ks x y)) (Hide.mk (a:=fun v=>regW P os (E ((d,v)::l)) L σ G K)):=regW_pure (fun _=>rfl) rfl
@[go_sem ↓] theorem regW_eqb {d:Nat} {n:Bool} {x y:AO}:regW P (⟨some d,.eqb n x y,none⟩::os) (E l) L σ G K=wO (evP (E l) (L::σ) G (.eqb n x y)) (Hide.mk (a:=fun v=>regW P os (E ((d,v)::l)) L σ G K)):=regW_pure (fun _=>rfl) rfl
@[go_sem ↓] theorem regW_not {d:Nat} {x:AO}:regW P (⟨some d,.not x,none⟩::os) (E l) L σ G K=wO (evP (E l) (L::σ) G (.not x)) (Hide.mk (a:=fun v=>regW P os (E ((d,v)::l)) L σ G K)):=regW_pure (fun _=>rfl) rfl
@[go_sem ↓] theorem regW_neg {d:Nat} {x:AO}:regW P (⟨some d,.neg x,none⟩::os) (E l) L σ G K=wO (evP (E l) (L::σ) G (.neg x)) (Hide.mk (a:=fun v=>regW P os (E ((d,v)::l)) L σ G K)):=regW_pure (fun _=>rfl) rfl
@[go_sem ↓] theorem regW_conv {d:Nat} {k:IntKind} {x:AO}:regW P (⟨some d,.conv k x,none⟩::os) (E l) L σ G K=wO (evP (E l) (L::σ) G (.conv k x)) (Hide.mk (a:=fun v=>regW P os (E ((d,v)::l)) L σ G K)):=regW_pure (fun _=>rfl) rfl
@[go_sem ↓] theorem regW_mkfunc {d:Nat} {f:FuncId} {c:List AO}:regW P (⟨some d,.mkfunc f c,none⟩::os) (E l) L σ G K=wO (evP (E l) (L::σ) G (.mkfunc f c)) (Hide.mk (a:=fun v=>regW P os (E ((d,v)::l)) L σ G K)):=regW_pure (fun _=>rfl) rfl
@[go_sem ↓] theorem regW_sl0 {d:Nat} {n:Nat} {x:AO}:regW P (⟨some d,.sl0 n x,none⟩::os) (E l) L σ G K=wO (evP (E l) (L::σ) G (.sl0 n x)) (Hide.mk (a:=fun v=>regW P os (E ((d,v)::l)) L σ G K)):=regW_pure (fun _=>rfl) rfl
@[go_sem ↓] theorem regW_sl3L {d:Nat} {n:Nat} {x y z:AO}:regW P (⟨some d,.sl3L n x y z,none⟩::os) (E l) L σ G K=wO (evP (E l) (L::σ) G (.sl3L n x y z)) (Hide.mk (a:=fun v=>regW P os (E ((d,v)::l)) L σ G K)):=regW_pure (fun _=>rfl) rfl
@[go_sem ↓] theorem regW_sl {d:Nat} {n:Nat} {x:AO} {lo hi:Option AO}:regW P (⟨some d,.sl n x lo hi,none⟩::os) (E l) L σ G K=wO (evP (E l) (L::σ) G (.sl n x lo hi)) (Hide.mk (a:=fun v=>regW P os (E ((d,v)::l)) L σ G K)):=regW_pure (fun _=>rfl) rfl
@[go_sem ↓] theorem regW_slS {d:Nat} {x:AO} {lo hi:Option AO}:regW P (⟨some d,.slS x lo hi,none⟩::os) (E l) L σ G K=wO (evP (E l) (L::σ) G (.slS x lo hi)) (Hide.mk (a:=fun v=>regW P os (E ((d,v)::l)) L σ G K)):=regW_pure (fun _=>rfl) rfl
@[go_sem ↓] theorem regW_faddr {d:Nat} {n:Nat} {x:AO}:regW P (⟨some d,.faddr n x,none⟩::os) (E l) L σ G K=wO (evP (E l) (L::σ) G (.faddr n x)) (Hide.mk (a:=fun v=>regW P os (E ((d,v)::l)) L σ G K)):=regW_pure (fun _=>rfl) rfl
@[go_sem ↓] theorem regW_field {d:Nat} {a:Bool} {o n:Nat} {x:AO}:regW P (⟨some d,.field a o n x,none⟩::os) (E l) L σ G K=wO (evP (E l) (L::σ) G (.field a o n x)) (Hide.mk (a:=fun v=>regW P os (E ((d,v)::l)) L σ G K)):=regW_pure (fun _=>rfl) rfl
@[go_sem ↓] theorem regW_iaddr {d:Nat} {n:Nat} {x i:AO}:regW P (⟨some d,.iaddr n x i,none⟩::os) (E l) L σ G K=wO (evP (E l) (L::σ) G (.iaddr n x i)) (Hide.mk (a:=fun v=>regW P os (E ((d,v)::l)) L σ G K)):=regW_pure (fun _=>rfl) rfl
@[go_sem ↓] theorem regW_iaddrA {d:Nat} {m n:Nat} {x i:AO}:regW P (⟨some d,.iaddrA m n x i,none⟩::os) (E l) L σ G K=wO (evP (E l) (L::σ) G (.iaddrA m n x i)) (Hide.mk (a:=fun v=>regW P os (E ((d,v)::l)) L σ G K)):=regW_pure (fun _=>rfl) rfl
@[go_sem ↓] theorem regW_idxS {d:Nat} {x i:AO}:regW P (⟨some d,.idxS x i,none⟩::os) (E l) L σ G K=wO (evP (E l) (L::σ) G (.idxS x i)) (Hide.mk (a:=fun v=>regW P os (E ((d,v)::l)) L σ G K)):=regW_pure (fun _=>rfl) rfl
@[go_sem ↓] theorem regW_idxA {d:Nat} {a:Bool} {m n:Nat} {x i:AO}:regW P (⟨some d,.idxA a m n x i,none⟩::os) (E l) L σ G K=wO (evP (E l) (L::σ) G (.idxA a m n x i)) (Hide.mk (a:=fun v=>regW P os (E ((d,v)::l)) L σ G K)):=regW_pure (fun _=>rfl) rfl
@[go_sem ↓] theorem regW_ext {d:Nat} {x:AO} {i:Nat}:regW P (⟨some d,.ext x i,none⟩::os) (E l) L σ G K=wO (evP (E l) (L::σ) G (.ext x i)) (Hide.mk (a:=fun v=>regW P os (E ((d,v)::l)) L σ G K)):=regW_pure (fun _=>rfl) rfl
@[go_sem ↓] theorem regW_len {d:Nat} {s:Bool} {x:AO}:regW P (⟨some d,.len s x,none⟩::os) (E l) L σ G K=wO (evP (E l) (L::σ) G (.len s x)) (Hide.mk (a:=fun v=>regW P os (E ((d,v)::l)) L σ G K)):=regW_pure (fun _=>rfl) rfl
@[go_sem ↓] theorem regW_mx {d:Nat} {x y:AO}:regW P (⟨some d,.mx x y,none⟩::os) (E l) L σ G K=wO (evP (E l) (L::σ) G (.mx x y)) (Hide.mk (a:=fun v=>regW P os (E ((d,v)::l)) L σ G K)):=regW_pure (fun _=>rfl) rfl
@[go_sem ↓] theorem regW_mn {d:Nat} {x y:AO}:regW P (⟨some d,.mn x y,none⟩::os) (E l) L σ G K=wO (evP (E l) (L::σ) G (.mn x y)) (Hide.mk (a:=fun v=>regW P os (E ((d,v)::l)) L σ G K)):=regW_pure (fun _=>rfl) rfl
@[go_sem ↓] theorem regW_b2s {d:Nat} {x:AO}:regW P (⟨some d,.b2s x,none⟩::os) (E l) L σ G K=wO (evP (E l) (L::σ) G (.b2s x)) (Hide.mk (a:=fun v=>regW P os (E ((d,v)::l)) L σ G K)):=regW_pure (fun _=>rfl) rfl
@[go_sem ↓] theorem regW_s2b {d:Nat} {x:AO}:regW P (⟨some d,.s2b x,none⟩::os) (E l) L σ G K=wO (evP (E l) (L::σ) G (.s2b x)) (Hide.mk (a:=fun v=>regW P os (E ((d,v)::l)) L σ G K)):=regW_pure (fun _=>rfl) rfl
@[go_sem ↓] theorem regW_cap {d:Nat} {x:AO}:regW P (⟨some d,.cap x,none⟩::os) (E l) L σ G K=wO (evP (E l) (L::σ) G (.cap x)) (Hide.mk (a:=fun v=>regW P os (E ((d,v)::l)) L σ G K)):=regW_pure (fun _=>rfl) rfl
@[go_sem ↓] theorem regW_sl3 {d:Nat} {n:Nat} {x:AO} {lo:Option AO} {hi m:AO}:regW P (⟨some d,.sl3 n x lo hi m,none⟩::os) (E l) L σ G K=wO (evP (E l) (L::σ) G (.sl3 n x lo hi m)) (Hide.mk (a:=fun v=>regW P os (E ((d,v)::l)) L σ G K)):=regW_pure (fun _=>rfl) rfl
@[go_sem ↓] theorem regW_alloc {s:Nat} {z:List D}:regW P (⟨some s,.alloc z,none⟩::os) (E l) (HB h) σ G K=wN ((HB h s).g + 1) (Hide.mk (a:=fun g=>wH (hset h s ⟨g,some z⟩) (Hide.mk (a:=fun h'=>regW P os (E ((s,.ptr 0 s g 0)::l)) (HB h') σ G K)))):=by
  rw [regW_op (fun _=>rfl)]; simp [stepOp,upd_E,upd_HB,wN,wH]
@[go_sem ↓] theorem regW_box {s n:Nat} {x:AO}:regW P (⟨some s,.box n x,none⟩::os) (E l) (HB h) σ G K=wD (ev (E l) x).data (Hide.mk (a:=fun y=>wT (sizeOk n y) (Hide.mk (a:=wL y.cells (Hide.mk (a:=fun cs=>wN ((HB h s).g + 1) (Hide.mk (a:=fun g=>wH (hset h s ⟨g,some cs⟩) (Hide.mk (a:=fun h'=>regW P os (E ((s,.ptr 0 s g 0)::l)) (HB h') σ G K)))))))))):=by
  rw [regW_op (fun _=>rfl)]
  simp only [stepOp,wD,wT,wL,wN,wH,upd_E,upd_HB,eq_iff_iff]
  cases (ev (E l) x).data with
  | none=>simp
  | some y=>by_cases hy:sizeOk n y=true<;>simp [hy]
@[go_sem ↓] theorem regW_store {d:Option Nat} {n:Nat} {a v:AO} {r:Root}:regW P (⟨d,.store n a v r,none⟩::os) (E l) (HB h) σ G K=wS n (ev (E l) a) (ev (E l) v).data r h σ G (Hide.mk (a:=fun L' σ' G'=>regW P os (put (E l) d .undef) L' σ' G' K)):=by
  rw [regW_op (fun _=>rfl)]
  simp only [stepOp,eq_iff_iff]
  generalize ev (E l) a=pa
  generalize (ev (E l) v).data=y
  cases y with
  | none=>cases pa<;>simp [wS]
  | some y =>
   cases pa with
   | ptr k s g off =>
    cases k with
    | zero =>
     simp only [wS,wT,wB,wP,wL,wH]
     by_cases h1:(rootOk r 0 s && sizeOk n y)=true
     · simp only [h1,if_true,true_and]
       cases hb:blk (HB h::σ) 0 s g with
       | none=>simp
       | some cs =>
        by_cases h2:off + n≤cs.length
        · simp [h2,upd_HB]
        · simp [h2]
     · simp [h1]
    | succ k =>
     simp only [wS,wT,wB,wP,wL]
     by_cases h1:(rootOk r (k + 1) s && sizeOk n y)=true
     · simp only [h1,if_true,true_and,blk_s]
       cases hb:blk σ k s g with
       | none=>simp
       | some cs =>
        by_cases h2:off + n≤cs.length
        · simp only [h2,if_true,true_and,Option.some.injEq,exists_eq_left']
          cases σ[k]? with
          | none=>simp
          | some h0=>simp
        · simp [h2]
     · simp [h1]
   | d x =>
    cases x with
    | gp b off =>
     simp only [wS,wT,wB,wP,wL]
     by_cases h1:(r.foreignOk && sizeOk n y)=true
     · simp only [h1,if_true,true_and]
       cases hb:G b with
       | none=>simp
       | some cs =>
        by_cases h2:off + n≤cs.length
        · simp [h2]
        · simp [h2]
     · simp [h1]
    | _=>simp [wS]
   | _=>simp [wS]
@[go_sem ↓] theorem regW_append {d i sz b:Nat} {y:AO}:regW P (⟨some d,.append sz b (.t i) y,none⟩::os) (E l) L σ G K=wD (ev (E l) y).data (Hide.mk (a:=fun z=>wO (appendA sz b (E l i) z) (Hide.mk (a:=fun v=>wV (E l i).cp (Hide.mk (a:=fun v'=>regW P os (E ((d,v)::(i,v')::l)) L σ G K)))))):=by
  rw [regW_op (fun _=>rfl)]
  simp only [stepOp,wD,wO,wV,eq_iff_iff,given,upd_E,ev_t]
  generalize (ev (E l) y).data=o
  cases o with
  | none=>simp
  | some z =>
   simp only [Option.map_eq_some_iff,Option.some.injEq,exists_eq_left']
   constructor
   · rintro ⟨st,⟨v,hv,rfl⟩,hk⟩; exact ⟨v,hv,hk⟩
   · rintro ⟨v,hv,hk⟩; exact ⟨_,⟨v,hv,rfl⟩,hk⟩
@[go_sem ↓] theorem regW_isnil {d:Nat} {neg:Bool} {x:AO}:regW P (⟨some d,.isnil neg x,none⟩::os) (E l) L σ G K=wI neg (ev (E l) x).data (Hide.mk (a:=fun t=>regW P os (E ((d,.d (.bool t))::l)) L σ G K)):=by
  simp only [regW,stepI,stepRun,stepN,stepOp,evP,eq_iff_iff]
  cases (ev (E l) x).data with
  | none=>simp [wI]
  | some y =>
   cases y with
   | list es =>
    cases es with
    | nil=>simp [wI,put_E]
    | cons e es=>simp [wI,put_E]
   | _=>simp [wI,put_E]
@[go_sem ↓] theorem regW_call {d:Option Nat} {f:AO} {as:List AO} {q:Nat}:regW P (⟨d,.call f as q,none⟩::os) (E l) L σ G K=wC P d f as q (E l) L σ G (Hide.mk (a:=fun st=>regW P os st.1 st.2.1 st.2.2.1 st.2.2.2 K)):=rfl
end
section
variable {f:St→Prop} {κ κ':AExit→St→Prop} {st st':St} {id:Nat}
@[go_sem ↓] theorem then_normal:AExit.then f κ .normal st=f st:=rfl
@[go_sem ↓] theorem then_exit:AExit.then f κ (.exit id) st=κ (.exit id) st:=rfl
@[go_sem ↓] theorem then_ret:AExit.then f κ .ret st=κ .ret st:=rfl
@[go_sem ↓] theorem inBlock_normal:AExit.inBlock id κ .normal st=κ .normal st:=rfl
@[go_sem ↓] theorem inBlock_ret:AExit.inBlock id κ .ret st=κ .ret st:=rfl
@[go_sem ↓] theorem inBlock_exit {id':Nat}:AExit.inBlock id κ (.exit id') st=if id'=id then κ .normal st else κ (.exit id') st:=rfl
def Fin (res:List ARes) {Q:AV→List Hp→Gh→Prop} (_:Hide Q) (st:St):Prop:=endR res Q st
@[go_sem ↓] theorem endQ_normal {res:List ARes} {Q:AV→List Hp→Gh→Prop}:endQ res Q .normal st=Fin res (Hide.mk (a:=Q)) st:=rfl
@[go_sem ↓] theorem endQ_ret {res:List ARes} {Q:AV→List Hp→Gh→Prop}:endQ res Q .ret st=Fin res (Hide.mk (a:=Q)) st:=rfl
def Back {I:Nat→St→Prop} (_:Hide I) (n:Nat) (st:St):Prop:=∃ m st0,m < n∧StLe st st0∧I m st0
end
end Go.E2
