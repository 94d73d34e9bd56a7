/-
 Rules by which a region is run on what its slots hold.
 Conditions: none;definitions and laws.
-/
import Derived.Test.YtailhmffljoojaaEN1
namespace Go.E2
def E:List (Nat×AV)→Env
 | [],_=>.undef
 | (i,v)::l,j=>if j=i then v else E l j
def HB:List (Nat×Blk)→Hp
 | [],_=>⟨0,none⟩
 | (i,b)::l,j=>if j=i then b else HB l j
def zma:List (Nat×Blk)→Nat→Blk→List (Nat×Blk)
 | [],s,b=>[(s,b)]
 | (i,c)::l,s,b=>if s=i then (s,b)::l else (i,c)::zma l s b
@[go_sem] theorem z8c (j:Nat):E [] j=.undef:=rfl
@[go_sem] theorem z64 (i j:Nat) (v:AV) (l:List (Nat×AV)):E ((i,v)::l) j=if j=i then v else E l j:=rfl
@[go_sem] theorem z65 (j:Nat):HB [] j=⟨0,none⟩:=rfl
@[go_sem] theorem z4l (i j:Nat) (b:Blk) (l:List (Nat×Blk)):HB ((i,b)::l) j=if j=i then b else HB l j:=rfl
@[go_sem] theorem z17 (s:Nat) (b:Blk):zma [] s b=[(s,b)]:=rfl
@[go_sem] theorem zzj (i s:Nat) (b c:Blk) (l:List (Nat×Blk)):zma ((i,c)::l) s b=if s=i then (s,b)::l else (i,c)::zma l s b:=rfl
theorem zql (l:List (Nat×AV)) (d:Nat) (v:AV):upd (E l) d v=E ((d,v)::l):=rfl
theorem zqm (l:List (Nat×Blk)) (s:Nat) (b:Blk):upd (HB l) s b=HB (zma l s b):=by
 induction l with
 | nil=>rfl
 | cons p l ih =>
  obtain ⟨i,c⟩:=p
  funext j
  simp only [zma]
  by_cases h:s=i
  · subst h
    rw [if_pos rfl]
    by_cases hj:j=s<;>simp [upd,HB,hj]
  · rw [if_neg h]
    have e:=congrFun ih j
    by_cases hj:j=s
    · subst hj
      simp [upd] at e
      simp [upd,HB,h,← e]
    · simp [upd,hj] at e
      simp [upd,HB,hj,← e]
def zpi (n:Nat):List AV→List (Nat×AV)
 | []=>[]
 | v::vs=>(n,v)::zpi (n+1) vs
theorem znu:∀ (vs:List AV) (n i:Nat),E (zpi n vs) i=if n≤i then vs.getD (i - n) .undef else .undef
 | [],n,i=>by simp [zpi,E]
 | v::vs,n,i=>by
   simp only [zpi,E]
   by_cases h:i=n
   · subst h;simp
   · rw [if_neg h,znu vs (n+1) i]
     by_cases h1:n≤i
     · have:n+1≤i:=by omega
       rw [if_pos h1,if_pos this]
       obtain ⟨k,rfl⟩:∃ k,i=n+1+k:=⟨i - (n+1),by omega⟩
       have e1:n+1+k - n=k+1:=by omega
       have e2:n+1+k - (n+1)=k:=by omega
       rw [e1,e2];simp
     · have:¬ n+1≤i:=by omega
       rw [if_neg h1,if_neg this]
theorem z4m (vs:List AV):ofL vs=E (zpi 0 vs):=by
 funext i;rw [znu];simp [ofL]
@[go_sem] theorem z18 (n:Nat):zpi n []=[]:=rfl
@[go_sem] theorem zzk (n:Nat) (v:AV) (vs:List AV):zpi n (v::vs)=(n,v)::zpi (n+1) vs:=rfl
structure zk {α:Type} (a:α):Type where
 mk ::
def wV (v:AV) {k:AV→Prop} (_:zk k):Prop:=k v
def wL (cs:List D) {k:List D→Prop} (_:zk k):Prop:=k cs
def wN (n:Nat) {k:Nat→Prop} (_:zk k):Prop:=k n
def wH (h:List (Nat×Blk)) {k:List (Nat×Blk)→Prop} (_:zk k):Prop:=k h
def wO (o:Option AV) {k:AV→Prop} (_:zk k):Prop:=∃ v,o=some v∧k v
def wD (o:Option D) {k:D→Prop} (_:zk k):Prop:=∃ v,o=some v∧k v
def wB (o:Option (List D)) {k:List D→Prop} (_:zk k):Prop:=∃ v,o=some v∧k v
def wT (b:Bool) {p:Prop} (_:zk p):Prop:=b=true∧p
def wP (c:Prop) {p:Prop} (_:zk p):Prop:=c∧p
def wG (v:AV) (want:Bool) {k1 k2:Prop} (_:zk k1) (_:zk k2):Prop:=∃ r,zgi v want=some r∧if r=true then k1 else k2
section
variable {v v':AV} {k:AV→Prop} {o o':Option AV} {b b':Bool} {p:Prop}
@[go_sem] theorem z8d (h:zk k):wV v h=k v:=rfl
@[go_sem] theorem z8e (c:List D) {k:List D→Prop} (h:zk k):wL c h=k c:=rfl
@[go_sem] theorem z8f (c:Nat) {k:Nat→Prop} (h:zk k):wN c h=k c:=rfl
@[go_sem] theorem z8g (c:List (Nat×Blk)) {k:List (Nat×Blk)→Prop} (h:zk k):wH c h=k c:=rfl
@[go_sem] theorem z4n (h:zk k):wO (some v) h=k v:=by simp [wO]
@[go_sem] theorem z4o (x:D) {k:D→Prop} (h:zk k):wD (some x) h=k x:=by simp [wD]
@[go_sem] theorem z4p (x:List D) {k:List D→Prop} (h:zk k):wB (some x) h=k x:=by simp [wB]
@[go_sem] theorem z4q (h:zk p):wT true h=p:=by simp [wT]
@[go_sem] theorem z4r (h:zk p):wP True h=p:=by simp [wP]
@[go_sem] theorem z4s {k1 k2:Prop} (h1:zk k1) (h2:zk k2):wG (.d (.bool true)) true h1 h2=k1:=by simp [wG,zgi]
@[go_sem] theorem z4t {k1 k2:Prop} (h1:zk k1) (h2:zk k2):wG (.d (.bool false)) false h1 h2=k1:=by simp [wG,zgi]
@[go_sem] theorem z4u {k1 k2:Prop} (h1:zk k1) (h2:zk k2):wG (.d (.bool true)) false h1 h2=k2:=by simp [wG,zgi]
@[go_sem] theorem z4v {k1 k2:Prop} (h1:zk k1) (h2:zk k2):wG (.d (.bool false)) true h1 h2=k2:=by simp [wG,zgi]
@[go_sem] theorem z66 {want:Bool} {k1 k2:Prop} (h1:zk k1) (h2:zk k2):wG .skp want h1 h2=k2:=by simp [wG,zgi]
theorem z8h {b:Bool} {k1 k2:Prop} {i1:zk k1} {i2:zk k2} (h1:b=true→k1) (h2:b=false→k2):wG (.d (.bool b)) true i1 i2:=by
 cases b
 · rw [z4v];exact h2 rfl
 · rw [z4s];exact h1 rfl
theorem z8i {b:Bool} {k1 k2:Prop} {i1:zk k1} {i2:zk k2} (h1:b=false→k1) (h2:b=true→k2):wG (.d (.bool b)) false i1 i2:=by
 cases b
 · rw [z4t];exact h1 rfl
 · rw [z4u];exact h2 rfl
theorem zlh {c:Prop} {h:zk p} (hc:c) (hk:p):wP c h:=⟨hc,hk⟩
end
@[go_sem] theorem z67 (x:D):(AV.d x).data=some x:=rfl
@[go_sem] theorem z19 (sz:Nat) (es:List D):(AV.own sz es).data=some (.list es):=rfl
@[go_sem] theorem z88 (x:D):(AV.d x).cp=.d x:=rfl
@[go_sem] theorem z68 (sz:Nat) (es:List D):(AV.own sz es).cp=.d (.list es):=rfl
@[go_sem] theorem z69 (k s g off:Nat):(AV.ptr k s g off).cp=.ptr k s g off:=rfl
@[go_sem] theorem z4w (cs:List D):(AV.cptr cs).cp=.cptr cs:=rfl
@[go_sem] theorem z4x (f:FuncId) (c:List (Nat×Nat×Nat)):(AV.func f c).cp=.func f c:=rfl
@[go_sem] theorem z7a (xs:List D):(AV.tup xs).cp=.tup xs:=rfl
@[go_sem] theorem z7b:AV.skp.cp=.skp:=rfl
@[go_sem] theorem z2a:AV.undef.cp=.undef:=rfl
@[go_sem] theorem z8j (ρ:Env) (i:Nat):ev ρ (.t i)=ρ i:=rfl
@[go_sem] theorem ev_c (ρ:Env) (x:D):ev ρ (.c x)=.d x:=rfl
@[go_sem] theorem zo2 (l:List (Nat×AV)) (d:Nat) (v:AV):put (E l) (some d) v=E ((d,v)::l):=rfl
@[go_sem] theorem z2b (ρ:Env) (v:AV):put ρ none v=ρ:=rfl
@[go_sem] theorem z8k (h:Hp) (σ:List Hp) (s g:Nat):blk (h::σ) 0 s g=if (h s).g=g then (h s).c else none:=rfl
@[go_sem] theorem z4y (h:Hp) (σ:List Hp) (k s g:Nat):blk (h::σ) (k+1) s g=blk σ k s g:=rfl
@[go_sem] theorem z8l (h:Hp) (σ:List Hp) (s g:Nat):blk (h::σ) 1 s g=blk σ 0 s g:=rfl
@[go_sem] theorem z8m (h:Hp) (σ:List Hp) (s g:Nat):blk (h::σ) 2 s g=blk σ 1 s g:=rfl
@[go_sem] theorem z8n (h:Hp) (σ:List Hp) (s g:Nat):blk (h::σ) 3 s g=blk σ 2 s g:=rfl
def wS (n:Nat) (pa:AV) (y:Option D) (r:Root) (h:List (Nat×Blk)) (σ:List Hp) (G:Gh) {k:Hp→List Hp→Gh→Prop} (_:zk k):Prop :=
 match pa,y with
 | .ptr 0 s g off,some y=>wT (zbf r 0 s && za n y) (zk.mk (a:=wB (blk (HB h::σ) 0 s g) (zk.mk (a:=fun cs=>wP (off+n≤cs.length) (zk.mk (a:=wL (zbe cs y.cells off) (zk.mk (a:=fun cs'=>wH (zma h s ⟨g,some cs'⟩) (zk.mk (a:=fun h'=>k (HB h') σ G))))))))))
 | .ptr (i+1) s g off,some y=>wT (zbf r (i+1) s && za n y) (zk.mk (a:=wB (blk σ i s g) (zk.mk (a:=fun cs=>wP (off+n≤cs.length) (zk.mk (a:=wL (zbe cs y.cells off) (zk.mk (a:=fun cs'=>∃ h0,σ[i]?=some h0∧k (HB h) (σ.set i (upd h0 s ⟨g,some cs'⟩)) G))))))))
 | .d (.gp b off),some y=>wT (r.foreignOk && za n y) (zk.mk (a:=wB (G b) (zk.mk (a:=fun cs=>wP (off+n≤cs.length) (zk.mk (a:=wL (zbe cs y.cells off) (zk.mk (a:=fun cs'=>k (HB h) σ (G.set b (some cs'))))))))))
 | _,_=>False
@[go_sem] theorem z89 (n s g off:Nat) (y:D) (r:Root) (h:List (Nat×Blk)) (σ:List Hp) (G:Gh) {k:Hp→List Hp→Gh→Prop} (hk:zk k):wS n (.ptr 0 s g off) (some y) r h σ G hk =
  wT (zbf r 0 s && za n y) (zk.mk (a:=wB (blk (HB h::σ) 0 s g) (zk.mk (a:=fun cs=>wP (off+n≤cs.length) (zk.mk (a:=wL (zbe cs y.cells off) (zk.mk (a:=fun cs'=>wH (zma h s ⟨g,some cs'⟩) (zk.mk (a:=fun h'=>k (HB h') σ G)))))))))):=rfl
@[go_sem] theorem z9a (n i s g off:Nat) (y:D) (r:Root) (h:List (Nat×Blk)) (σ:List Hp) (G:Gh) {k:Hp→List Hp→Gh→Prop} (hk:zk k):wS n (.ptr (i+1) s g off) (some y) r h σ G hk =
  wT (zbf r (i+1) s && za n y) (zk.mk (a:=wB (blk σ i s g) (zk.mk (a:=fun cs=>wP (off+n≤cs.length) (zk.mk (a:=wL (zbe cs y.cells off) (zk.mk (a:=fun cs'=>∃ h0,σ[i]?=some h0∧k (HB h) (σ.set i (upd h0 s ⟨g,some cs'⟩)) G)))))))):=rfl
@[go_sem] theorem z8o (n b off:Nat) (y:D) (r:Root) (h:List (Nat×Blk)) (σ:List Hp) (G:Gh) {k:Hp→List Hp→Gh→Prop} (hk:zk k):wS n (.d (.gp b off)) (some y) r h σ G hk =
  wT (r.foreignOk && za n y) (zk.mk (a:=wB (G b) (zk.mk (a:=fun cs=>wP (off+n≤cs.length) (zk.mk (a:=wL (zbe cs y.cells off) (zk.mk (a:=fun cs'=>k (HB h) σ (G.set b (some cs')))))))))):=rfl
def wI (neg:Bool) (o:Option D) {k:Bool→Prop} (_:zk k):Prop :=
 match o with
 | some .nilS=>k (!neg)
 | some (.list es)=>∀ t,(es≠[]→t=neg)→k t
 | some (.gs _ _ _ _)=>k neg
 | _=>False
@[go_sem] theorem z7c (neg:Bool) {k:Bool→Prop} (h:zk k):wI neg (some .nilS) h=k (!neg):=rfl
@[go_sem] theorem z8p (neg:Bool) (b off n cap:Nat) {k:Bool→Prop} (h:zk k):wI neg (some (.gs b off n cap)) h=k neg:=rfl
def wC (P:Program) (d:Option Nat) (f:AO) (args:List AO) (q:Nat) (ρ:Env) (L:Hp) (σ:List Hp) (G:Gh) {K:St→Prop} (_:zk K):Prop:=zcv P d f args q ρ L σ G K
def W (P:Program) (c:ACode) {κ:zbd→St→Prop} (_:zk κ) (st:St):Prop:=SW P c κ st
section
variable {P:Program} {os:List AI} {l:List (Nat×AV)} {L:Hp} {h:List (Nat×Blk)} {σ:List Hp} {G:Gh} {K:St→Prop}
@[go_sem ↓] theorem z2c {ρ:Env}:z2 P [] ρ L σ G K=K (ρ,L,σ,G):=rfl
@[go_sem ↓] theorem zx0 {d:Option Nat} {op:AOp} {t:Nat} {w:Bool}:z2 P (⟨d,op,some (t,w)⟩::os) (E l) L σ G K=wG (E l t) w (zk.mk (a:=z2 P (⟨d,op,none⟩::os) (E l) L σ G K)) (zk.mk (a:=z2 P os (put (E l) d .skp) L σ G K)):=rfl
theorem zdk {d:Option Nat} {op:AOp} {ρ:Env} (hd:∀ K':St→Prop,zai P ⟨d,op,none⟩ ρ L σ G K'=(∃ st,zh d op ρ L σ G=some st∧K' st)) :
 z2 P (⟨d,op,none⟩::os) ρ L σ G K=∃ st,zh d op ρ L σ G=some st∧z2 P os st.1 st.2.1 st.2.2.1 st.2.2.2 K:=hd _
theorem zp {d:Nat} {op:AOp} (hd:∀ K':St→Prop,zai P ⟨some d,op,none⟩ (E l) L σ G K'=(∃ st,zh (some d) op (E l) L σ G=some st∧K' st)) (he:zh (some d) op (E l) L σ G=(evP (E l) (L::σ) G op).map fun v=>(put (E l) (some d) v,L,σ,G)) :
 z2 P (⟨some d,op,none⟩::os) (E l) L σ G K=wO (evP (E l) (L::σ) G op) (zk.mk (a:=fun v=>z2 P os (E ((d,v)::l)) L σ G K)):=by
 rw [zdk hd,he]
 simp only [Option.map_eq_some_iff,wO,eq_iff_iff]
 constructor
 · rintro ⟨st,⟨v,hv,rfl⟩,hk⟩;exact ⟨v,hv,hk⟩
 · rintro ⟨v,hv,hk⟩;exact ⟨_,⟨v,hv,rfl⟩,hk⟩
@[go_sem ↓] theorem z2d {d:Nat} {x:AO}:z2 P (⟨some d,.mv false x,none⟩::os) (E l) L σ G K=wV (ev (E l) x).cp (zk.mk (a:=fun v=>z2 P os (E ((d,v)::l)) L σ G K)):=by
  rw [zp (fun _=>rfl) rfl];simp [evP,wO,wV]
@[go_sem ↓] theorem zzl {d:Nat} {x:D}:z2 P (⟨some d,.mv true (.c x),none⟩::os) (E l) L σ G K=z2 P os (E ((d,.d x)::l)) L σ G K:=by
  rw [zdk (fun _=>rfl)];simp [zh,zco,ev,zo2]
@[go_sem ↓] theorem z2e {d i:Nat}:z2 P (⟨some d,.mv true (.t i),none⟩::os) (E l) L σ G K=wV (E l i) (zk.mk (a:=fun v=>wV v.cp (zk.mk (a:=fun v'=>z2 P os (E ((d,v)::(i,v')::l)) L σ G K)))):=by
  rw [zdk (fun _=>rfl)];simp [zh,zco,ev,zo2,zql,wV]
@[go_sem ↓] theorem zzm {d:Nat} {a b c:AO}:z2 P (⟨some d,.pick a b c,none⟩::os) (E l) L σ G K=wO (evP (E l) (L::σ) G (.pick a b c)) (zk.mk (a:=fun v=>z2 P os (E ((d,v)::l)) L σ G K)):=zp (fun _=>rfl) rfl
@[go_sem ↓] theorem zx1 {d:Nat} {z:List D} {ps:List (Nat×Nat×AO)}:z2 P (⟨some d,.build z ps,none⟩::os) (E l) L σ G K=wO (evP (E l) (L::σ) G (.build z ps)) (zk.mk (a:=fun v=>z2 P os (E ((d,v)::l)) L σ G K)):=zp (fun _=>rfl) rfl
@[go_sem ↓] theorem zuv {d:Nat} {a b:Nat} {z:D} {ps:List (Nat×AO)}:z2 P (⟨some d,.mkslice a b z ps,none⟩::os) (E l) L σ G K=wO (evP (E l) (L::σ) G (.mkslice a b z ps)) (zk.mk (a:=fun v=>z2 P os (E ((d,v)::l)) L σ G K)):=zp (fun _=>rfl) rfl
@[go_sem ↓] theorem zzn {d:Nat} {a:Bool} {n:Nat} {x:AO} {r:Root}:z2 P (⟨some d,.load a n x r,none⟩::os) (E l) L σ G K=wO (evP (E l) (L::σ) G (.load a n x r)) (zk.mk (a:=fun v=>z2 P os (E ((d,v)::l)) L σ G K)):=zp (fun _=>rfl) rfl
@[go_sem ↓] theorem zx2 {d:Nat} {x:AO}:z2 P (⟨some d,.nilck x,none⟩::os) (E l) L σ G K=wO (evP (E l) (L::σ) G (.nilck x)) (zk.mk (a:=fun v=>z2 P os (E ((d,v)::l)) L σ G K)):=zp (fun _=>rfl) rfl
@[go_sem ↓] theorem z2f {d:Nat} {o:BinOp} {x y:AO}:z2 P (⟨some d,.bin o x y,none⟩::os) (E l) L σ G K=wO (evP (E l) (L::σ) G (.bin o x y)) (zk.mk (a:=fun v=>z2 P os (E ((d,v)::l)) L σ G K)):=zp (fun _=>rfl) rfl
@[go_sem ↓] theorem z2g {d:Nat} {n:Bool} {ks:List Kd} {x y:AO}:z2 P (⟨some d,.eqs n ks x y,none⟩::os) (E l) L σ G K=wO (evP (E l) (L::σ) G (.eqs n ks x y)) (zk.mk (a:=fun v=>z2 P os (E ((d,v)::l)) L σ G K)):=zp (fun _=>rfl) rfl
@[go_sem ↓] theorem z2h {d:Nat} {n:Bool} {x y:AO}:z2 P (⟨some d,.eqb n x y,none⟩::os) (E l) L σ G K=wO (evP (E l) (L::σ) G (.eqb n x y)) (zk.mk (a:=fun v=>z2 P os (E ((d,v)::l)) L σ G K)):=zp (fun _=>rfl) rfl
@[go_sem ↓] theorem z2i {d:Nat} {x:AO}:z2 P (⟨some d,.not x,none⟩::os) (E l) L σ G K=wO (evP (E l) (L::σ) G (.not x)) (zk.mk (a:=fun v=>z2 P os (E ((d,v)::l)) L σ G K)):=zp (fun _=>rfl) rfl
@[go_sem ↓] theorem z2j {d:Nat} {x:AO}:z2 P (⟨some d,.neg x,none⟩::os) (E l) L σ G K=wO (evP (E l) (L::σ) G (.neg x)) (zk.mk (a:=fun v=>z2 P os (E ((d,v)::l)) L σ G K)):=zp (fun _=>rfl) rfl
@[go_sem ↓] theorem zzo {d:Nat} {k:IntKind} {x:AO}:z2 P (⟨some d,.conv k x,none⟩::os) (E l) L σ G K=wO (evP (E l) (L::σ) G (.conv k x)) (zk.mk (a:=fun v=>z2 P os (E ((d,v)::l)) L σ G K)):=zp (fun _=>rfl) rfl
@[go_sem ↓] theorem zvx {d:Nat} {f:FuncId} {c:List AO}:z2 P (⟨some d,.mkfunc f c,none⟩::os) (E l) L σ G K=wO (evP (E l) (L::σ) G (.mkfunc f c)) (zk.mk (a:=fun v=>z2 P os (E ((d,v)::l)) L σ G K)):=zp (fun _=>rfl) rfl
@[go_sem ↓] theorem z2k {d:Nat} {n:Nat} {x:AO}:z2 P (⟨some d,.sl0 n x,none⟩::os) (E l) L σ G K=wO (evP (E l) (L::σ) G (.sl0 n x)) (zk.mk (a:=fun v=>z2 P os (E ((d,v)::l)) L σ G K)):=zp (fun _=>rfl) rfl
@[go_sem ↓] theorem zzp {d:Nat} {n:Nat} {x y z:AO}:z2 P (⟨some d,.sl3L n x y z,none⟩::os) (E l) L σ G K=wO (evP (E l) (L::σ) G (.sl3L n x y z)) (zk.mk (a:=fun v=>z2 P os (E ((d,v)::l)) L σ G K)):=zp (fun _=>rfl) rfl
@[go_sem ↓] theorem z4z {d:Nat} {n:Nat} {x:AO} {lo hi:Option AO}:z2 P (⟨some d,.sl n x lo hi,none⟩::os) (E l) L σ G K=wO (evP (E l) (L::σ) G (.sl n x lo hi)) (zk.mk (a:=fun v=>z2 P os (E ((d,v)::l)) L σ G K)):=zp (fun _=>rfl) rfl
@[go_sem ↓] theorem z2l {d:Nat} {x:AO} {lo hi:Option AO}:z2 P (⟨some d,.slS x lo hi,none⟩::os) (E l) L σ G K=wO (evP (E l) (L::σ) G (.slS x lo hi)) (zk.mk (a:=fun v=>z2 P os (E ((d,v)::l)) L σ G K)):=zp (fun _=>rfl) rfl
@[go_sem ↓] theorem zx3 {d:Nat} {n:Nat} {x:AO}:z2 P (⟨some d,.faddr n x,none⟩::os) (E l) L σ G K=wO (evP (E l) (L::σ) G (.faddr n x)) (zk.mk (a:=fun v=>z2 P os (E ((d,v)::l)) L σ G K)):=zp (fun _=>rfl) rfl
@[go_sem ↓] theorem zx4 {d:Nat} {a:Bool} {o n:Nat} {x:AO}:z2 P (⟨some d,.field a o n x,none⟩::os) (E l) L σ G K=wO (evP (E l) (L::σ) G (.field a o n x)) (zk.mk (a:=fun v=>z2 P os (E ((d,v)::l)) L σ G K)):=zp (fun _=>rfl) rfl
@[go_sem ↓] theorem zx5 {d:Nat} {n:Nat} {x i:AO}:z2 P (⟨some d,.iaddr n x i,none⟩::os) (E l) L σ G K=wO (evP (E l) (L::σ) G (.iaddr n x i)) (zk.mk (a:=fun v=>z2 P os (E ((d,v)::l)) L σ G K)):=zp (fun _=>rfl) rfl
@[go_sem ↓] theorem zvy {d:Nat} {m n:Nat} {x i:AO}:z2 P (⟨some d,.iaddrA m n x i,none⟩::os) (E l) L σ G K=wO (evP (E l) (L::σ) G (.iaddrA m n x i)) (zk.mk (a:=fun v=>z2 P os (E ((d,v)::l)) L σ G K)):=zp (fun _=>rfl) rfl
@[go_sem ↓] theorem zzq {d:Nat} {x i:AO}:z2 P (⟨some d,.idxS x i,none⟩::os) (E l) L σ G K=wO (evP (E l) (L::σ) G (.idxS x i)) (zk.mk (a:=fun v=>z2 P os (E ((d,v)::l)) L σ G K)):=zp (fun _=>rfl) rfl
@[go_sem ↓] theorem zzr {d:Nat} {a:Bool} {m n:Nat} {x i:AO}:z2 P (⟨some d,.idxA a m n x i,none⟩::os) (E l) L σ G K=wO (evP (E l) (L::σ) G (.idxA a m n x i)) (zk.mk (a:=fun v=>z2 P os (E ((d,v)::l)) L σ G K)):=zp (fun _=>rfl) rfl
@[go_sem ↓] theorem z2m {d:Nat} {x:AO} {i:Nat}:z2 P (⟨some d,.ext x i,none⟩::os) (E l) L σ G K=wO (evP (E l) (L::σ) G (.ext x i)) (zk.mk (a:=fun v=>z2 P os (E ((d,v)::l)) L σ G K)):=zp (fun _=>rfl) rfl
@[go_sem ↓] theorem z2n {d:Nat} {s:Bool} {x:AO}:z2 P (⟨some d,.len s x,none⟩::os) (E l) L σ G K=wO (evP (E l) (L::σ) G (.len s x)) (zk.mk (a:=fun v=>z2 P os (E ((d,v)::l)) L σ G K)):=zp (fun _=>rfl) rfl
@[go_sem ↓] theorem z40 {d:Nat} {x y:AO}:z2 P (⟨some d,.mx x y,none⟩::os) (E l) L σ G K=wO (evP (E l) (L::σ) G (.mx x y)) (zk.mk (a:=fun v=>z2 P os (E ((d,v)::l)) L σ G K)):=zp (fun _=>rfl) rfl
@[go_sem ↓] theorem z41 {d:Nat} {x y:AO}:z2 P (⟨some d,.mn x y,none⟩::os) (E l) L σ G K=wO (evP (E l) (L::σ) G (.mn x y)) (zk.mk (a:=fun v=>z2 P os (E ((d,v)::l)) L σ G K)):=zp (fun _=>rfl) rfl
@[go_sem ↓] theorem z2o {d:Nat} {x:AO}:z2 P (⟨some d,.b2s x,none⟩::os) (E l) L σ G K=wO (evP (E l) (L::σ) G (.b2s x)) (zk.mk (a:=fun v=>z2 P os (E ((d,v)::l)) L σ G K)):=zp (fun _=>rfl) rfl
@[go_sem ↓] theorem z2p {d:Nat} {x:AO}:z2 P (⟨some d,.s2b x,none⟩::os) (E l) L σ G K=wO (evP (E l) (L::σ) G (.s2b x)) (zk.mk (a:=fun v=>z2 P os (E ((d,v)::l)) L σ G K)):=zp (fun _=>rfl) rfl
@[go_sem ↓] theorem z2q {d:Nat} {x:AO}:z2 P (⟨some d,.cap x,none⟩::os) (E l) L σ G K=wO (evP (E l) (L::σ) G (.cap x)) (zk.mk (a:=fun v=>z2 P os (E ((d,v)::l)) L σ G K)):=zp (fun _=>rfl) rfl
@[go_sem ↓] theorem z2r {d:Nat} {n:Nat} {x:AO} {lo:Option AO} {hi m:AO}:z2 P (⟨some d,.sl3 n x lo hi m,none⟩::os) (E l) L σ G K=wO (evP (E l) (L::σ) G (.sl3 n x lo hi m)) (zk.mk (a:=fun v=>z2 P os (E ((d,v)::l)) L σ G K)):=zp (fun _=>rfl) rfl
@[go_sem ↓] theorem zx6 {s:Nat} {z:List D}:z2 P (⟨some s,.alloc z,none⟩::os) (E l) (HB h) σ G K=wN ((HB h s).g+1) (zk.mk (a:=fun g=>wH (zma h s ⟨g,some z⟩) (zk.mk (a:=fun h'=>z2 P os (E ((s,.ptr 0 s g 0)::l)) (HB h') σ G K)))):=by
  rw [zdk (fun _=>rfl)];simp [zh,zql,zqm,wN,wH]
@[go_sem ↓] theorem z2s {s n:Nat} {x:AO}:z2 P (⟨some s,.box n x,none⟩::os) (E l) (HB h) σ G K=wD (ev (E l) x).data (zk.mk (a:=fun y=>wT (za n y) (zk.mk (a:=wL y.cells (zk.mk (a:=fun cs=>wN ((HB h s).g+1) (zk.mk (a:=fun g=>wH (zma h s ⟨g,some cs⟩) (zk.mk (a:=fun h'=>z2 P os (E ((s,.ptr 0 s g 0)::l)) (HB h') σ G K)))))))))):=by
  rw [zdk (fun _=>rfl)]
  simp only [zh,wD,wT,wL,wN,wH,zql,zqm,eq_iff_iff]
  cases (ev (E l) x).data with
  | none=>simp
  | some y=>by_cases hy:za n y=true<;>simp [hy]
@[go_sem ↓] theorem zx7 {d:Option Nat} {n:Nat} {a v:AO} {r:Root}:z2 P (⟨d,.store n a v r,none⟩::os) (E l) (HB h) σ G K=wS n (ev (E l) a) (ev (E l) v).data r h σ G (zk.mk (a:=fun L' σ' G'=>z2 P os (put (E l) d .undef) L' σ' G' K)):=by
  rw [zdk (fun _=>rfl)]
  simp only [zh,eq_iff_iff]
  generalize ev (E l) a=pa
  generalize (ev (E l) v).data=y
  cases y with
  | none=>cases pa<;>simp [wS]
  | some y =>
   cases pa with
   | ptr k s g off =>
    cases k with
    | zero =>
     simp only [wS,wT,wB,wP,wL,wH]
     by_cases h1:(zbf r 0 s && za n y)=true
     · simp only [h1,if_true,true_and]
       cases hb:blk (HB h::σ) 0 s g with
       | none=>simp
       | some cs =>
        by_cases h2:off+n≤cs.length
        · simp [h2,zqm]
        · simp [h2]
     · simp [h1]
    | succ k =>
     simp only [wS,wT,wB,wP,wL]
     by_cases h1:(zbf r (k+1) s && za n y)=true
     · simp only [h1,if_true,true_and,z4y]
       cases hb:blk σ k s g with
       | none=>simp
       | some cs =>
        by_cases h2:off+n≤cs.length
        · simp only [h2,if_true,true_and,Option.some.injEq,exists_eq_left']
          cases σ[k]? with
          | none=>simp
          | some h0=>simp
        · simp [h2]
     · simp [h1]
   | d x =>
    cases x with
    | gp b off =>
     simp only [wS,wT,wB,wP,wL]
     by_cases h1:(r.foreignOk && za n y)=true
     · simp only [h1,if_true,true_and]
       cases hb:G b with
       | none=>simp
       | some cs =>
        by_cases h2:off+n≤cs.length
        · simp [h2]
        · simp [h2]
     · simp [h1]
    | _=>simp [wS]
   | _=>simp [wS]
@[go_sem ↓] theorem z2t {d:Nat} {y:AO}:z2 P (⟨some d,.append 1 0 (.c (.str [])) y,none⟩::os) (E l) L σ G K=wD (ev (E l) y).data (zk.mk (a:=fun z=>wO (zah 1 0 (.d (.str [])) z) (zk.mk (a:=fun v=>z2 P os (E ((d,v)::l)) L σ G K)))):=by
  rw [zdk (fun _=>rfl)]
  simp only [zh,wD,wO,eq_iff_iff,zco,zql,ev_c]
  generalize (ev (E l) y).data=o
  cases o with
  | none=>simp
  | some z =>
   simp only [Option.map_eq_some_iff,Option.some.injEq,exists_eq_left']
   constructor
   · rintro ⟨st,⟨v,hv,rfl⟩,hk⟩;exact ⟨v,hv,hk⟩
   · rintro ⟨v,hv,hk⟩;exact ⟨_,⟨v,hv,rfl⟩,hk⟩
@[go_sem ↓] theorem zvz {d i sz b:Nat} {y:AO}:z2 P (⟨some d,.append sz b (.t i) y,none⟩::os) (E l) L σ G K=wD (ev (E l) y).data (zk.mk (a:=fun z=>wO (zah sz b (E l i) z) (zk.mk (a:=fun v=>wV (E l i).cp (zk.mk (a:=fun v'=>z2 P os (E ((d,v)::(i,v')::l)) L σ G K)))))):=by
  rw [zdk (fun _=>rfl)]
  simp only [zh,wD,wO,wV,eq_iff_iff,zco,zql,z8j]
  generalize (ev (E l) y).data=o
  cases o with
  | none=>simp
  | some z =>
   simp only [Option.map_eq_some_iff,Option.some.injEq,exists_eq_left']
   constructor
   · rintro ⟨st,⟨v,hv,rfl⟩,hk⟩;exact ⟨v,hv,hk⟩
   · rintro ⟨v,hv,hk⟩;exact ⟨_,⟨v,hv,rfl⟩,hk⟩
@[go_sem ↓] theorem zx8 {d:Nat} {neg:Bool} {x:AO}:z2 P (⟨some d,.isnil neg x,none⟩::os) (E l) L σ G K=wI neg (ev (E l) x).data (zk.mk (a:=fun t=>z2 P os (E ((d,.d (.bool t))::l)) L σ G K)):=by
  simp only [z2,z7,zai,zbw,zh,evP,eq_iff_iff]
  cases (ev (E l) x).data with
  | none=>simp [wI]
  | some y =>
   cases y with
   | list es =>
    cases es with
    | nil=>simp [wI,zo2]
    | cons e es=>simp [wI,zo2]
   | _=>simp [wI,zo2]
@[go_sem ↓] theorem zzs {d:Option Nat} {f:AO} {as:List AO} {q:Nat}:z2 P (⟨d,.call f as q,none⟩::os) (E l) L σ G K=wC P d f as q (E l) L σ G (zk.mk (a:=fun st=>z2 P os st.1 st.2.1 st.2.2.1 st.2.2.2 K)):=rfl
end
section
variable {f:St→Prop} {κ κ':zbd→St→Prop} {st st':St} {id:Nat}
@[go_sem ↓] theorem zv0:zbd.then f κ .normal st=f st:=rfl
@[go_sem ↓] theorem zzt:zbd.then f κ (.exit id) st=κ (.exit id) st:=rfl
@[go_sem ↓] theorem z2u:zbd.then f κ .ret st=κ .ret st:=rfl
@[go_sem ↓] theorem zsb:zbd.inBlock id κ .normal st=κ .normal st:=rfl
@[go_sem ↓] theorem zv1:zbd.inBlock id κ .ret st=κ .ret st:=rfl
@[go_sem ↓] theorem zuw {id':Nat}:zbd.inBlock id κ (.exit id') st=if id'=id then κ .normal st else κ (.exit id') st:=rfl
def Fin (res:List zft) {Q:AV→List Hp→Gh→Prop} (_:zk Q) (st:St):Prop:=zvr res Q st
@[go_sem ↓] theorem zv2 {res:List zft} {Q:AV→List Hp→Gh→Prop}:zvs res Q .normal st=Fin res (zk.mk (a:=Q)) st:=rfl
@[go_sem ↓] theorem z2v {res:List zft} {Q:AV→List Hp→Gh→Prop}:zvs res Q .ret st=Fin res (zk.mk (a:=Q)) st:=rfl
def zgg {I:Nat→St→Prop} (_:zk I) (n:Nat) (st:St):Prop:=∃ m st0,m<n∧zpk st st0∧I m st0
end
end Go.E2
