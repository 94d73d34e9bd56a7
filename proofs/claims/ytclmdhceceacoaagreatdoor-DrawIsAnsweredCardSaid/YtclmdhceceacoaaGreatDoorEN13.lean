/-
 Parts of the blocks that lie apart: what a call changes of its own part,it leaves of all others as it is.
 Conditions: none; definitions and laws.
-/
import Derived.Test.YtclmdhceceacoaaGreatDoorEN9
namespace Go.E2
structure GSub (A B:Gh):Prop where
 c:∀ b v,A.c b=some v→B.c b=some v
 m:∀ b v,A.m b=some v→B.m b=some v
structure GDis (A B:Gh):Prop where
 c:∀ b,A.c b=none∨B.c b=none
 m:∀ b,A.m b=none∨B.m b=none
theorem GSub.refl (A:Gh):GSub A A:=⟨fun _ _ h=>h,fun _ _ h=>h⟩
theorem GSub.trans {A B C:Gh} (h:GSub A B) (h':GSub B C):GSub A C:=⟨fun b v e=>h'.c b v (h.c b v e),fun b v e=>h'.m b v (h.m b v e)⟩
theorem GSub.none {A B:Gh} (h:GSub A B) {b:Nat} (e:B.c b=none):A.c b=none:=by
 cases ha:A.c b with
 | none=>rfl
 | some v=>rw [h.c b v ha] at e; cases e
theorem GSub.noneM {A B:Gh} (h:GSub A B) {b:Nat} (e:B.m b=Option.none):A.m b=Option.none:=by
 cases ha:A.m b with
 | none=>rfl
 | some v=>rw [h.m b v ha] at e; cases e
theorem GDis.symm {A B:Gh} (h:GDis A B):GDis B A:=⟨fun b=>(h.c b).symm,fun b=>(h.m b).symm⟩
theorem GDis.sub {A B A' B':Gh} (h:GDis A B) (ha:GSub A' A) (hb:GSub B' B):GDis A' B' :=
 ⟨fun b=>(h.c b).imp ha.none hb.none,fun b=>(h.m b).imp ha.noneM hb.noneM⟩
def Gh.join (A B:Gh):Gh:=⟨fun b=>match A.c b with|some v=>some v|none=>B.c b,fun b=>match A.m b with|some v=>some v|none=>B.m b,by
 obtain ⟨N,h⟩:=A.fin
 obtain ⟨M,h'⟩:=B.fin
 exact ⟨N + M,fun b hb=>⟨by simp only [(h b (by omega)).1]; exact (h' b (by omega)).1,by simp only [(h b (by omega)).2]; exact (h' b (by omega)).2⟩⟩⟩
theorem GSub.join_l (A B:Gh):GSub A (A.join B):=⟨fun b v h=>by simp only [Gh.join,h],fun b v h=>by simp only [Gh.join,h]⟩
theorem GSub.join_r {A B:Gh} (h:GDis A B):GSub B (A.join B) :=
 ⟨fun b v e=>by have:=h.c b; rw [e] at this; simp only [Gh.join,this.resolve_right (by simp),e],fun b v e=>by have:=h.m b; rw [e] at this; simp only [Gh.join,this.resolve_right (by simp),e]⟩
theorem GSub.join {A B C:Gh} (ha:GSub A C) (hb:GSub B C):GSub (A.join B) C :=
 ⟨fun b v e=>by
   simp only [Gh.join] at e
   cases h:A.c b with
   | none=>rw [h] at e; exact hb.c b v e
   | some u=>rw [h] at e; exact ha.c b v (by rw [h]; exact e),fun b v e=>by
   simp only [Gh.join] at e
   cases h:A.m b with
   | none=>rw [h] at e; exact hb.m b v e
   | some u=>rw [h] at e; exact ha.m b v (by rw [h]; exact e)⟩
theorem GDis.join {A B C:Gh} (ha:GDis A C) (hb:GDis B C):GDis (A.join B) C :=
 ⟨fun b=>by
   simp only [Gh.join]
   cases h:A.c b with
   | none=>exact hb.c b
   | some u=>have:=ha.c b; rw [h] at this; exact .inr (this.resolve_left (by simp)),fun b=>by
   simp only [Gh.join]
   cases h:A.m b with
   | none=>exact hb.m b
   | some u=>have:=ha.m b; rw [h] at this; exact .inr (this.resolve_left (by simp))⟩
abbrev As:=Gh→Prop
def Sep:List As→Gh→Prop
 | [],_=>True
 | A::R,G=>∃ G1 G2,GSub G1 G∧GSub G2 G∧GDis G1 G2∧A G1∧Sep R G2
theorem Sep.nil {G:Gh}:Sep [] G:=trivial
theorem Sep.mono {l:List As} {G G':Gh} (h:Sep l G) (hs:GSub G G'):Sep l G':=by
 cases l with
 | nil=>trivial
 | cons A R =>
  obtain ⟨G1,G2,h1,h2,h3,h4,h5⟩:=h
  exact ⟨G1,G2,h1.trans hs,h2.trans hs,h3,h4,h5⟩
theorem Sep.tail {A:As} {R:List As} {G:Gh} (h:Sep (A::R) G):Sep R G:=by
 obtain ⟨_,G2,_,h2,_,_,h5⟩:=h
 exact h5.mono h2
theorem Sep.head {A:As} {R:List As} {G:Gh} (h:Sep (A::R) G):∃ G1,GSub G1 G∧A G1:=by
 obtain ⟨G1,_,h1,_,_,h4,_⟩:=h
 exact ⟨G1,h1,h4⟩
theorem Sep.swap {A B:As} {R:List As} {G:Gh} (h:Sep (A::B::R) G):Sep (B::A::R) G:=by
 obtain ⟨G1,G2,h1,h2,h3,h4,G3,G4,k1,k2,k3,k4,k5⟩:=h
 have d14:=h3.sub (.refl _) k2
 exact ⟨G3,G1.join G4,k1.trans h2,h1.join (k2.trans h2),(GDis.join (h3.sub (.refl _) k1) k3.symm).symm,k4,G1,G4,.join_l _ _,.join_r d14,d14,h4,k5⟩
theorem Sep.cons {A:As} {R R':List As} {G:Gh} (h:Sep (A::R) G) (hr:∀ G,Sep R G→Sep R' G):Sep (A::R') G:=by
 obtain ⟨G1,G2,h1,h2,h3,h4,h5⟩:=h
 exact ⟨G1,G2,h1,h2,h3,h4,hr _ h5⟩
theorem Sep.f3 {A B C:As} {R:List As} {G:Gh} (h:Sep (A::B::C::R) G):Sep (C::A::B::R) G:=(h.cons fun _=>Sep.swap).swap
theorem Sep.f4 {A B C D:As} {R:List As} {G:Gh} (h:Sep (A::B::C::D::R) G):Sep (D::A::B::C::R) G:=(h.cons fun _=>Sep.f3).swap
theorem Sep.b3 {A B C:As} {R:List As} {G:Gh} (h:Sep (A::B::C::R) G):Sep (B::C::A::R) G:=h.swap.cons fun _=>Sep.swap
theorem Sep.b4 {A B C D:As} {R:List As} {G:Gh} (h:Sep (A::B::C::D::R) G):Sep (B::C::D::A::R) G:=h.swap.cons fun _=>Sep.b3
theorem Sep.b5 {A B C D E:As} {R:List As} {G:Gh} (h:Sep (A::B::C::D::E::R) G):Sep (B::C::D::E::A::R) G:=h.swap.cons fun _=>Sep.b4
theorem Sep.imp {A B:As} {R:List As} {G:Gh} (h:Sep (A::R) G) (hab:∀ G,A G→B G):Sep (B::R) G:=by
 obtain ⟨G1,G2,h1,h2,h3,h4,h5⟩:=h
 exact ⟨G1,G2,h1,h2,h3,hab _ h4,h5⟩
def Star (l:List As):As:=Sep l
theorem Sep.app:∀ {l R:List As} {G:Gh},Sep (Star l::R) G→Sep (l ++ R) G
 | [],R,G,h=>h.tail
 | A::l,R,G,h=>by
   obtain ⟨G1,G2,h1,h2,h3,⟨G3,G4,k1,k2,k3,k4,k5⟩,h5⟩:=h
   have d42:=h3.sub k2 (.refl _)
   refine ⟨G3,G4.join G2,k1.trans h1,(k2.trans h1).join h2,(GDis.join k3.symm (h3.sub k1 (.refl _)).symm).symm,k4,?_⟩
   exact Sep.app ⟨G4,G2,.join_l _ _,.join_r d42,d42,k5,h5⟩
theorem Sep.ex {α:Type} {A:α→As} {R:List As} {G:Gh} (h:Sep ((fun G=>∃ x,A x G)::R) G):∃ x,Sep (A x::R) G:=by
 obtain ⟨G1,G2,h1,h2,h3,⟨x,h4⟩,h5⟩:=h
 exact ⟨x,G1,G2,h1,h2,h3,h4,h5⟩
theorem Sep.pure {p:Prop} {A:As} {R:List As} {G:Gh} (h:Sep ((fun G=>p∧A G)::R) G):p∧Sep (A::R) G:=by
 obtain ⟨G1,G2,h1,h2,h3,⟨hp,h4⟩,h5⟩:=h
 exact ⟨hp,G1,G2,h1,h2,h3,h4,h5⟩
def CellA (b:Nat) (cs:List D):As:=fun G=>G.c b=some cs
theorem Sep.get {b:Nat} {cs:List D} {R:List As} {G:Gh} (h:Sep (CellA b cs::R) G):G.c b=some cs:=by
 obtain ⟨G1,h1,h2⟩:=h.head
 exact h1.c _ _ h2
theorem Sep.set {b:Nat} {cs cs':List D} {R:List As} {G:Gh} (h:Sep (CellA b cs::R) G):Sep (CellA b cs'::R) (G.set b (some cs')):=by
 obtain ⟨G1,G2,h1,h2,h3,h4,h5⟩:=h
 have hn:G2.c b=none:=(h3.c b).resolve_left (by rw [h4]; simp)
 refine ⟨G1.set b (some cs'),G2,⟨fun i v e=>?_,h1.m⟩,⟨fun i v e=>?_,h2.m⟩,⟨fun i=>?_,h3.m⟩,?_,h5⟩
 · rw [Gh.set_c] at e ⊢
   unfold upd at e ⊢
   split
   · rename_i hi; rw [if_pos hi] at e; exact e
   · rename_i hi; rw [if_neg hi] at e; exact h1.c _ _ e
 · rw [Gh.set_c]
   unfold upd
   split
   · rename_i hi; subst hi; rw [hn] at e; cases e
   · exact h2.c _ _ e
 · rw [Gh.set_c]
   unfold upd
   split
   · rename_i hi; subst hi; exact .inr hn
   · exact h3.c i
 · simp [CellA,upd]
theorem Sep.new {b:Nat} {cs:List D} {R:List As} {G:Gh} (hb:G.c b=none) (h:Sep R G):Sep (CellA b cs::R) (G.set b (some cs)):=by
 refine ⟨noGh.set b (some cs),G,⟨fun i v e=>?_,fun i v e=>(by cases e)⟩,⟨fun i v e=>?_,fun _ _ e=>e⟩,⟨fun i=>?_,fun i=>.inl rfl⟩,by simp [CellA,upd],h⟩
 · simp only [Gh.set_c,upd] at e ⊢
   split
   · rename_i hi; rw [if_pos hi] at e; exact e
   · rename_i hi; rw [if_neg hi] at e; cases e
 · simp only [Gh.set_c,upd]
   split
   · rename_i hi; subst hi; rw [hb] at e; cases e
   · exact e
 · simp only [Gh.set_c,upd]
   split
   · rename_i hi; subst hi; exact .inr hb
   · exact .inl rfl
def ObjA (r:Nat) (o:MO):As:=fun G=>G.m r=some o
theorem Sep.getM {r:Nat} {o:MO} {R:List As} {G:Gh} (h:Sep (ObjA r o::R) G):G.m r=some o:=by
 obtain ⟨G1,h1,h2⟩:=h.head
 exact h1.m _ _ h2
theorem Sep.setM {r:Nat} {o o':MO} {R:List As} {G:Gh} (h:Sep (ObjA r o::R) G):Sep (ObjA r o'::R) (G.setM r (some o')):=by
 obtain ⟨G1,G2,h1,h2,h3,h4,h5⟩:=h
 have hn:G2.m r=none:=(h3.m r).resolve_left (by rw [h4]; simp)
 refine ⟨G1.setM r (some o'),G2,⟨h1.c,fun i v e=>?_⟩,⟨h2.c,fun i v e=>?_⟩,⟨h3.c,fun i=>?_⟩,?_,h5⟩
 · rw [Gh.setM_m] at e ⊢
   unfold upd at e ⊢
   split
   · rename_i hi; rw [if_pos hi] at e; exact e
   · rename_i hi; rw [if_neg hi] at e; exact h1.m _ _ e
 · rw [Gh.setM_m]
   unfold upd
   split
   · rename_i hi; subst hi; rw [hn] at e; cases e
   · exact h2.m _ _ e
 · rw [Gh.setM_m]
   unfold upd
   split
   · rename_i hi; subst hi; exact .inr hn
   · exact h3.m i
 · simp [ObjA,upd]
theorem Sep.newM {r:Nat} {o:MO} {R:List As} {G:Gh} (hb:G.m r=none) (h:Sep R G):Sep (ObjA r o::R) (G.setM r (some o)):=by
 refine ⟨noGh.setM r (some o),G,⟨fun i v e=>(by cases e),fun i v e=>?_⟩,⟨fun _ _ e=>e,fun i v e=>?_⟩,⟨fun i=>.inl rfl,fun i=>?_⟩,by simp [ObjA,upd],h⟩
 · simp only [Gh.setM_m,upd] at e ⊢
   split
   · rename_i hi; rw [if_pos hi] at e; exact e
   · rename_i hi; rw [if_neg hi] at e; cases e
 · simp only [Gh.setM_m,upd]
   split
   · rename_i hi; subst hi; rw [hb] at e; cases e
   · exact e
 · simp only [Gh.setM_m,upd]
   split
   · rename_i hi; subst hi; exact .inr hb
   · exact .inl rfl
theorem Sep.keep {R:List As} {G G':Gh} (h:Sep R G) (hs:GSub G G'):Sep R G':=h.mono hs
theorem GSub.new {G:Gh} {b:Nat} (hb:G.c b=Option.none) (v:Option (List D)):GSub G (G.set b v) :=
 ⟨fun i u e=>by
   simp only [Gh.set_c,upd]
   split
   · rename_i hi; subst hi; rw [hb] at e; cases e
   · exact e,fun _ _ e=>e⟩
theorem GSub.newM {G:Gh} {b:Nat} (hb:G.m b=Option.none) (v:Option MO):GSub G (G.setM b v) :=
 ⟨fun _ _ e=>e,fun i u e=>by
   simp only [Gh.setM_m,upd]
   split
   · rename_i hi; subst hi; rw [hb] at e; cases e
   · exact e⟩
section
variable {α β:Type} [DecidableEq α] {ks:List Kd} {emb:α→D} {vf:β→D}
def MapA (ks:List Kd) (emb:α→D) (vf:β→D) (r:Nat) (m:List (α × β)):As:=fun G=>MapL ks emb vf G r m
theorem Sep.map {r:Nat} {m:List (α × β)} {R:List As} {G:Gh} (h:Sep (MapA ks emb vf r m::R) G):MapL ks emb vf G r m:=by
 obtain ⟨G1,h1,h2⟩:=h.head
 obtain ⟨k1,es,cl,k2,k3⟩:=h2
 exact ⟨k1,es,cl,h1.m _ _ k2,k3⟩
end
def CallS (P:Program) (f:FuncId) (xs:List D) (pre:List As) (Q:AV→List As→Prop):Prop :=
 ∀ (R:List As) (G:Gh) (σ:List Hp),Sep (pre ++ R) G→CallT P f (xs.map .d) σ G fun r σ' G'=>σ'=σ∧∃ post,Q r post∧Sep (post ++ R) G'
def CallR (P:Program) (f:FuncId) (xs:List D) (pre:List As) (Q:AV→Prop):Prop :=
 ∀ (R:List As) (G:Gh) (σ:List Hp),Sep (pre ++ R) G→CallT P f (xs.map .d) σ G fun r σ' G'=>σ'=σ∧G'=G∧Q r
theorem CallR.s {P:Program} {f:FuncId} {xs:List D} {pre:List As} {Q:AV→Prop} (h:CallR P f xs pre Q):CallS P f xs pre fun r post=>post=pre∧Q r :=
 fun R G σ hs=>(h R G σ hs).mono fun _ _ _ ⟨h1,h2,h3⟩=>⟨h1,pre,⟨rfl,h3⟩,by rw [h2]; exact hs⟩
def CallQ (P:Program) (f:FuncId) (xs:List D) (G:Gh) (Q:AV→Prop):Prop:=∀ σ,CallT P f (xs.map .d) σ G fun r σ' G'=>σ'=σ∧G'=G∧Q r
theorem CallR.q {P:Program} {f:FuncId} {xs:List D} {pre R:List As} {Q:AV→Prop} {G:Gh} (h:CallR P f xs pre Q) (hs:Sep (pre ++ R) G):CallQ P f xs G Q:=fun σ=>h R G σ hs
theorem CallP.q {P:Program} {f:FuncId} {xs:List D} {Q:AV→Prop} (h:CallP P f xs Q) (G:Gh):CallQ P f xs G Q:=fun σ=>h.quiet σ G
theorem CallP.r {P:Program} {f:FuncId} {xs:List D} {Q:AV→Prop} (h:CallP P f xs Q) (pre:List As):CallR P f xs pre Q:=fun _ G σ _=>h.quiet σ G
section
variable {P:Program} {ρ:Env} {L:Hp} {σ:List Hp} {G:Gh} {K:St→Prop}
theorem wC_Q {d:Option Nat} {f:AO} {args:List AO} {q:Nat} {g:FuncId} {xs:List D} {Q:AV→Prop} {h:Hide K}
 (hc:CallQ P g xs G Q) (ht:target (ev ρ f)=some (g,[])∧datas ρ args=some xs) (hK:∀ r,Q r→K (put ρ d r,L,σ,G)):wC P d f args q ρ L σ G h :=
 callW_q hc ht.1 ht.2 hK
theorem wC_s {d:Option Nat} {f:AO} {args:List AO} {g:FuncId} {xs:List D} {pre R:List As} {Q:AV→List As→Prop} {h:Hide K}
 (hc:CallS P g xs pre Q) (hs:Sep (pre ++ R) G) (ht:target (ev ρ f)=some (g,[])∧datas ρ args=some xs)
 (hK:∀ r post G',Q r post→Sep (post ++ R) G'→K (put ρ d r,L,σ,G')):wC P d f args 0 ρ L σ G h :=
 wC_gc (cs:=[]) (Q:=fun r G'=>∃ post,Q r post∧Sep (post ++ R) G') (by simpa using hc R G (L::σ) hs) (by simpa using ht.1) ht.2 fun r G' ⟨post,h1,h2⟩=>hK r post G' h1 h2
theorem wC_sq {d:Option Nat} {f:AO} {args:List AO} {g:FuncId} {xs:List D} {pre R:List As} {Q:AV→List As→Prop} {q:Nat} {h:Hide K}
 (hc:CallS P g xs pre Q) (hs:Sep (pre ++ R) G) (hq:q=0∨q=2) (ht:target (ev ρ f)=some (g,[])∧datas ρ args=some xs)
 (hK:∀ r post G',Q r post→Sep (post ++ R) G'→K (put ρ d r,L,σ,G')):wC P d f args q ρ L σ G h:=by
 rcases hq with rfl|rfl
 · exact wC_s hc hs ht hK
 · show callW P d f args 2 ρ L σ G K
   unfold callW
   rw [ht.1]
   refine ⟨[],rfl,?_⟩
   rw [ht.2]
   simp only [List.append_nil]
   exact (hc R G [] hs).mono fun r lv G' ⟨h1,post,h2,h3⟩=>⟨h1,fun e=>(by cases e),hK r post G' h2 h3⟩
end
theorem callS_of_W {P:Program} {gs:List Nat} {f:FuncId} {nt:Nat} {res:List ARes} {c:ACode} {xs:List D} {pre:List As} {Q:AV→List As→Prop} (hm:P.follows .mixedOrders=true) (hf:compile P gs f=some ⟨nt,res,c⟩)
 (h:∀ (R:List As) (G:Gh) (σ:List Hp),Sep (pre ++ R) G→W P c (Hide.mk (a:=endQ res fun r σ' G'=>σ'=σ∧∃ post,Q r post∧Sep (post ++ R) G')) (E (nums 0 (xs.map .d)),HB [],σ,G)):CallS P f xs pre Q :=
 fun R G σ hs=>callT_of_W hm hf (h R G σ hs)
theorem callR_of_W {P:Program} {gs:List Nat} {f:FuncId} {nt:Nat} {res:List ARes} {c:ACode} {xs:List D} {pre:List As} {Q:AV→Prop} (hm:P.follows .mixedOrders=true) (hf:compile P gs f=some ⟨nt,res,c⟩)
 (h:∀ (R:List As) (G:Gh) (σ:List Hp),Sep (pre ++ R) G→W P c (Hide.mk (a:=endQ res fun r σ' G'=>σ'=σ∧G'=G∧Q r)) (E (nums 0 (xs.map .d)),HB [],σ,G)):CallR P f xs pre Q :=
 fun R G σ hs=>callT_of_W hm hf (h R G σ hs)
end Go.E2
/-
 Rows that grow,maps,and walks over maps,as parts that lie apart.
 Conditions: none; definitions and laws.
-/
namespace Go.E2
@[go_sem] theorem Gh.set_set (G:Gh) (b:Nat) (v w:Option (List D)):(G.set b v).set b w=G.set b w:=by
  refine Gh.ext ?_ rfl
  funext i
  simp only [Gh.set_c,upd]
  split<;>rfl
@[go_sem] theorem Gh.setM_setM (G:Gh) (b:Nat) (v w:Option MO):(G.setM b v).setM b w=G.setM b w:=by
  refine Gh.ext rfl ?_
  funext i
  simp only [Gh.setM_m,upd]
  split<;>rfl
def rCons (v:Option AV) (vs:Option (List D)):Option (List D):=match v,vs with|some v,some vs=>(match v.data with|some x=>some (x::vs)|none=>none)|_,_=>none
def rTmp (v:AV):Option AV:=match v with|.d x=>some (.d x)|.own sz es=>some (.own sz es)|_=>none
def rCell (agg:Bool) (n:Nat) (lv:List Hp) (G:Gh) (v:AV):Option AV:=match v with
 | .ptr k s g off=>vCells agg n (blk lv k s g) off
 | .d (.gp b off)=>vCells agg n (G b) off
 | _=>none
@[go_sem] theorem rCons_d (x:D) (vs:List D):rCons (some (.d x)) (some vs)=some (x::vs):=rfl
@[go_sem] theorem rCons_own (sz:Nat) (es:List D) (vs:List D):rCons (some (.own sz es)) (some vs)=some (.list es::vs):=rfl
@[go_sem] theorem rTmp_d (x:D):rTmp (.d x)=some (.d x):=rfl
@[go_sem] theorem rTmp_own (sz:Nat) (es:List D):rTmp (.own sz es)=some (.own sz es):=rfl
@[go_sem] theorem rCell_ptr (agg:Bool) (n k s g off:Nat) (lv:List Hp) (G:Gh):rCell agg n lv G (.ptr k s g off)=vCells agg n (blk lv k s g) off:=rfl
@[go_sem] theorem rCell_gp (agg:Bool) (n b off:Nat) (lv:List Hp) (G:Gh):rCell agg n lv G (.d (.gp b off))=vCells agg n (G b) off:=rfl
@[go_sem] theorem resOne_tmp (ρ:Env) (lv:List Hp) (G:Gh) (t:Nat):resOne ρ lv G (.tmp t)=rTmp (ρ t):=by
  simp only [resOne,rTmp]; cases ρ t<;>rfl
@[go_sem] theorem resOne_cell (ρ:Env) (lv:List Hp) (G:Gh) (t n:Nat) (agg:Bool):resOne ρ lv G (.cell t agg n)=rCell agg n lv G (ρ t):=by
  simp only [resOne,rCell,vCells]; cases ρ t with
  | d x=>cases x<;>rfl
  | _=>rfl
@[go_sem] theorem resAll_nil (ρ:Env) (lv:List Hp) (G:Gh):resAll ρ lv G []=some []:=rfl
@[go_sem] theorem resAll_cons (ρ:Env) (lv:List Hp) (G:Gh) (r:ARes) (rs:List ARes):resAll ρ lv G (r::rs)=rCons (resOne ρ lv G r) (resAll ρ lv G rs):=by
  simp only [resAll,rCons]
  cases resOne ρ lv G r with
  | none=>rfl
  | some v=>cases resAll ρ lv G rs with
    | none=>rfl
    | some vs=>cases v.data<;>rfl
@[go_sem] theorem fin_one (ρ:Env) (lv:List Hp) (G:Gh) (r:ARes):fin [r] ρ lv G=resOne ρ lv G r:=rfl
@[go_sem] theorem fin_nil (ρ:Env) (lv:List Hp) (G:Gh):fin [] ρ lv G=some (.tup []):=rfl
@[go_sem] theorem fin_two (ρ:Env) (lv:List Hp) (G:Gh) (r r':ARes) (rs:List ARes):fin (r::r'::rs) ρ lv G=(resAll ρ lv G (r::r'::rs)).map .tup:=rfl
def SlA (sz:Nat) (x:D) (es:List D):As:=fun G=>GV sz G x es
theorem GV.sub {sz:Nat} {G G':Gh} {x:D} {es:List D} (h:GV sz G x es) (hs:GSub G G'):GV sz G' x es:=by
 cases h with
 | nil=>exact .nil
 | row b cap es cs hb hr=>exact .row b cap es cs (hs.c _ _ hb) hr
theorem Sep.gv {sz:Nat} {x:D} {es:List D} {R:List As} {G:Gh} (h:Sep (SlA sz x es::R) G):GV sz G x es:=by
 obtain ⟨G1,h1,h2⟩:=h.head
 exact h2.sub h1
theorem Sep.grow {sz sz':Nat} {x x':D} {es es':List D} {R:List As} {G G':Gh} (h:Sep (SlA sz x es::R) G) (ht:GTo x x' G G') (hv:GV sz' G' x' es'):Sep (SlA sz' x' es'::R) G':=by
 obtain ⟨G1,G2,h1,h2,h3,h4,h5⟩:=h
 have hx:∀ b c,G2.c b=some c→∀ o n k,x ≠ .gs b o n k:=by
  rintro b c hb o n k rfl
  cases h4 with
  | row b cap es cs hb1 hr=>have:=h3.c b; rw [hb,hb1] at this; simp at this
 have hs2:GSub G2 G':=⟨fun b c hb=>ht.fr b c (h2.c _ _ hb) (hx b c hb),fun b o hb=>by rw [ht.m]; exact h2.m _ _ hb⟩
 cases hv with
 | nil=>exact ⟨noGh,G2,⟨fun _ _ e=>(by cases e),fun _ _ e=>(by cases e)⟩,hs2,⟨fun _=>.inl rfl,fun _=>.inl rfl⟩,GV.nil,h5⟩
 | row b cap es' cs hb hr =>
  have hn:G2.c b=none:=by
   cases e:G2.c b with
   | none=>rfl
   | some c=>exact absurd rfl (ht.sep b c (h2.c _ _ e) (hx b c e) 0 es'.length cap)
  refine ⟨noGh.set b (some cs),G2,⟨fun i v e=>?_,fun _ _ e=>(by cases e)⟩,hs2,⟨fun i=>?_,fun _=>.inl rfl⟩,GV.row b cap es' cs (by simp [upd]) hr,h5⟩
  · simp only [Gh.set_c,upd] at e
    split at e
    · rename_i hi; subst hi; rw [hb]; exact e
    · cases e
  · simp only [Gh.set_c,upd]
    split
    · rename_i hi; subst hi; exact .inr hn
    · exact .inl rfl
theorem Sep.slNil {sz:Nat} {R:List As} {G:Gh} (h:Sep R G):Sep (SlA sz .nilS []::R) G :=
 ⟨noGh,G,⟨fun _ _ e=>(by cases e),fun _ _ e=>(by cases e)⟩,.refl _,⟨fun _=>.inl rfl,fun _=>.inl rfl⟩,.nil,h⟩
section
variable {α β:Type} [DecidableEq α]
theorem mdel_none {m:List (α × β)} {a:α} (h:mget m a=none):mdel m a=m:=by
 induction m with
 | nil=>rfl
 | cons p m ih =>
  simp only [mget] at h
  simp only [mdel]
  split at h
  · cases h
  · rename_i e; rw [if_neg e,ih h]
end
section
variable {α β:Type} [DecidableEq α] {ks:List Kd} {emb:α→D} {vf:β→D} {G:Gh} {r it:Nat} {m:List (α × β)} {sn:List α}
def RngL (ks:List Kd) (emb:α→D) (vf:β→D) (G:Gh) (r it:Nat) (m:List (α × β)) (sn:List α):Prop :=
 KeyE ks emb∧∃ es clock since seen last,G.m r=some (.map es clock)∧EntsOk emb vf es m∧(∀ e ∈ es,e.b < clock)∧(es.map (·.b)).Nodup∧(m.map (·.1)).Nodup ∧
  G.m it=some (.iter (some r) since seen last)∧(∀ e ∈ es,e.b < since)∧since≤last∧last≤clock∧∀ e ∈ es,∀ a,e.k=emb a→(e.b ∈ seen↔a ∈ sn)
theorem KeyE.inj (h:KeyE ks emb) {a b:α} (e:emb a=emb b):a=b:=by
 have:=h.eq a b
 rw [e,h.eq b b] at this
 simpa using this
theorem RngL.of {G':Gh} (h:RngL ks emb vf G r it m sn) (e1:G'.m r=G.m r) (e2:G'.m it=G.m it):RngL ks emb vf G' r it m sn:=by
 obtain ⟨h1,es,cl,s,sn',la,h2,h3,h4,h5,h6,h7,h8⟩:=h
 exact ⟨h1,es,cl,s,sn',la,by rw [e1,h2],h3,h4,h5,h6,by rw [e2,h7],h8⟩
theorem RngL.set (h:RngL ks emb vf G r it m sn) {b:Nat} {v:Option (List D)}:RngL ks emb vf (G.set b v) r it m sn:=h.of rfl rfl
theorem RngL.ne (h:RngL ks emb vf G r it m sn):it ≠ r:=by
 obtain ⟨_,_,_,_,_,_,h2,_,_,_,_,h7,_⟩:=h
 rintro rfl; rw [h2] at h7; cases h7
variable {R:AV→Gh→Prop} {hd:Hide R}
theorem RngL.delete (h:RngL ks emb vf G r it m sn) (a:α):∃ M,gdD (.mdel ks) [.mref r,emb a] G=some (.tup [],G.setM r (some M))∧RngL ks emb vf (G.setM r (some M)) r it (mdel m a) sn:=by
 have hne:=h.ne
 obtain ⟨k1,es,cl,since,seen,last,k2,k3,k4,k5,k6,k7,k8,k9,k10,k11⟩:=h
 have hmp:mapAt G (.mref r)=some (es,cl):=by simp only [mapAt,k2]
 rcases mfind_eq k1 a 0 k3 with ⟨e1,e2⟩|⟨j,v,hj,e1,e2,_,e4⟩
 · refine ⟨.map es cl,by simp only [gdD,hmp,k1.keyOk a,e2],k1,es,cl,since,seen,last,by simp [upd],by rw [mdel_none e1]; exact k3,k4,k5,by rw [mdel_none e1]; exact k6,by rw [Gh.setM_m,upd_off hne,k7],k8,k9,k10,k11⟩
 · refine ⟨.map (es.eraseIdx j) cl,by simp only [gdD,hmp,k1.keyOk a,e2,Nat.zero_add],k1,es.eraseIdx j,cl,since,seen,last,by simp [upd],e4,fun e he=>k4 e (List.mem_of_mem_eraseIdx he),?_,mdel_nodup k6 a,by rw [Gh.setM_m,upd_off hne,k7],fun e he=>k8 e (List.mem_of_mem_eraseIdx he),k9,k10,fun e he=>k11 e (List.mem_of_mem_eraseIdx he)⟩
   exact k5.sublist ((List.eraseIdx_sublist es j).map _)
end
end Go.E2
/-
 The rules for an operation that must leave as it is what is read beside it.
 Conditions: none; definitions and laws.
-/
namespace Go.E2
def wK (ls:List RL) (ρ:Env) (σ:List Hp) (G:Gh) (st:St) {p:Prop} (_:Hide p):Prop:=keeps ls ρ σ G st∧p
def vMl (vs:Option (List D)) (ks:List Kd) (z:D) (ok:Bool) (G:Gh):Option AV:=match vs with|some vs=>(gdD (.mlook ks z ok) vs G).map (·.1)|none=>none
@[go_sem] theorem vMl_some (vs:List D) (ks:List Kd) (z:D) (ok:Bool) (G:Gh):vMl (some vs) ks z ok G=(gdD (.mlook ks z ok) vs G).map (·.1):=rfl
@[go_sem] theorem val_ld (agg:Bool) (n:Nat) (x:AO) (ρ:Env) (σ:List Hp) (G:Gh):(RL.ld agg n x).val ρ σ G=vLoad agg n .foreign (noHp::σ) G (ev ρ x):=rfl
@[go_sem] theorem val_mlook (ks:List Kd) (z:D) (ok:Bool) (m k:AO) (ρ:Env) (σ:List Hp) (G:Gh):(RL.mlook ks z ok m k).val ρ σ G=vMl (datas ρ [m,k]) ks z ok G:=by
  simp only [RL.val,vMl]
  cases datas ρ [m,k]<;>rfl
@[go_sem] theorem wK_nil (ρ:Env) (σ:List Hp) (G:Gh) (st:St) {p:Prop} (h:Hide p):wK [] ρ σ G st h=p:=by
  simp [wK,keeps]
@[go_sem] theorem wK_cons (r:RL) (ls:List RL) (ρ:Env) (σ:List Hp) (G:Gh) (ρ':Env) (L':Hp) (σ':List Hp) (G':Gh) {p:Prop} (h:Hide p):wK (r::ls) ρ σ G (ρ',L',σ',G') h=wP (r.val ρ' σ' G'=r.val ρ σ G) (Hide.mk (a:=wK ls ρ σ G (ρ',L',σ',G') h)):=by
  simp only [wK,keeps,wP,List.mem_cons,forall_eq_or_imp,and_assoc]
@[go_sem] theorem gdD_s2a (n b off len cap:Nat) (G:Gh) (h:n≤len):gdD (.s2a n) [.gs b off len cap] G=some (.d (.gp b off),G):=by simp only [gdD,h,if_true]
@[go_sem] theorem gdD_arr1 (sz n b off:Nat) (k:IntKind) (l:Int) (G:Gh) (h0:0≤l) (h1:l < n):gdD (.arrS sz n true false false) [.gp b off,.int k l] G=some (.d (.gs b (off + l.toNat * sz) (n - l.toNat) (n - l.toNat)),G):=by
  have e:optI true 0 [.int k l]=some (l,[]):=rfl
  have e2:optI false n []=some ((n:Int),[]):=rfl
  simp only [gdD,e,e2]
  rw [if_pos ⟨h0,by omega,by omega,by omega⟩,if_neg (by omega)]
  simp
@[go_sem] theorem gdD_arr2 (sz n b off:Nat) (k k':IntKind) (l h:Int) (G:Gh) (h0:0≤l) (h1:l < n) (h2:l≤h) (h3:h≤n):gdD (.arrS sz n true true false) [.gp b off,.int k l,.int k' h] G=some (.d (.gs b (off + l.toNat * sz) (h.toNat - l.toNat) (n - l.toNat)),G):=by
  have e:optI true 0 [.int k l,.int k' h]=some (l,[.int k' h]):=rfl
  have e2:optI true n [.int k' h]=some (h,[]):=rfl
  have e3:optI false n []=some ((n:Int),[]):=rfl
  simp only [gdD,e,e2,e3]
  rw [if_pos ⟨h0,h2,by omega,by omega⟩,if_neg (by omega)]
  simp
@[go_sem] theorem gdD_arr3 (sz n b off:Nat) (k':IntKind) (h:Int) (G:Gh) (h0:0≤h) (h3:h≤n):gdD (.arrS sz n false true false) [.gp b off,.int k' h] G=some (.d (.gs b off h.toNat n),G):=by
  have e:optI false 0 [.int k' h]=some (((0:Nat):Int),[.int k' h]):=rfl
  have e2:optI true n [.int k' h]=some (h,[]):=rfl
  have e3:optI false n []=some ((n:Int),[]):=rfl
  simp only [gdD,e,e2,e3]
  rw [if_pos ⟨by omega,by omega,by omega,by omega⟩]
  simp
section
variable {P:Program} {os:List AI} {l:List (Nat × AV)} {L:Hp} {σ:List Hp} {G:Gh} {K:St→Prop}
theorem regW_kp {d:Option Nat} {ls:List RL} {op:AOp} (hn:∀ ls' op',op ≠ .kp ls' op'):regW P (⟨d,.kp ls op,none⟩::os) (E l) L σ G K=regW P [⟨d,op,none⟩] (E l) L σ G (fun st=>wK ls (E l) σ G st (Hide.mk (a:=regW P os st.1 st.2.1 st.2.2.1 st.2.2.2 K))):=by
 simp only [regW,stepI,stepRun,wK,eq_iff_iff]
 cases op with
 | kp ls' op'=>exact absurd rfl (hn _ _)
 | _=>exact Iff.rfl
@[go_sem ↓] theorem regW_kp_call {d:Option Nat} {ls:List RL} {f:AO} {as:List AO} {q:Nat}:regW P (⟨d,.kp ls (.call f as q),none⟩::os) (E l) L σ G K=regW P [⟨d,.call f as q,none⟩] (E l) L σ G (fun st=>wK ls (E l) σ G st (Hide.mk (a:=regW P os st.1 st.2.1 st.2.2.1 st.2.2.2 K))):=regW_kp (by intros; simp)
@[go_sem ↓] theorem regW_kp_appG {d:Option Nat} {ls:List RL} {a b:Nat} {z:List D} {x y:AO}:regW P (⟨d,.kp ls (.appG a b z x y),none⟩::os) (E l) L σ G K=regW P [⟨d,.appG a b z x y,none⟩] (E l) L σ G (fun st=>wK ls (E l) σ G st (Hide.mk (a:=regW P os st.1 st.2.1 st.2.2.1 st.2.2.2 K))):=regW_kp (by intros; simp)
@[go_sem ↓] theorem regW_kp_appZ {d:Option Nat} {ls:List RL} {a b:Nat} {z:List D} {x y:AO}:regW P (⟨d,.kp ls (.appZ a b z x y),none⟩::os) (E l) L σ G K=regW P [⟨d,.appZ a b z x y,none⟩] (E l) L σ G (fun st=>wK ls (E l) σ G st (Hide.mk (a:=regW P os st.1 st.2.1 st.2.2.1 st.2.2.2 K))):=regW_kp (by intros; simp)
@[go_sem ↓] theorem regW_kp_store {d:Option Nat} {ls:List RL} {n:Nat} {a v:AO} {r:Root}:regW P (⟨d,.kp ls (.store n a v r),none⟩::os) (E l) L σ G K=regW P [⟨d,.store n a v r,none⟩] (E l) L σ G (fun st=>wK ls (E l) σ G st (Hide.mk (a:=regW P os st.1 st.2.1 st.2.2.1 st.2.2.2 K))):=regW_kp (by intros; simp)
@[go_sem ↓] theorem regW_kp_copy {d:Option Nat} {ls:List RL} {n:Nat} {x y:AO}:regW P (⟨d,.kp ls (.copy n x y),none⟩::os) (E l) L σ G K=regW P [⟨d,.copy n x y,none⟩] (E l) L σ G (fun st=>wK ls (E l) σ G st (Hide.mk (a:=regW P os st.1 st.2.1 st.2.2.1 st.2.2.2 K))):=regW_kp (by intros; simp)
@[go_sem ↓] theorem regW_kp_gd {d:Option Nat} {ls:List RL} {k:GD} {as:List AO}:regW P (⟨d,.kp ls (.gd k as),none⟩::os) (E l) L σ G K=regW P [⟨d,.gd k as,none⟩] (E l) L σ G (fun st=>wK ls (E l) σ G st (Hide.mk (a:=regW P os st.1 st.2.1 st.2.2.1 st.2.2.2 K))):=regW_kp (by intros; simp)
@[go_sem ↓] theorem regW_kp_gn {d:Option Nat} {ls:List RL} {k:GN} {as:List AO}:regW P (⟨d,.kp ls (.gn k as),none⟩::os) (E l) L σ G K=regW P [⟨d,.gn k as,none⟩] (E l) L σ G (fun st=>wK ls (E l) σ G st (Hide.mk (a:=regW P os st.1 st.2.1 st.2.2.1 st.2.2.2 K))):=regW_kp (by intros; simp)
@[go_sem ↓] theorem regW_kp_mkG {d:Option Nat} {ls:List RL} {a n:Nat} {z:D} {ps:List (Nat × AO)}:regW P (⟨d,.kp ls (.mkG a n z ps),none⟩::os) (E l) L σ G K=regW P [⟨d,.mkG a n z ps,none⟩] (E l) L σ G (fun st=>wK ls (E l) σ G st (Hide.mk (a:=regW P os st.1 st.2.1 st.2.2.1 st.2.2.2 K))):=regW_kp (by intros; simp)
end
end Go.E2
/-
 Steps of a proof as laws whose last premise is found by itself.
 Conditions: none; laws.
-/
namespace Go.E2
variable {P:Program} {K:St→Prop} {ρ:Env} {L:Hp} {σ:List Hp} {G:Gh}
theorem nn {a b:Prop} (x:a) (y:b):a∧b:=⟨x,y⟩
theorem goS {p q F:Prop} (f:F) (hq:q) (h:F→q→p:=by intro f hq; simp -dsimp (disch:=first|omega|(simp only [go_sem]; omega)) only [go_sem,seval,Nat.reduceEqDiff,Nat.reduceLeDiff,f]; exact hq):p:=h f hq
theorem goR {p q F:Prop} (f:F) (hq:q) (h:F→q→p:=by
 intro f hq
 repeat (first|(with_reducible first|refine W.seq ?_|refine W.block ?_|refine W.scope ?_)|((with_reducible first|refine W.reg ?_|refine W.skip ?_|refine W.exit ?_|refine W.ret ?_|refine W.ifc ?_); simp -dsimp (disch:=first|omega|(simp only [go_sem]; omega)) only [go_sem,seval,Nat.reduceEqDiff,Nat.reduceLeDiff,f]))
 exact hq):p:=h f hq
theorem goM {d:Option Nat} {f:AO} {args:List AO} {g:FuncId} {xs:List D} {pre R:List As} {Q:AV→List As→Prop} {q:Nat} {h:Hide K}
 (hc:CallS P g xs pre Q) (hs:Sep (pre ++ R) G) (hK:∀ r post G',Q r post→Sep (post ++ R) G'→K (put ρ d r,L,σ,G')) (hq:q=0∨q=2:=by decide)
 (ht:target (ev ρ f)=some (g,[])∧datas ρ args=some xs:=by simp -dsimp (disch:=first|omega|(simp only [go_sem]; omega)) only [go_sem,seval,Nat.reduceEqDiff,Nat.reduceLeDiff]<;>rfl):wC P d f args q ρ L σ G h:=wC_sq hc hs hq ht hK
theorem goQ {d:Option Nat} {f:AO} {args:List AO} {q:Nat} {g:FuncId} {xs:List D} {v:AV} {h:Hide K}
 (hc:CallQ P g xs G (·=v)) (hK:K (put ρ d v,L,σ,G)) (ht:target (ev ρ f)=some (g,[])∧datas ρ args=some xs:=by simp -dsimp (disch:=first|omega|(simp only [go_sem]; omega)) only [go_sem,seval,Nat.reduceEqDiff,Nat.reduceLeDiff]<;>rfl):wC P d f args q ρ L σ G h:=wC_Q hc ht fun r e=>by rw [e]; exact hK
theorem goC {d:Option Nat} {f:AO} {args:List AO} {q:Nat} {g:FuncId} {xs:List D} {v:AV} {h:Hide K}
 (hc:CallP P g xs (·=v)) (hK:K (put ρ d v,L,σ,G)) (ht:target (ev ρ f)=some (g,[])∧datas ρ args=some xs:=by simp -dsimp (disch:=first|omega|(simp only [go_sem]; omega)) only [go_sem,seval,Nat.reduceEqDiff,Nat.reduceLeDiff]<;>rfl):wC P d f args q ρ L σ G h:=wC_P hc ht fun r e=>by rw [e]; exact hK
theorem stle {l l':List (Nat × AV)} {L:Hp} {σ:List Hp} {G:Gh} (h:∀ p ∈ l',VLe (E l p.1) p.2:=by
 simp -dsimp (disch:=first|omega|(simp only [go_sem]; omega)) only [go_sem,seval,Nat.reduceEqDiff,Nat.reduceLeDiff]<;>((repeat' apply And.intro)<;>first|exact VLe.refl _|(apply vle_int; omega)|(apply vle_int; simp; done)|exact VLe.own _ _|exact VLe.nilown _|exact VLe.norm _)):StLe (E l,L,σ,G) (E l',L,σ,G):=st_le h
theorem stleB {l l':List (Nat × AV)} {h h':List (Nat × Blk)} {σ:List Hp} {G:Gh} (hb:HB h=HB h') (he:∀ p ∈ l',VLe (E l p.1) p.2:=by
 simp -dsimp (disch:=first|omega|(simp only [go_sem]; omega)) only [go_sem,seval,Nat.reduceEqDiff,Nat.reduceLeDiff]<;>((repeat' apply And.intro)<;>first|exact VLe.refl _|(apply vle_int; omega)|(apply vle_int; simp; done)|exact VLe.own _ _|exact VLe.nilown _|exact VLe.norm _)):StLe (E l,HB h,σ,G) (E l',HB h',σ,G):=st_leB he hb
end Go.E2
/-
 Runs that part at tests,as laws whose last premise is found by itself.
 Conditions: none; laws.
-/
namespace Go.E2
variable {P:Program} {K:St→Prop} {ρ:Env} {L:Hp} {σ:List Hp} {G:Gh}
structure Br (a b:Prop) (q1:a→Prop) (q2:b→Prop):Prop where
 l:∀ h,q1 h
 r:∀ h,q2 h
theorem wX {p:Prop} [Decidable p] {k1 k2:Prop} {q1:p→Prop} {q2:¬ p→Prop} {i1:Hide k1} {i2:Hide k2} (hq:Br p (¬ p) q1 q2) (h1:∀ h:p,p=True→q1 h→k1) (h2:∀ h:¬ p,p=False→q2 h→k2):wG (.d (.bool (decide p))) true i1 i2 :=
 wG_dec (fun h=>h1 h (eq_true h) (hq.l h)) (fun h=>h2 h (eq_false h) (hq.r h))
theorem wXF {p:Prop} [Decidable p] {k1 k2:Prop} {q1:¬ p→Prop} {q2:p→Prop} {i1:Hide k1} {i2:Hide k2} (hq:Br (¬ p) p q1 q2) (h1:∀ h:¬ p,p=False→q1 h→k1) (h2:∀ h:p,p=True→q2 h→k2):wG (.d (.bool (decide p))) false i1 i2 :=
 wG_decF (fun h=>h1 h (eq_false h) (hq.l h)) (fun h=>h2 h (eq_true h) (hq.r h))
theorem goX {p F:Prop} {q:F→Prop} (f:F) (hq:q f) (h:∀ f:F,q f→p:=by
 intro f hq
 repeat' (first
  | (with_reducible first|refine W.seq ?_|refine W.block ?_|refine W.scope ?_)
  | ((first
      | (with_reducible first|refine W.reg ?_|refine W.skip ?_|refine W.exit ?_|refine W.ret ?_|refine W.ifc ?_)
      | ((with_reducible first|apply wX hq|apply wXF hq)<;>(try (intro _ hG hq; show (_:Prop); (try simp -dsimp only [hG,decide_true,decide_false,not_true_eq_false,not_false_eq_true]); clear hG))))
     <;> (try simp -dsimp (disch:=first|omega|(simp only [go_sem]; omega)) only [go_sem,seval,Nat.reduceEqDiff,Nat.reduceLeDiff,f]))
  | simp -dsimp (disch:=first|omega|(simp only [go_sem]; omega)) only [go_sem,seval,Nat.reduceEqDiff,Nat.reduceLeDiff,f])
 all_goals exact hq):p:=h f hq
theorem goX1 {p F C1:Prop} {q:F→Prop} (f:F) (c1:C1) (hq:q f) (h:∀ f:F,C1→q f→p:=by
 intro f c1 hq
 repeat' (first
  | (with_reducible first|refine W.seq ?_|refine W.block ?_|refine W.scope ?_)
  | ((first
      | (with_reducible first|refine W.reg ?_|refine W.skip ?_|refine W.exit ?_|refine W.ret ?_|refine W.ifc ?_)
      | refine goC c1 ?_|refine goQ c1 ?_
      | ((with_reducible first|apply wX hq|apply wXF hq)<;>(try (intro _ hG hq; show (_:Prop); (try simp -dsimp only [hG,decide_true,decide_false,not_true_eq_false,not_false_eq_true]); clear hG))))
     <;> (try simp -dsimp (disch:=first|omega|(simp only [go_sem]; omega)) only [go_sem,seval,Nat.reduceEqDiff,Nat.reduceLeDiff,f]))
  | simp -dsimp (disch:=first|omega|(simp only [go_sem]; omega)) only [go_sem,seval,Nat.reduceEqDiff,Nat.reduceLeDiff,f])
 all_goals exact hq):p:=h f c1 hq
theorem goX2 {p F C1 C2:Prop} {q:F→Prop} (f:F) (c1:C1) (c2:C2) (hq:q f) (h:∀ f:F,C1→C2→q f→p:=by
 intro f c1 c2 hq
 repeat' (first
  | (with_reducible first|refine W.seq ?_|refine W.block ?_|refine W.scope ?_)
  | ((first
      | (with_reducible first|refine W.reg ?_|refine W.skip ?_|refine W.exit ?_|refine W.ret ?_|refine W.ifc ?_)
      | refine goC c1 ?_|refine goQ c1 ?_|refine goC c2 ?_|refine goQ c2 ?_
      | ((with_reducible first|apply wX hq|apply wXF hq)<;>(try (intro _ hG hq; show (_:Prop); (try simp -dsimp only [hG,decide_true,decide_false,not_true_eq_false,not_false_eq_true]); clear hG))))
     <;> (try simp -dsimp (disch:=first|omega|(simp only [go_sem]; omega)) only [go_sem,seval,Nat.reduceEqDiff,Nat.reduceLeDiff,f]))
  | simp -dsimp (disch:=first|omega|(simp only [go_sem]; omega)) only [go_sem,seval,Nat.reduceEqDiff,Nat.reduceLeDiff,f])
 all_goals exact hq):p:=h f c1 c2 hq
theorem goX3 {p F C1 C2 C3:Prop} {q:F→Prop} (f:F) (c1:C1) (c2:C2) (c3:C3) (hq:q f) (h:∀ f:F,C1→C2→C3→q f→p:=by
 intro f c1 c2 c3 hq
 repeat' (first
  | (with_reducible first|refine W.seq ?_|refine W.block ?_|refine W.scope ?_)
  | ((first
      | (with_reducible first|refine W.reg ?_|refine W.skip ?_|refine W.exit ?_|refine W.ret ?_|refine W.ifc ?_)
      | refine goC c1 ?_|refine goQ c1 ?_|refine goC c2 ?_|refine goQ c2 ?_|refine goC c3 ?_|refine goQ c3 ?_
      | ((with_reducible first|apply wX hq|apply wXF hq)<;>(try (intro _ hG hq; show (_:Prop); (try simp -dsimp only [hG,decide_true,decide_false,not_true_eq_false,not_false_eq_true]); clear hG))))
     <;> (try simp -dsimp (disch:=first|omega|(simp only [go_sem]; omega)) only [go_sem,seval,Nat.reduceEqDiff,Nat.reduceLeDiff,f]))
  | simp -dsimp (disch:=first|omega|(simp only [go_sem]; omega)) only [go_sem,seval,Nat.reduceEqDiff,Nat.reduceLeDiff,f])
 all_goals exact hq):p:=h f c1 c2 c3 hq
theorem goX4 {p F C1 C2 C3 C4:Prop} {q:F→Prop} (f:F) (c1:C1) (c2:C2) (c3:C3) (c4:C4) (hq:q f) (h:∀ f:F,C1→C2→C3→C4→q f→p:=by
 intro f c1 c2 c3 c4 hq
 repeat' (first
  | (with_reducible first|refine W.seq ?_|refine W.block ?_|refine W.scope ?_)
  | ((first
      | (with_reducible first|refine W.reg ?_|refine W.skip ?_|refine W.exit ?_|refine W.ret ?_|refine W.ifc ?_)
      | refine goC c1 ?_|refine goQ c1 ?_|refine goC c2 ?_|refine goQ c2 ?_|refine goC c3 ?_|refine goQ c3 ?_|refine goC c4 ?_|refine goQ c4 ?_
      | ((with_reducible first|apply wX hq|apply wXF hq)<;>(try (intro _ hG hq; show (_:Prop); (try simp -dsimp only [hG,decide_true,decide_false,not_true_eq_false,not_false_eq_true]); clear hG))))
     <;> (try simp -dsimp (disch:=first|omega|(simp only [go_sem]; omega)) only [go_sem,seval,Nat.reduceEqDiff,Nat.reduceLeDiff,f]))
  | simp -dsimp (disch:=first|omega|(simp only [go_sem]; omega)) only [go_sem,seval,Nat.reduceEqDiff,Nat.reduceLeDiff,f])
 all_goals exact hq):p:=h f c1 c2 c3 c4 hq
end Go.E2
/-
 Rules for functions with their first arguments (method values).
 Conditions: none; laws.
-/
namespace Go.E2
@[go_sem] theorem gdD_bnd (f:FuncId) (ds:List D) (G:Gh):gdD (.bnd f) ds G=if ds.all D.one=true then some (.d (.bnd f ds),G) else none:=by simp only [gdD]
@[go_sem] theorem gdD_pnil2b (neg:Bool) (f:FuncId) (ds:List D) (G:Gh):gdD (.pnil 2 neg) [.bnd f ds] G=some (.d (.bool neg),G):=rfl
section
variable {P:Program} {K:St→Prop} {ρ:Env} {L:Hp} {σ:List Hp} {G:Gh} {d:Option Nat} {f:AO} {args:List AO} {q:Nat} {g:FuncId} {xs vs:List D}
theorem wC_bT {Q:AV→Gh→Prop} {h:Hide K} (hc:∀ σ,CallT P g ((xs ++ vs).map .d) σ G fun r σ' G'=>σ'=σ∧Q r G') (hx:q=1∨q=3→∀ r G',Q r G'→GExt G G') (hf:ev ρ f=.d (.bnd g xs)) (hd:datas ρ args=some vs)
 (hK:∀ r G',Q r G'→K (put ρ d r,L,σ,G')):wC P d f args q ρ L σ G h:=by
 show callW P d f args q ρ L σ G K
 unfold callW
 rw [hf]
 simp only [target,yldW,hd]
 split
 · exact (hc _).mono fun r lv G' ⟨h1,h3⟩=>by subst h1; exact hK r G' h3
 · exact (hc _).mono fun r lv G' ⟨h1,h3⟩=>by subst h1; exact ⟨rfl,fun e=>hx e _ _ h3,hK r G' h3⟩
theorem wC_bP {Q:AV→Prop} {h:Hide K} (hc:CallP P g (xs ++ vs) Q) (ht:ev ρ f=.d (.bnd g xs)∧datas ρ args=some vs) (hK:∀ r,Q r→K (put ρ d r,L,σ,G)):wC P d f args q ρ L σ G h :=
 wC_bT (Q:=fun r G'=>G'=G∧Q r) (fun σ=>(hc.quiet σ G).mono fun r lv G' ⟨h1,h2,h3⟩=>⟨h1,h2,h3⟩) (fun _ r G' ⟨e,_⟩=>by rw [e]; exact GExt.refl _) ht.1 ht.2 fun r G' ⟨e,h⟩=>by subst e; exact hK r h
theorem goB {v:AV} {h:Hide K} (hc:CallP P g (xs ++ vs) (·=v)) (hK:K (put ρ d v,L,σ,G))
 (ht:ev ρ f=.d (.bnd g xs)∧datas ρ args=some vs:=by simp -dsimp (disch:=first|omega|(simp only [go_sem]; omega)) only [go_sem,seval,Nat.reduceEqDiff,Nat.reduceLeDiff]<;>rfl):wC P d f args q ρ L σ G h:=wC_bP hc ht fun r e=>by rw [e]; exact hK
theorem goK {cs:List D} {v:AV} {h:Hide K} (hc:CallQ P g (vs ++ cs) G (·=v)) (hK:K (put ρ d v,L,σ,G))
 (ht:target (ev ρ f)=some (g,cs.map .d)∧datas ρ args=some vs:=by simp -dsimp (disch:=first|omega|(simp only [go_sem]; omega)) only [go_sem,seval,Nat.reduceEqDiff,Nat.reduceLeDiff]<;>rfl):wC P d f args q ρ L σ G h :=
 callW_qc (Q:=(·=v)) (fun σ=>(hc σ).mono fun r lv G' ⟨h1,h2,h3⟩=>⟨h1,h2,h3⟩) ht.1 ht.2 fun r e=>by rw [e]; exact hK
end
end Go.E2
