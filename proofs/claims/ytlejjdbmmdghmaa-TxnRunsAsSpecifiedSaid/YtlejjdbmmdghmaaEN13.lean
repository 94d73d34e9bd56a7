/-
 zk1 of the blocks that lie apart: what a call changes of its own part,it leaves of all others as it is.
 Conditions: none;definitions and laws.
-/
import Derived.Test.YtlejjdbmmdghmaaEN9
namespace Go.E2
structure zg4 (A B:Gh):Prop where
 c:∀ b v,A.c b=some v→B.c b=some v
 m:∀ b v,A.m b=some v→B.m b=some v
structure zpe (A B:Gh):Prop where
 c:∀ b,A.c b=none∨B.c b=none
 m:∀ b,A.m b=none∨B.m b=none
theorem zg4.refl (A:Gh):zg4 A A:=⟨fun _ _ h=>h,fun _ _ h=>h⟩
theorem zg4.trans {A B C:Gh} (h:zg4 A B) (h':zg4 B C):zg4 A C:=⟨fun b v e=>h'.c b v (h.c b v e),fun b v e=>h'.m b v (h.m b v e)⟩
theorem zg4.none {A B:Gh} (h:zg4 A B) {b:Nat} (e:B.c b=none):A.c b=none:=by
 cases ha:A.c b with
 | none=>rfl
 | some v=>rw [h.c b v ha] at e;cases e
theorem zg4.noneM {A B:Gh} (h:zg4 A B) {b:Nat} (e:B.m b=Option.none):A.m b=Option.none:=by
 cases ha:A.m b with
 | none=>rfl
 | some v=>rw [h.m b v ha] at e;cases e
theorem zpe.symm {A B:Gh} (h:zpe A B):zpe B A:=⟨fun b=>(h.c b).symm,fun b=>(h.m b).symm⟩
theorem zpe.sub {A B A' B':Gh} (h:zpe A B) (ha:zg4 A' A) (hb:zg4 B' B):zpe A' B' :=
 ⟨fun b=>(h.c b).imp ha.none hb.none,fun b=>(h.m b).imp ha.noneM hb.noneM⟩
def Gh.join (A B:Gh):Gh:=⟨fun b=>match A.c b with|some v=>some v|none=>B.c b,fun b=>match A.m b with|some v=>some v|none=>B.m b,by
 obtain ⟨N,h⟩:=A.fin
 obtain ⟨M,h'⟩:=B.fin
 exact ⟨N+M,fun b hb=>⟨by simp only [(h b (by omega)).1];exact (h' b (by omega)).1,by simp only [(h b (by omega)).2];exact (h' b (by omega)).2⟩⟩⟩
theorem zg4.join_l (A B:Gh):zg4 A (A.join B):=⟨fun b v h=>by simp only [Gh.join,h],fun b v h=>by simp only [Gh.join,h]⟩
theorem zg4.join_r {A B:Gh} (h:zpe A B):zg4 B (A.join B) :=
 ⟨fun b v e=>by have:=h.c b;rw [e] at this;simp only [Gh.join,this.resolve_right (by simp),e],fun b v e=>by have:=h.m b;rw [e] at this;simp only [Gh.join,this.resolve_right (by simp),e]⟩
theorem zg4.join {A B C:Gh} (ha:zg4 A C) (hb:zg4 B C):zg4 (A.join B) C :=
 ⟨fun b v e=>by
   simp only [Gh.join] at e
   cases h:A.c b with
   | none=>rw [h] at e;exact hb.c b v e
   | some u=>rw [h] at e;exact ha.c b v (by rw [h];exact e),fun b v e=>by
   simp only [Gh.join] at e
   cases h:A.m b with
   | none=>rw [h] at e;exact hb.m b v e
   | some u=>rw [h] at e;exact ha.m b v (by rw [h];exact e)⟩
theorem zpe.join {A B C:Gh} (ha:zpe A C) (hb:zpe B C):zpe (A.join B) C :=
 ⟨fun b=>by
   simp only [Gh.join]
   cases h:A.c b with
   | none=>exact hb.c b
   | some u=>have:=ha.c b;rw [h] at this;exact .inr (this.resolve_left (by simp)),fun b=>by
   simp only [Gh.join]
   cases h:A.m b with
   | none=>exact hb.m b
   | some u=>have:=ha.m b;rw [h] at this;exact .inr (this.resolve_left (by simp))⟩
abbrev As:=Gh→Prop
def Sep:List As→Gh→Prop
 | [],_=>True
 | A::R,G=>∃ G1 G2,zg4 G1 G∧zg4 G2 G∧zpe G1 G2∧A G1∧Sep R G2
theorem Sep.mono {l:List As} {G G':Gh} (h:Sep l G) (hs:zg4 G G'):Sep l G':=by
 cases l with
 | nil=>trivial
 | cons A R =>
  obtain ⟨G1,G2,h1,h2,h3,h4,h5⟩:=h
  exact ⟨G1,G2,h1.trans hs,h2.trans hs,h3,h4,h5⟩
theorem Sep.tail {A:As} {R:List As} {G:Gh} (h:Sep (A::R) G):Sep R G:=by
 obtain ⟨_,G2,_,h2,_,_,h5⟩:=h
 exact h5.mono h2
theorem Sep.head {A:As} {R:List As} {G:Gh} (h:Sep (A::R) G):∃ G1,zg4 G1 G∧A G1:=by
 obtain ⟨G1,_,h1,_,_,h4,_⟩:=h
 exact ⟨G1,h1,h4⟩
theorem Sep.swap {A B:As} {R:List As} {G:Gh} (h:Sep (A::B::R) G):Sep (B::A::R) G:=by
 obtain ⟨G1,G2,h1,h2,h3,h4,G3,G4,k1,k2,k3,k4,k5⟩:=h
 have d14:=h3.sub (.refl _) k2
 exact ⟨G3,G1.join G4,k1.trans h2,h1.join (k2.trans h2),(zpe.join (h3.sub (.refl _) k1) k3.symm).symm,k4,G1,G4,.join_l _ _,.join_r d14,d14,h4,k5⟩
theorem Sep.cons {A:As} {R R':List As} {G:Gh} (h:Sep (A::R) G) (hr:∀ G,Sep R G→Sep R' G):Sep (A::R') G:=by
 obtain ⟨G1,G2,h1,h2,h3,h4,h5⟩:=h
 exact ⟨G1,G2,h1,h2,h3,h4,hr _ h5⟩
theorem Sep.perm {l l':List As} (hp:l.Perm l'):∀ {G:Gh},Sep l G→Sep l' G:=by
 induction hp with
 | nil=>exact fun h=>h
 | cons A _ ih=>exact fun h=>h.cons fun _=>ih
 | swap A B R=>exact fun h=>h.swap
 | trans _ _ ih1 ih2=>exact fun h=>ih2 (ih1 h)
theorem Sep.f3 {A B C:As} {R:List As} {G:Gh} (h:Sep (A::B::C::R) G):Sep (C::A::B::R) G:=(h.cons fun _=>Sep.swap).swap
theorem Sep.f4 {A B C D:As} {R:List As} {G:Gh} (h:Sep (A::B::C::D::R) G):Sep (D::A::B::C::R) G:=(h.cons fun _=>Sep.f3).swap
theorem Sep.b3 {A B C:As} {R:List As} {G:Gh} (h:Sep (A::B::C::R) G):Sep (B::C::A::R) G:=h.swap.cons fun _=>Sep.swap
theorem Sep.b4 {A B C D:As} {R:List As} {G:Gh} (h:Sep (A::B::C::D::R) G):Sep (B::C::D::A::R) G:=h.swap.cons fun _=>Sep.b3
theorem Sep.imp {A B:As} {R:List As} {G:Gh} (h:Sep (A::R) G) (hab:∀ G,A G→B G):Sep (B::R) G:=by
 obtain ⟨G1,G2,h1,h2,h3,h4,h5⟩:=h
 exact ⟨G1,G2,h1,h2,h3,hab _ h4,h5⟩
def zz5 (l:List As):As:=Sep l
theorem Sep.app:∀ {l R:List As} {G:Gh},Sep (zz5 l::R) G→Sep (l++R) G
 | [],R,G,h=>h.tail
 | A::l,R,G,h=>by
   obtain ⟨G1,G2,h1,h2,h3,⟨G3,G4,k1,k2,k3,k4,k5⟩,h5⟩:=h
   have d42:=h3.sub k2 (.refl _)
   refine ⟨G3,G4.join G2,k1.trans h1,(k2.trans h1).join h2,(zpe.join k3.symm (h3.sub k1 (.refl _)).symm).symm,k4,?_⟩
   exact Sep.app ⟨G4,G2,.join_l _ _,.join_r d42,d42,k5,h5⟩
theorem Sep.of_app:∀ {l R:List As} {G:Gh},Sep (l++R) G→Sep (zz5 l::R) G
 | [],R,G,h=>⟨zdi,G,⟨fun _ _ e=>(by cases e),fun _ _ e=>(by cases e)⟩,.refl _,⟨fun _=>.inl rfl,fun _=>.inl rfl⟩,trivial,h⟩
 | A::l,R,G,h=>by
   obtain ⟨G3,G',k1,k2,k3,k4,k5⟩:=h
   obtain ⟨G4,G2,j1,j2,j3,j4,j5⟩:=Sep.of_app k5
   have d34:=k3.sub (.refl _) j1
   have d32:=k3.sub (.refl _) j2
   exact ⟨G3.join G4,G2,k1.join (j1.trans k2),j2.trans k2,zpe.join d32 j3,⟨G3,G4,.join_l _ _,.join_r d34,d34,k4,j4⟩,j5⟩
theorem Sep.ex {α:Type} {A:α→As} {R:List As} {G:Gh} (h:Sep ((fun G=>∃ x,A x G)::R) G):∃ x,Sep (A x::R) G:=by
 obtain ⟨G1,G2,h1,h2,h3,⟨x,h4⟩,h5⟩:=h
 exact ⟨x,G1,G2,h1,h2,h3,h4,h5⟩
theorem Sep.pure {p:Prop} {A:As} {R:List As} {G:Gh} (h:Sep ((fun G=>p∧A G)::R) G):p∧Sep (A::R) G:=by
 obtain ⟨G1,G2,h1,h2,h3,⟨hp,h4⟩,h5⟩:=h
 exact ⟨hp,G1,G2,h1,h2,h3,h4,h5⟩
def ze (b:Nat) (cs:List D):As:=fun G=>G.c b=some cs
theorem Sep.get {b:Nat} {cs:List D} {R:List As} {G:Gh} (h:Sep (ze b cs::R) G):G.c b=some cs:=by
 obtain ⟨G1,h1,h2⟩:=h.head
 exact h1.c _ _ h2
theorem Sep.set {b:Nat} {cs cs':List D} {R:List As} {G:Gh} (h:Sep (ze b cs::R) G):Sep (ze b cs'::R) (G.set b (some cs')):=by
 obtain ⟨G1,G2,h1,h2,h3,h4,h5⟩:=h
 have hn:G2.c b=none:=(h3.c b).resolve_left (by rw [h4];simp)
 refine ⟨G1.set b (some cs'),G2,⟨fun i v e=>?_,h1.m⟩,⟨fun i v e=>?_,h2.m⟩,⟨fun i=>?_,h3.m⟩,?_,h5⟩
 · rw [Gh.set_c] at e ⊢
   unfold upd at e ⊢
   split
   · rename_i hi;rw [if_pos hi] at e;exact e
   · rename_i hi;rw [if_neg hi] at e;exact h1.c _ _ e
 · rw [Gh.set_c]
   unfold upd
   split
   · rename_i hi;subst hi;rw [hn] at e;cases e
   · exact h2.c _ _ e
 · rw [Gh.set_c]
   unfold upd
   split
   · rename_i hi;subst hi;exact .inr hn
   · exact h3.c i
 · simp [ze,upd]
theorem Sep.new {b:Nat} {cs:List D} {R:List As} {G:Gh} (hb:G.c b=none) (h:Sep R G):Sep (ze b cs::R) (G.set b (some cs)):=by
 refine ⟨zdi.set b (some cs),G,⟨fun i v e=>?_,fun i v e=>(by cases e)⟩,⟨fun i v e=>?_,fun _ _ e=>e⟩,⟨fun i=>?_,fun i=>.inl rfl⟩,by simp [ze,upd],h⟩
 · simp only [Gh.set_c,upd] at e ⊢
   split
   · rename_i hi;rw [if_pos hi] at e;exact e
   · rename_i hi;rw [if_neg hi] at e;cases e
 · simp only [Gh.set_c,upd]
   split
   · rename_i hi;subst hi;rw [hb] at e;cases e
   · exact e
 · simp only [Gh.set_c,upd]
   split
   · rename_i hi;subst hi;exact .inr hb
   · exact .inl rfl
def zsn (r:Nat) (o:MO):As:=fun G=>G.m r=some o
theorem Sep.getM {r:Nat} {o:MO} {R:List As} {G:Gh} (h:Sep (zsn r o::R) G):G.m r=some o:=by
 obtain ⟨G1,h1,h2⟩:=h.head
 exact h1.m _ _ h2
theorem Sep.setM {r:Nat} {o o':MO} {R:List As} {G:Gh} (h:Sep (zsn r o::R) G):Sep (zsn r o'::R) (G.setM r (some o')):=by
 obtain ⟨G1,G2,h1,h2,h3,h4,h5⟩:=h
 have hn:G2.m r=none:=(h3.m r).resolve_left (by rw [h4];simp)
 refine ⟨G1.setM r (some o'),G2,⟨h1.c,fun i v e=>?_⟩,⟨h2.c,fun i v e=>?_⟩,⟨h3.c,fun i=>?_⟩,?_,h5⟩
 · rw [Gh.setM_m] at e ⊢
   unfold upd at e ⊢
   split
   · rename_i hi;rw [if_pos hi] at e;exact e
   · rename_i hi;rw [if_neg hi] at e;exact h1.m _ _ e
 · rw [Gh.setM_m]
   unfold upd
   split
   · rename_i hi;subst hi;rw [hn] at e;cases e
   · exact h2.m _ _ e
 · rw [Gh.setM_m]
   unfold upd
   split
   · rename_i hi;subst hi;exact .inr hn
   · exact h3.m i
 · simp [zsn,upd]
theorem Sep.newM {r:Nat} {o:MO} {R:List As} {G:Gh} (hb:G.m r=none) (h:Sep R G):Sep (zsn r o::R) (G.setM r (some o)):=by
 refine ⟨zdi.setM r (some o),G,⟨fun i v e=>(by cases e),fun i v e=>?_⟩,⟨fun _ _ e=>e,fun i v e=>?_⟩,⟨fun i=>.inl rfl,fun i=>?_⟩,by simp [zsn,upd],h⟩
 · simp only [Gh.setM_m,upd] at e ⊢
   split
   · rename_i hi;rw [if_pos hi] at e;exact e
   · rename_i hi;rw [if_neg hi] at e;cases e
 · simp only [Gh.setM_m,upd]
   split
   · rename_i hi;subst hi;rw [hb] at e;cases e
   · exact e
 · simp only [Gh.setM_m,upd]
   split
   · rename_i hi;subst hi;exact .inr hb
   · exact .inl rfl
theorem zg4.newM {G:Gh} {b:Nat} (hb:G.m b=Option.none) (v:Option MO):zg4 G (G.setM b v) :=
 ⟨fun _ _ e=>e,fun i u e=>by
   simp only [Gh.setM_m,upd]
   split
   · rename_i hi;subst hi;rw [hb] at e;cases e
   · exact e⟩
section
variable {α β:Type} [DecidableEq α] {ks:List Kd} {emb:α→D} {vf:β→D}
def zo2 (ks:List Kd) (emb:α→D) (vf:β→D) (r:Nat) (m:List (α×β)):As:=fun G=>zhz ks emb vf G r m
theorem Sep.map {r:Nat} {m:List (α×β)} {R:List As} {G:Gh} (h:Sep (zo2 ks emb vf r m::R) G):zhz ks emb vf G r m:=by
 obtain ⟨G1,h1,h2⟩:=h.head
 obtain ⟨k1,es,cl,k2,k3⟩:=h2
 exact ⟨k1,es,cl,h1.m _ _ k2,k3⟩
theorem Sep.objm {r:Nat} {m:List (α×β)} {R:List As} {G:Gh} (h:Sep (zo2 ks emb vf r m::R) G):∃ o,Sep (zsn r o::R) G:=by
 obtain ⟨G1,G2,h1,h2,h3,h4,h5⟩:=h
 obtain ⟨k1,es,cl,k2,k3⟩:=h4
 exact ⟨_,G1,G2,h1,h2,h3,k2,h5⟩
theorem Sep.mapO {r:Nat} {o:MO} {m:List (α×β)} {R:List As} {G:Gh} (h:Sep (zsn r o::R) G) (hm:zhz ks emb vf G r m):Sep (zo2 ks emb vf r m::R) G:=by
 have ho:=h.getM
 obtain ⟨k1,es,cl,k2,k3⟩:=hm
 rw [ho] at k2
 cases k2
 exact h.imp fun G1 e=>⟨k1,es,cl,e,k3⟩
theorem Sep.mapSet {r:Nat} {m m':List (α×β)} {R:List As} {G:Gh} {M:MO} (h:Sep (zo2 ks emb vf r m::R) G) (hm:zhz ks emb vf (G.setM r (some M)) r m'):Sep (zo2 ks emb vf r m'::R) (G.setM r (some M)):=by
 obtain ⟨o,ho⟩:=h.objm
 exact Sep.mapO ho.setM hm
theorem Sep.mapNew {r:Nat} {R:List As} {G:Gh} (he:zut ks emb) (hr:G.m r=none) (h:Sep R G):Sep (zo2 ks emb vf r []::R) (G.setM r (some (.map [] 0))) :=
 Sep.mapO (h.newM hr) (zhz.new he)
end
def zy (P:Program) (f:FuncId) (xs:List D) (pre:List As) (Q:AV→List As→Prop):Prop :=
 ∀ (R:List As) (G:Gh) (σ:List Hp),Sep (pre++R) G→zbb P f (xs.map .d) σ G fun r σ' G'=>σ'=σ∧∃ post,Q r post∧Sep (post++R) G'
def zso (P:Program) (f:FuncId) (xs:List D) (pre:List As) (Q:AV→Prop):Prop :=
 ∀ (R:List As) (G:Gh) (σ:List Hp),Sep (pre++R) G→zbb P f (xs.map .d) σ G fun r σ' G'=>σ'=σ∧G'=G∧Q r
def zk3 (P:Program) (f:FuncId) (xs:List D) (G:Gh) (Q:AV→Prop):Prop:=∀ σ,zbb P f (xs.map .d) σ G fun r σ' G'=>σ'=σ∧G'=G∧Q r
theorem zso.q {P:Program} {f:FuncId} {xs:List D} {pre R:List As} {Q:AV→Prop} {G:Gh} (h:zso P f xs pre Q) (hs:Sep (pre++R) G):zk3 P f xs G Q:=fun σ=>h R G σ hs
section
variable {P:Program} {ρ:Env} {L:Hp} {σ:List Hp} {G:Gh} {K:St→Prop}
theorem wC_Q {d:Option Nat} {f:AO} {args:List AO} {q:Nat} {g:FuncId} {xs:List D} {Q:AV→Prop} {h:zu K}
 (hc:zk3 P g xs G Q) (ht:target (ev ρ f)=some (g,[])∧zx ρ args=some xs) (hK:∀ r,Q r→K (put ρ d r,L,σ,G)):wC P d f args q ρ L σ G h :=
 zuj hc ht.1 ht.2 hK
theorem wC_s {d:Option Nat} {f:AO} {args:List AO} {g:FuncId} {xs:List D} {pre R:List As} {Q:AV→List As→Prop} {h:zu K}
 (hc:zy P g xs pre Q) (hs:Sep (pre++R) G) (ht:target (ev ρ f)=some (g,[])∧zx ρ args=some xs)
 (hK:∀ r post G',Q r post→Sep (post++R) G'→K (put ρ d r,L,σ,G')):wC P d f args 0 ρ L σ G h :=
 z95 (cs:=[]) (Q:=fun r G'=>∃ post,Q r post∧Sep (post++R) G') (by simpa using hc R G (L::σ) hs) (by simpa using ht.1) ht.2 fun r G' ⟨post,h1,h2⟩=>hK r post G' h1 h2
theorem z79 {d:Option Nat} {f:AO} {args:List AO} {g:FuncId} {xs:List D} {pre R:List As} {Q:AV→List As→Prop} {q:Nat} {h:zu K}
 (hc:zy P g xs pre Q) (hs:Sep (pre++R) G) (hq:q=0∨q=2) (ht:target (ev ρ f)=some (g,[])∧zx ρ args=some xs)
 (hK:∀ r post G',Q r post→Sep (post++R) G'→K (put ρ d r,L,σ,G')):wC P d f args q ρ L σ G h:=by
 rcases hq with rfl|rfl
 · exact wC_s hc hs ht hK
 · show zdl P d f args 2 ρ L σ G K
   unfold zdl
   rw [ht.1]
   refine ⟨[],rfl,?_⟩
   rw [ht.2]
   simp only [List.append_nil]
   exact (hc R G [] hs).mono fun r lv G' ⟨h1,post,h2,h3⟩=>⟨h1,fun e=>(by cases e),hK r post G' h2 h3⟩
end
theorem zg {P:Program} {gs:List Nat} {f:FuncId} {nt:Nat} {res:List zgl} {c:ACode} {xs:List D} {pre:List As} {Q:AV→List As→Prop} (hm:P.follows .mixedOrders=true) (hf:zf P gs f=some ⟨nt,res,c⟩)
 (h:∀ (R:List As) (G:Gh) (σ:List Hp),Sep (pre++R) G→W P c (zu.mk (a:=zxe res fun r σ' G'=>σ'=σ∧∃ post,Q r post∧Sep (post++R) G')) (E (zqt 0 (xs.map .d)),HB [],σ,G)):zy P f xs pre Q :=
 fun R G σ hs=>zap hm hf (h R G σ hs)
theorem zhu {P:Program} {gs:List Nat} {f:FuncId} {nt:Nat} {res:List zgl} {c:ACode} {xs:List D} {pre:List As} {Q:AV→Prop} (hm:P.follows .mixedOrders=true) (hf:zf P gs f=some ⟨nt,res,c⟩)
 (h:∀ (R:List As) (G:Gh) (σ:List Hp),Sep (pre++R) G→W P c (zu.mk (a:=zxe res fun r σ' G'=>σ'=σ∧G'=G∧Q r)) (E (zqt 0 (xs.map .d)),HB [],σ,G)):zso P f xs pre Q :=
 fun R G σ hs=>zap hm hf (h R G σ hs)
end Go.E2
namespace Go.E2
@[go_sem] theorem Gh.set_set (G:Gh) (b:Nat) (v w:Option (List D)):(G.set b v).set b w=G.set b w:=by
  refine Gh.ext ?_ rfl
  funext i
  simp only [Gh.set_c,upd]
  split<;>rfl
def z3j (v:Option AV) (vs:Option (List D)):Option (List D):=match v,vs with|some v,some vs=>(match v.data with|some x=>some (x::vs)|none=>none)|_,_=>none
def z56 (v:AV):Option AV:=match v with|.d x=>some (.d x)|.own sz es=>some (.own sz es)|_=>none
def zxg (agg:Bool) (n:Nat) (lv:List Hp) (G:Gh) (v:AV):Option AV:=match v with
 | .ptr k s g off=>zbg agg n (blk lv k s g) off
 | .d (.gp b off)=>zbg agg n (G b) off
 | _=>none
@[go_sem] theorem z8a (x:D) (vs:List D):z3j (some (.d x)) (some vs)=some (x::vs):=rfl
@[go_sem] theorem z3k (sz:Nat) (es:List D) (vs:List D):z3j (some (.own sz es)) (some vs)=some (.list es::vs):=rfl
@[go_sem] theorem rTmp_d (x:D):z56 (.d x)=some (.d x):=rfl
@[go_sem] theorem z57 (sz:Nat) (es:List D):z56 (.own sz es)=some (.own sz es):=rfl
@[go_sem] theorem z3l (agg:Bool) (n k s g off:Nat) (lv:List Hp) (G:Gh):zxg agg n lv G (.ptr k s g off)=zbg agg n (blk lv k s g) off:=rfl
@[go_sem] theorem z58 (agg:Bool) (n b off:Nat) (lv:List Hp) (G:Gh):zxg agg n lv G (.d (.gp b off))=zbg agg n (G b) off:=rfl
@[go_sem] theorem z15 (ρ:Env) (lv:List Hp) (G:Gh) (t:Nat):zfe ρ lv G (.tmp t)=z56 (ρ t):=by
  simp only [zfe,z56];cases ρ t<;>rfl
@[go_sem] theorem zz6 (ρ:Env) (lv:List Hp) (G:Gh) (t n:Nat) (agg:Bool):zfe ρ lv G (.cell t agg n)=zxg agg n lv G (ρ t):=by
  simp only [zfe,zxg,zbg];cases ρ t with
  | d x=>cases x<;>rfl
  | _=>rfl
@[go_sem] theorem z16 (ρ:Env) (lv:List Hp) (G:Gh):zev ρ lv G []=some []:=rfl
@[go_sem] theorem z8b (ρ:Env) (lv:List Hp) (G:Gh) (r:zgl):fin [r] ρ lv G=zfe ρ lv G r:=rfl
@[go_sem] theorem z8c (ρ:Env) (lv:List Hp) (G:Gh):fin [] ρ lv G=some (.tup []):=rfl
@[go_sem] theorem z8d (ρ:Env) (lv:List Hp) (G:Gh) (r r':zgl) (rs:List zgl):fin (r::r'::rs) ρ lv G=(zev ρ lv G (r::r'::rs)).map .tup:=rfl
def SlA (sz:Nat) (x:D) (es:List D):As:=fun G=>GV sz G x es
theorem GV.sub {sz:Nat} {G G':Gh} {x:D} {es:List D} (h:GV sz G x es) (hs:zg4 G G'):GV sz G' x es:=by
 cases h with
 | nil=>exact .nil
 | row b cap es cs hb hr=>exact .row b cap es cs (hs.c _ _ hb) hr
theorem Sep.gv {sz:Nat} {x:D} {es:List D} {R:List As} {G:Gh} (h:Sep (SlA sz x es::R) G):GV sz G x es:=by
 obtain ⟨G1,h1,h2⟩:=h.head
 exact h2.sub h1
theorem Sep.grow {sz sz':Nat} {x x':D} {es es':List D} {R:List As} {G G':Gh} (h:Sep (SlA sz x es::R) G) (ht:GTo x x' G G') (hv:GV sz' G' x' es'):Sep (SlA sz' x' es'::R) G':=by
 obtain ⟨G1,G2,h1,h2,h3,h4,h5⟩:=h
 have hx:∀ b c,G2.c b=some c→∀ o n k,x≠.gs b o n k:=by
  rintro b c hb o n k rfl
  cases h4 with
  | row b cap es cs hb1 hr=>have:=h3.c b;rw [hb,hb1] at this;simp at this
 have hs2:zg4 G2 G':=⟨fun b c hb=>ht.fr b c (h2.c _ _ hb) (hx b c hb),fun b o hb=>by rw [ht.m];exact h2.m _ _ hb⟩
 cases hv with
 | nil=>exact ⟨zdi,G2,⟨fun _ _ e=>(by cases e),fun _ _ e=>(by cases e)⟩,hs2,⟨fun _=>.inl rfl,fun _=>.inl rfl⟩,GV.nil,h5⟩
 | row b cap es' cs hb hr =>
  have hn:G2.c b=none:=by
   cases e:G2.c b with
   | none=>rfl
   | some c=>exact absurd rfl (ht.sep b c (h2.c _ _ e) (hx b c e) 0 es'.length cap)
  refine ⟨zdi.set b (some cs),G2,⟨fun i v e=>?_,fun _ _ e=>(by cases e)⟩,hs2,⟨fun i=>?_,fun _=>.inl rfl⟩,GV.row b cap es' cs (by simp [upd]) hr,h5⟩
  · simp only [Gh.set_c,upd] at e
    split at e
    · rename_i hi;subst hi;rw [hb];exact e
    · cases e
  · simp only [Gh.set_c,upd]
    split
    · rename_i hi;subst hi;exact .inr hn
    · exact .inl rfl
theorem Sep.slNil {sz:Nat} {R:List As} {G:Gh} (h:Sep R G):Sep (SlA sz .nilS []::R) G :=
 ⟨zdi,G,⟨fun _ _ e=>(by cases e),fun _ _ e=>(by cases e)⟩,.refl _,⟨fun _=>.inl rfl,fun _=>.inl rfl⟩,.nil,h⟩
section
variable {α β:Type} [DecidableEq α]
theorem znp {m:List (α×β)} {a:α} {v:β} (h:zbo m a=some v):m.Perm ((a,v)::mdel m a):=by
 induction m with
 | nil=>simp [zbo] at h
 | cons p m ih =>
  simp only [zbo] at h
  simp only [mdel]
  split at h
  · rename_i e;cases h;rw [if_pos e];obtain ⟨p1,p2⟩:=p;simp only at e;subst e;exact .refl _
  · rename_i e;rw [if_neg e];exact ((ih h).cons p).trans (.swap _ _ _)
theorem zjt {m:List (α×β)} (a:α) (v:β):(zjz m a v).Perm ((a,v)::mdel m a):=by
 induction m with
 | nil=>exact .refl _
 | cons p m ih =>
  simp only [zjz,mdel]
  split
  · exact .refl _
  · exact (ih.cons p).trans (.swap _ _ _)
theorem ze7 {m:List (α×β)} {a:α} (h:zbo m a=none):mdel m a=m:=by
 induction m with
 | nil=>rfl
 | cons p m ih =>
  simp only [zbo] at h
  simp only [mdel]
  split at h
  · cases h
  · rename_i e;rw [if_neg e,ih h]
theorem zi2 {m:List (α×β)} (hn:(m.map (·.1)).Nodup) {a:α} {p:α×β}:p∈mdel m a↔p∈m∧p.1≠a:=by
 induction m with
 | nil=>simp [mdel]
 | cons q m ih =>
  simp only [List.map_cons,List.nodup_cons] at hn
  simp only [mdel]
  split
  · rename_i e
    constructor
    · intro hp
      refine ⟨List.mem_cons_of_mem _ hp,fun e2=>hn.1 ?_⟩
      rw [e,← e2];exact List.mem_map.2 ⟨p,hp,rfl⟩
    · rintro ⟨hp,hne⟩
      rcases List.mem_cons.1 hp with rfl|hp
      · exact absurd e hne
      · exact hp
  · rename_i e
    rw [List.mem_cons,List.mem_cons,ih hn.2]
    constructor
    · rintro (rfl|⟨h1,h2⟩)
      · exact ⟨.inl rfl,e⟩
      · exact ⟨.inr h1,h2⟩
    · rintro ⟨rfl|h1,h2⟩
      · exact .inl rfl
      · exact .inr ⟨h1,h2⟩
end
section
variable {α β:Type} [DecidableEq α] {ks:List Kd} {emb:α→D} {vf:β→D} {G:Gh} {r it:Nat} {m:List (α×β)} {sn:List α}
def zgt (ks:List Kd) (emb:α→D) (vf:β→D) (G:Gh) (r it:Nat) (m:List (α×β)) (sn:List α):Prop :=
 zut ks emb∧∃ es clock since seen last,G.m r=some (.map es clock)∧zcc emb vf es m∧(∀ e∈es,e.b<clock)∧(es.map (·.b)).Nodup∧(m.map (·.1)).Nodup ∧
  G.m it=some (.iter (some r) since seen last)∧(∀ e∈es,e.b<since)∧since≤last∧last≤clock∧∀ e∈es,∀ a,e.k=emb a→(e.b∈seen↔a∈sn)
theorem zut.inj (h:zut ks emb) {a b:α} (e:emb a=emb b):a=b:=by
 have:=h.eq a b
 rw [e,h.eq b b] at this
 simpa using this
theorem zgt.toMap (h:zgt ks emb vf G r it m sn):zhz ks emb vf G r m:=by
 obtain ⟨h1,es,cl,_,_,_,h2,h3,h4,h5,h6,_⟩:=h
 exact ⟨h1,es,cl,h2,h3,h4,h5,h6⟩
theorem zgt.of {G':Gh} (h:zgt ks emb vf G r it m sn) (e1:G'.m r=G.m r) (e2:G'.m it=G.m it):zgt ks emb vf G' r it m sn:=by
 obtain ⟨h1,es,cl,s,sn',la,h2,h3,h4,h5,h6,h7,h8⟩:=h
 exact ⟨h1,es,cl,s,sn',la,by rw [e1,h2],h3,h4,h5,h6,by rw [e2,h7],h8⟩
theorem zgt.set (h:zgt ks emb vf G r it m sn) {b:Nat} {v:Option (List D)}:zgt ks emb vf (G.set b v) r it m sn:=h.of rfl rfl
theorem zgt.ne (h:zgt ks emb vf G r it m sn):it≠r:=by
 obtain ⟨_,_,_,_,_,_,h2,_,_,_,_,h7,_⟩:=h
 rintro rfl;rw [h2] at h7;cases h7
theorem zgt.nodup (h:zgt ks emb vf G r it m sn):(m.map (·.1)).Nodup:=h.toMap.nodup
omit [DecidableEq α] in
theorem zxh {es:List ME} {m:List (α×β)} (h:zcc emb vf es m) {e:ME} (he:e∈es):∃ p∈m,e.k=emb p.1∧e.v=vf p.2:=by
 have:(e.k,e.v)∈m.map fun p=>(emb p.1,vf p.2):=by rw [← h];exact List.mem_map.2 ⟨e,he,rfl⟩
 obtain ⟨p,hp,e2⟩:=List.mem_map.1 this
 simp only [Prod.mk.injEq] at e2
 exact ⟨p,hp,e2.1.symm,e2.2.symm⟩
omit [DecidableEq α] in
theorem zue {es:List ME} {m:List (α×β)} (h:zcc emb vf es m) {p:α×β} (hp:p∈m):∃ e∈es,e.k=emb p.1∧e.v=vf p.2:=by
 have:(emb p.1,vf p.2)∈es.map fun e=>(e.k,e.v):=by rw [h];exact List.mem_map.2 ⟨p,hp,rfl⟩
 obtain ⟨e,he,e2⟩:=List.mem_map.1 this
 simp only [Prod.mk.injEq] at e2
 exact ⟨e,he,e2.1,e2.2⟩
variable {R:AV→Gh→Prop} {hd:zu R}
theorem zl6 (h:zhz ks emb vf G r m) (hk:∀ it X,G.m it=none→zgt ks emb vf (G.setM it (some X)) r it m []→R (.d (.gp it 0)) (G.setM it (some X))):wGn .rng [.mref r] G hd:=by
 obtain ⟨h1,es,cl,h2,h3,h4,h5,h6⟩:=h
 simp only [wGn,gnW,h2]
 intro it hit
 have hne:r≠it:=by rintro rfl;rw [h2] at hit;cases hit
 refine hk it _ hit ⟨h1,es,cl,cl,[],cl,?_,h3,h4,h5,h6,by simp [upd],h4,Nat.le_refl _,Nat.le_refl _,by simp⟩
 rw [Gh.setM_m,ze8 hne,h2]
theorem zl7 (h:zgt ks emb vf G r it m sn) (h0:(∀ p∈m,p.1∈sn)→R (.tup [.bool false]) G)
 (h1:∀ a v X,(a,v)∈m→a ∉ sn→zgt ks emb vf (G.setM it (some X)) r it m (sn++[a])→gdD .entry [.gp it 0] (G.setM it (some X))=some (.tup [emb a,vf v],G.setM it (some X))→R (.tup [.bool true,emb a,vf v]) (G.setM it (some X))):wGn .nxt [.gp it 0] G hd:=by
 have hne:=h.ne
 obtain ⟨k1,es,cl,since,seen,last,k2,k3,k4,k5,k6,k7,k8,k9,k10,k11⟩:=h
 simp only [wGn,gnW,k7,k2]
 refine ⟨⟨k8,k9⟩,fun ha=>h0 fun p hp=>?_,fun e he hns=>?_⟩
 · obtain ⟨e,he,e1,_⟩:=zue k3 hp
   exact (k11 e he p.1 e1).1 (ha e he)
 · obtain ⟨⟨a,v⟩,hp,e1,e2⟩:=zxh k3 he
   simp only at e1 e2
   rw [e1,e2]
   refine h1 a v _ hp (fun hs=>hns ((k11 e he a e1).2 hs)) ⟨k1,es,cl,since,seen++[e.b],cl,?_,k3,k4,k5,k6,by simp [upd],k8,by omega,Nat.le_refl _,fun e' he' a' ea'=>?_⟩ ?_
   · rw [Gh.setM_m,ze8 hne.symm,k2]
   · rw [List.mem_append,List.mem_append,k11 e' he' a' ea',List.mem_singleton,List.mem_singleton]
     constructor
     · rintro (h|h)
       · exact .inl h
       · right
         have:e'=e:=nodup_map_inj k5 he' he h
         subst this
         rw [e1] at ea'
         exact (k1.inj ea').symm
     · rintro (h|h)
       · exact .inl h
       · right
         subst h
         have:e'=e:=nodup_keys k1 k3 k6 he' he (by rw [ea',e1])
         rw [this]
   · have hf:es.find? (fun x=>x.b == e.b)=some e:=find_born k5 he
     simp only [gdD,Gh.setM_m,zjy,List.getLast?_concat,ze8 hne.symm,k2,if_true,hf,Option.map_some,e1,e2]
where
 nodup_map_inj {es:List ME} (hn:(es.map (·.b)).Nodup) {x y:ME} (hx:x∈es) (hy:y∈es) (e:x.b=y.b):x=y:=by
  obtain ⟨i,hi,rfl⟩:=List.getElem_of_mem hx
  obtain ⟨j,hj,rfl⟩:=List.getElem_of_mem hy
  have:=(List.getElem_inj (h₀:=by simpa using hi) (h₁:=by simpa using hj) hn).1 (by simpa using e)
  subst this;rfl
 nodup_keys {es:List ME} {m:List (α×β)} (k1:zut ks emb) (k3:zcc emb vf es m) (hn:(m.map (·.1)).Nodup) {x y:ME} (hx:x∈es) (hy:y∈es) (e:x.k=y.k):x=y:=by
  obtain ⟨i,hi,rfl⟩:=List.getElem_of_mem hx
  obtain ⟨j,hj,rfl⟩:=List.getElem_of_mem hy
  have hl:es.length=m.length:=by have:=congrArg List.length k3;simpa using this
  have ei:es[i].k=emb (m[i]'(by omega)).1:=by
   have:=congrArg (fun l=>l[i]?) k3
   simp [hi,show i<m.length from by omega] at this;exact this.1
  have ej:es[j].k=emb (m[j]'(by omega)).1:=by
   have:=congrArg (fun l=>l[j]?) k3
   simp [hj,show j<m.length from by omega] at this;exact this.1
  have hk:=k1.inj (ei.symm.trans (e.trans ej))
  have:=(List.getElem_inj (xs:=m.map (·.1)) (i:=i) (j:=j) (h₀:=by simp;omega) (h₁:=by simp;omega) hn).1 (by simpa using hk)
  subst this;rfl
 find_born {es:List ME} (hn:(es.map (·.b)).Nodup) {e:ME} (he:e∈es):es.find? (fun x=>x.b == e.b)=some e:=by
  cases hf:es.find? (fun x=>x.b == e.b) with
  | none=>rw [List.find?_eq_none] at hf;exact absurd (by simp) (hf e he)
  | some y =>
   have h1:=List.find?_some hf
   have h2:=List.mem_of_find?_eq_some hf
   rw [nodup_map_inj hn h2 he (by simpa using h1)]
theorem zgt.delete (h:zgt ks emb vf G r it m sn) (a:α):∃ M,gdD (.mdel ks) [.mref r,emb a] G=some (.tup [],G.setM r (some M))∧zgt ks emb vf (G.setM r (some M)) r it (mdel m a) sn:=by
 have hne:=h.ne
 obtain ⟨k1,es,cl,since,seen,last,k2,k3,k4,k5,k6,k7,k8,k9,k10,k11⟩:=h
 have hmp:zfd G (.mref r)=some (es,cl):=by simp only [zfd,k2]
 rcases zfu k1 a 0 k3 with ⟨e1,e2⟩|⟨j,v,hj,e1,e2,_,e4⟩
 · refine ⟨.map es cl,by simp only [gdD,hmp,k1.keyOk a,e2],k1,es,cl,since,seen,last,by simp [upd],by rw [ze7 e1];exact k3,k4,k5,by rw [ze7 e1];exact k6,by rw [Gh.setM_m,ze8 hne,k7],k8,k9,k10,k11⟩
 · refine ⟨.map (es.eraseIdx j) cl,by simp only [gdD,hmp,k1.keyOk a,e2,Nat.zero_add],k1,es.eraseIdx j,cl,since,seen,last,by simp [upd],e4,fun e he=>k4 e (List.mem_of_mem_eraseIdx he),?_,zft k6 a,by rw [Gh.setM_m,ze8 hne,k7],fun e he=>k8 e (List.mem_of_mem_eraseIdx he),k9,k10,fun e he=>k11 e (List.mem_of_mem_eraseIdx he)⟩
   exact k5.sublist ((List.eraseIdx_sublist es j).map _)
def ztj (ks:List Kd) (emb:α→D) (vf:β→D) (r it:Nat) (m:List (α×β)) (sn:List α):As:=fun G=>zgt ks emb vf G r it m sn
theorem zgt.subr {G G':Gh} (h:zgt ks emb vf G r it m sn) (hs:zg4 G G'):zgt ks emb vf G' r it m sn:=by
 obtain ⟨h1,es,cl,s,sn',la,h2,h3,h4,h5,h6,h7,h8⟩:=h
 exact ⟨h1,es,cl,s,sn',la,hs.m _ _ h2,h3,h4,h5,h6,hs.m _ _ h7,h8⟩
theorem Sep.rngl {Rs:List As} (h:Sep (ztj ks emb vf r it m sn::Rs) G):zgt ks emb vf G r it m sn:=by
 obtain ⟨G1,h1,h2⟩:=h.head
 exact zgt.subr h2 h1
theorem Sep.rngNew {Rs:List As} {X:MO} (h:Sep (zo2 ks emb vf r m::Rs) G) (hit:G.m it=none) (hr:zgt ks emb vf (G.setM it (some X)) r it m sn):Sep (ztj ks emb vf r it m sn::Rs) (G.setM it (some X)):=by
 obtain ⟨G1,G2,h1,h2,h3,h4,h5⟩:=h
 have hn2:=h2.noneM hit
 have hne:=hr.ne
 refine ⟨G1.setM it (some X),G2,⟨h1.c,fun i v e=>?_⟩,h2.trans (.newM hit _),⟨h3.c,fun i=>?_⟩,hr.of ?_ ?_,h5⟩
 · simp only [Gh.setM_m,upd] at e ⊢
   split
   · rename_i hi;rw [if_pos hi] at e;exact e
   · rename_i hi;rw [if_neg hi] at e;exact h1.m _ _ e
 · simp only [Gh.setM_m,upd]
   split
   · rename_i hi;subst hi;exact .inr hn2
   · exact h3.m i
 · obtain ⟨_,es,cl,k2,_⟩:=h4
   rw [Gh.setM_m,Gh.setM_m,ze8 hne.symm,ze8 hne.symm,k2,h1.m _ _ k2]
 · rw [Gh.setM_m,Gh.setM_m,zjy,zjy]
theorem Sep.rngSet {Rs:List As} {X:MO} {i:Nat} {m':List (α×β)} {sn':List α} (hi:i=r∨i=it) (h:Sep (ztj ks emb vf r it m sn::Rs) G) (hr:zgt ks emb vf (G.setM i (some X)) r it m' sn'):Sep (ztj ks emb vf r it m' sn'::Rs) (G.setM i (some X)):=by
 obtain ⟨G1,G2,h1,h2,h3,h4,h5⟩:=h
 have ex:∀ j,j=r∨j=it→∃ o,G1.m j=some o:=by
  obtain ⟨_,es,cl,s,sn',la,k2,_,_,_,_,k7,_⟩:=h4
  rintro j (rfl|rfl)
  · exact ⟨_,k2⟩
  · exact ⟨_,k7⟩
 obtain ⟨o,ho⟩:=ex i hi
 have hn:G2.m i=none:=(h3.m i).resolve_left (by rw [ho];simp)
 have same:∀ j,j=r∨j=it→(G1.setM i (some X)).m j=(G.setM i (some X)).m j:=by
  intro j hj
  obtain ⟨o,ho⟩:=ex j hj
  simp only [Gh.setM_m,upd]
  split
  · rfl
  · rw [ho,h1.m _ _ ho]
 refine ⟨G1.setM i (some X),G2,⟨h1.c,fun j v e=>?_⟩,⟨h2.c,fun j v e=>?_⟩,⟨h3.c,fun j=>?_⟩,hr.of (same r (.inl rfl)) (same it (.inr rfl)),h5⟩
 · simp only [Gh.setM_m,upd] at e ⊢
   split
   · rename_i hi;rw [if_pos hi] at e;exact e
   · rename_i hi;rw [if_neg hi] at e;exact h1.m _ _ e
 · simp only [Gh.setM_m,upd]
   split
   · rename_i hi;subst hi;rw [hn] at e;cases e
   · exact h2.m _ _ e
 · simp only [Gh.setM_m,upd]
   split
   · rename_i hi;subst hi;exact .inr hn
   · exact h3.m j
theorem Sep.rngEnd {Rs:List As} (h:Sep (ztj ks emb vf r it m sn::Rs) G):Sep (zo2 ks emb vf r m::Rs) G:=h.imp fun _ hr=>hr.toMap
end
end Go.E2
namespace Go.E2
def wK (ls:List RL) (ρ:Env) (σ:List Hp) (G:Gh) (st:St) {p:Prop} (_:zu p):Prop:=zjm ls ρ σ G st∧p
def vMl (vs:Option (List D)) (ks:List Kd) (z:D) (ok:Bool) (G:Gh):Option AV:=match vs with|some vs=>(gdD (.mlook ks z ok) vs G).map (·.1)|none=>none
@[go_sem] theorem z59 (vs:List D) (ks:List Kd) (z:D) (ok:Bool) (G:Gh):vMl (some vs) ks z ok G=(gdD (.mlook ks z ok) vs G).map (·.1):=rfl
@[go_sem] theorem val_ld (agg:Bool) (n:Nat) (x:AO) (ρ:Env) (σ:List Hp) (G:Gh):(RL.ld agg n x).val ρ σ G=zju agg n .foreign (zm5::σ) G (ev ρ x):=rfl
@[go_sem] theorem wK_nil (ρ:Env) (σ:List Hp) (G:Gh) (st:St) {p:Prop} (h:zu p):wK [] ρ σ G st h=p:=by
  simp [wK,zjm]
@[go_sem] theorem z8e (r:RL) (ls:List RL) (ρ:Env) (σ:List Hp) (G:Gh) (ρ':Env) (L':Hp) (σ':List Hp) (G':Gh) {p:Prop} (h:zu p):wK (r::ls) ρ σ G (ρ',L',σ',G') h=wP (r.val ρ' σ' G'=r.val ρ σ G) (zu.mk (a:=wK ls ρ σ G (ρ',L',σ',G') h)):=by
  simp only [wK,zjm,wP,List.mem_cons,forall_eq_or_imp,and_assoc]
@[go_sem] theorem z6a (sz n b off:Nat) (k:IntKind) (l:Int) (G:Gh) (h0:0≤l) (h1:l<n):gdD (.arrS sz n true false false) [.gp b off,.int k l] G=some (.d (.gs b (off+l.toNat * sz) (n - l.toNat) (n - l.toNat)),G):=by
  have e:zva true 0 [.int k l]=some (l,[]):=rfl
  have e2:zva false n []=some ((n:Int),[]):=rfl
  simp only [gdD,e,e2]
  rw [if_pos ⟨h0,by omega,by omega,by omega⟩,if_neg (by omega)]
  simp
@[go_sem] theorem z6b (sz n b off:Nat) (k k':IntKind) (l h:Int) (G:Gh) (h0:0≤l) (h1:l<n) (h2:l≤h) (h3:h≤n):gdD (.arrS sz n true true false) [.gp b off,.int k l,.int k' h] G=some (.d (.gs b (off+l.toNat * sz) (h.toNat - l.toNat) (n - l.toNat)),G):=by
  have e:zva true 0 [.int k l,.int k' h]=some (l,[.int k' h]):=rfl
  have e2:zva true n [.int k' h]=some (h,[]):=rfl
  have e3:zva false n []=some ((n:Int),[]):=rfl
  simp only [gdD,e,e2,e3]
  rw [if_pos ⟨h0,h2,by omega,by omega⟩,if_neg (by omega)]
  simp
section
variable {P:Program} {os:List AI} {l:List (Nat×AV)} {L:Hp} {σ:List Hp} {G:Gh} {K:St→Prop}
theorem zuf {d:Option Nat} {ls:List RL} {op:AOp} (hn:∀ ls' op',op≠.kp ls' op'):zaq P (⟨d,.kp ls op,none⟩::os) (E l) L σ G K=zaq P [⟨d,op,none⟩] (E l) L σ G (fun st=>wK ls (E l) σ G st (zu.mk (a:=zaq P os st.1 st.2.1 st.2.2.1 st.2.2.2 K))):=by
 simp only [zaq,zaf,zax,wK,eq_iff_iff]
 cases op with
 | kp ls' op'=>exact absurd rfl (hn _ _)
 | _=>exact Iff.rfl
@[go_sem ↓] theorem zze {d:Option Nat} {ls:List RL} {a b:Nat} {z:List D} {x y:AO}:zaq P (⟨d,.kp ls (.appG a b z x y),none⟩::os) (E l) L σ G K=zaq P [⟨d,.appG a b z x y,none⟩] (E l) L σ G (fun st=>wK ls (E l) σ G st (zu.mk (a:=zaq P os st.1 st.2.1 st.2.2.1 st.2.2.2 K))):=zuf (by intros;simp)
@[go_sem ↓] theorem zxi {d:Option Nat} {ls:List RL} {n:Nat} {a v:AO} {r:Root}:zaq P (⟨d,.kp ls (.store n a v r),none⟩::os) (E l) L σ G K=zaq P [⟨d,.store n a v r,none⟩] (E l) L σ G (fun st=>wK ls (E l) σ G st (zu.mk (a:=zaq P os st.1 st.2.1 st.2.2.1 st.2.2.2 K))):=zuf (by intros;simp)
end
end Go.E2
namespace Go.E2
variable {P:Program} {K:St→Prop} {ρ:Env} {L:Hp} {σ:List Hp} {G:Gh}
theorem nn {a b:Prop} (x:a) (y:b):a∧b:=⟨x,y⟩
theorem goS {p q F:Prop} (f:F) (hq:q) (h:F→q→p:=by intro f hq;simp -dsimp (disch:=first|omega|(simp only [go_sem];omega)) only [go_sem,seval,Nat.reduceEqDiff,Nat.reduceLeDiff,f];exact hq):p:=h f hq
theorem goR {p q F:Prop} (f:F) (hq:q) (h:F→q→p:=by
 intro f hq
 repeat (first|(with_reducible first|refine W.seq ?_|refine W.block ?_|refine W.scope ?_)|((with_reducible first|refine W.reg ?_|refine W.skip ?_|refine W.exit ?_|refine W.ret ?_|refine W.ifc ?_);simp -dsimp (disch:=first|omega|(simp only [go_sem];omega)) only [go_sem,seval,Nat.reduceEqDiff,Nat.reduceLeDiff,f]))
 exact hq):p:=h f hq
theorem goM {d:Option Nat} {f:AO} {args:List AO} {g:FuncId} {xs:List D} {pre R:List As} {Q:AV→List As→Prop} {q:Nat} {h:zu K}
 (hc:zy P g xs pre Q) (hs:Sep (pre++R) G) (hK:∀ r post G',Q r post→Sep (post++R) G'→K (put ρ d r,L,σ,G')) (hq:q=0∨q=2:=by decide)
 (ht:target (ev ρ f)=some (g,[])∧zx ρ args=some xs:=by simp -dsimp (disch:=first|omega|(simp only [go_sem];omega)) only [go_sem,seval,Nat.reduceEqDiff,Nat.reduceLeDiff]<;>rfl):wC P d f args q ρ L σ G h:=z79 hc hs hq ht hK
theorem goQ {d:Option Nat} {f:AO} {args:List AO} {q:Nat} {g:FuncId} {xs:List D} {v:AV} {h:zu K}
 (hc:zk3 P g xs G (·=v)) (hK:K (put ρ d v,L,σ,G)) (ht:target (ev ρ f)=some (g,[])∧zx ρ args=some xs:=by simp -dsimp (disch:=first|omega|(simp only [go_sem];omega)) only [go_sem,seval,Nat.reduceEqDiff,Nat.reduceLeDiff]<;>rfl):wC P d f args q ρ L σ G h:=wC_Q hc ht fun r e=>by rw [e];exact hK
theorem goC {d:Option Nat} {f:AO} {args:List AO} {q:Nat} {g:FuncId} {xs:List D} {v:AV} {h:zu K}
 (hc:zba P g xs (·=v)) (hK:K (put ρ d v,L,σ,G)) (ht:target (ev ρ f)=some (g,[])∧zx ρ args=some xs:=by simp -dsimp (disch:=first|omega|(simp only [go_sem];omega)) only [go_sem,seval,Nat.reduceEqDiff,Nat.reduceLeDiff]<;>rfl):wC P d f args q ρ L σ G h:=wC_P hc ht fun r e=>by rw [e];exact hK
theorem zb7 {l l':List (Nat×AV)} {L:Hp} {σ:List Hp} {G:Gh} (h:∀ p∈l',VLe (E l p.1) p.2:=by
 simp -dsimp (disch:=first|omega|(simp only [go_sem];omega)) only [go_sem,seval,Nat.reduceEqDiff,Nat.reduceLeDiff]<;>((repeat' apply And.intro)<;>first|exact VLe.refl _|(apply zcz;omega)|(apply zcz;simp;done)|exact VLe.own _ _|exact VLe.nilown _|exact VLe.norm _)):ztm (E l,L,σ,G) (E l',L,σ,G):=zuk h
theorem zt {l l':List (Nat×AV)} {h h':List (Nat×Blk)} {σ:List Hp} {G:Gh} (hb:HB h=HB h') (he:∀ p∈l',VLe (E l p.1) p.2:=by
 simp -dsimp (disch:=first|omega|(simp only [go_sem];omega)) only [go_sem,seval,Nat.reduceEqDiff,Nat.reduceLeDiff]<;>((repeat' apply And.intro)<;>first|exact VLe.refl _|(apply zcz;omega)|(apply zcz;simp;done)|exact VLe.own _ _|exact VLe.nilown _|exact VLe.norm _)):ztm (E l,HB h,σ,G) (E l',HB h',σ,G):=z4t he hb
theorem goD {p:Prop} (h:p:=by simp -dsimp (disch:=first|omega|(simp only [go_sem];omega)) only [go_sem,seval,Nat.reduceEqDiff,Nat.reduceLeDiff]):p:=h
end Go.E2
namespace Go.E2
variable {P:Program} {K:St→Prop} {ρ:Env} {L:Hp} {σ:List Hp} {G:Gh}
structure Br (a b:Prop) (q1:a→Prop) (q2:b→Prop):Prop where
 l:∀ h,q1 h
 r:∀ h,q2 h
theorem wX {p:Prop} [Decidable p] {k1 k2:Prop} {q1:p→Prop} {q2:¬ p→Prop} {i1:zu k1} {i2:zu k2} (hq:Br p (¬ p) q1 q2) (h1:∀ h:p,p=True→q1 h→k1) (h2:∀ h:¬ p,p=False→q2 h→k2):wG (.d (.bool (decide p))) true i1 i2 :=
 zns (fun h=>h1 h (eq_true h) (hq.l h)) (fun h=>h2 h (eq_false h) (hq.r h))
theorem wXF {p:Prop} [Decidable p] {k1 k2:Prop} {q1:¬ p→Prop} {q2:p→Prop} {i1:zu k1} {i2:zu k2} (hq:Br (¬ p) p q1 q2) (h1:∀ h:¬ p,p=False→q1 h→k1) (h2:∀ h:p,p=True→q2 h→k2):wG (.d (.bool (decide p))) false i1 i2 :=
 z0r (fun h=>h1 h (eq_false h) (hq.l h)) (fun h=>h2 h (eq_true h) (hq.r h))
theorem goX {p F:Prop} {q:F→Prop} (f:F) (hq:q f) (h:∀ f:F,q f→p:=by
 intro f hq
 repeat' (first
  | (with_reducible first|refine W.seq ?_|refine W.block ?_|refine W.scope ?_)
  | ((first
      | (with_reducible first|refine W.reg ?_|refine W.skip ?_|refine W.exit ?_|refine W.ret ?_|refine W.ifc ?_)
      | ((with_reducible first|apply wX hq|apply wXF hq)<;>(try (intro _ hG hq;show (_:Prop);(try simp -dsimp only [hG,decide_true,decide_false,not_true_eq_false,not_false_eq_true]);clear hG))))
     <;> (try simp -dsimp (disch:=first|omega|(simp only [go_sem];omega)) only [go_sem,seval,Nat.reduceEqDiff,Nat.reduceLeDiff,f]))
  | simp -dsimp (disch:=first|omega|(simp only [go_sem];omega)) only [go_sem,seval,Nat.reduceEqDiff,Nat.reduceLeDiff,f])
 all_goals exact hq):p:=h f hq
theorem zb1 {p F C1:Prop} {q:F→Prop} (f:F) (c1:C1) (hq:q f) (h:∀ f:F,C1→q f→p:=by
 intro f c1 hq
 repeat' (first
  | (with_reducible first|refine W.seq ?_|refine W.block ?_|refine W.scope ?_)
  | ((first
      | (with_reducible first|refine W.reg ?_|refine W.skip ?_|refine W.exit ?_|refine W.ret ?_|refine W.ifc ?_)
      | refine goC c1 ?_|refine goQ c1 ?_
      | ((with_reducible first|apply wX hq|apply wXF hq)<;>(try (intro _ hG hq;show (_:Prop);(try simp -dsimp only [hG,decide_true,decide_false,not_true_eq_false,not_false_eq_true]);clear hG))))
     <;> (try simp -dsimp (disch:=first|omega|(simp only [go_sem];omega)) only [go_sem,seval,Nat.reduceEqDiff,Nat.reduceLeDiff,f]))
  | simp -dsimp (disch:=first|omega|(simp only [go_sem];omega)) only [go_sem,seval,Nat.reduceEqDiff,Nat.reduceLeDiff,f])
 all_goals exact hq):p:=h f c1 hq
theorem znq {p F C1 C2:Prop} {q:F→Prop} (f:F) (c1:C1) (c2:C2) (hq:q f) (h:∀ f:F,C1→C2→q f→p:=by
 intro f c1 c2 hq
 repeat' (first
  | (with_reducible first|refine W.seq ?_|refine W.block ?_|refine W.scope ?_)
  | ((first
      | (with_reducible first|refine W.reg ?_|refine W.skip ?_|refine W.exit ?_|refine W.ret ?_|refine W.ifc ?_)
      | refine goC c1 ?_|refine goQ c1 ?_|refine goC c2 ?_|refine goQ c2 ?_
      | ((with_reducible first|apply wX hq|apply wXF hq)<;>(try (intro _ hG hq;show (_:Prop);(try simp -dsimp only [hG,decide_true,decide_false,not_true_eq_false,not_false_eq_true]);clear hG))))
     <;> (try simp -dsimp (disch:=first|omega|(simp only [go_sem];omega)) only [go_sem,seval,Nat.reduceEqDiff,Nat.reduceLeDiff,f]))
  | simp -dsimp (disch:=first|omega|(simp only [go_sem];omega)) only [go_sem,seval,Nat.reduceEqDiff,Nat.reduceLeDiff,f])
 all_goals exact hq):p:=h f c1 c2 hq
theorem z8f {p F C1 C2 C3:Prop} {q:F→Prop} (f:F) (c1:C1) (c2:C2) (c3:C3) (hq:q f) (h:∀ f:F,C1→C2→C3→q f→p:=by
 intro f c1 c2 c3 hq
 repeat' (first
  | (with_reducible first|refine W.seq ?_|refine W.block ?_|refine W.scope ?_)
  | ((first
      | (with_reducible first|refine W.reg ?_|refine W.skip ?_|refine W.exit ?_|refine W.ret ?_|refine W.ifc ?_)
      | refine goC c1 ?_|refine goQ c1 ?_|refine goC c2 ?_|refine goQ c2 ?_|refine goC c3 ?_|refine goQ c3 ?_
      | ((with_reducible first|apply wX hq|apply wXF hq)<;>(try (intro _ hG hq;show (_:Prop);(try simp -dsimp only [hG,decide_true,decide_false,not_true_eq_false,not_false_eq_true]);clear hG))))
     <;> (try simp -dsimp (disch:=first|omega|(simp only [go_sem];omega)) only [go_sem,seval,Nat.reduceEqDiff,Nat.reduceLeDiff,f]))
  | simp -dsimp (disch:=first|omega|(simp only [go_sem];omega)) only [go_sem,seval,Nat.reduceEqDiff,Nat.reduceLeDiff,f])
 all_goals exact hq):p:=h f c1 c2 c3 hq
end Go.E2
namespace Go.E2
@[go_sem] theorem z8g (f:FuncId) (ds:List D) (G:Gh):gdD (.bnd f) ds G=if ds.all D.one=true then some (.d (.bnd f ds),G) else none:=by simp only [gdD]
@[go_sem] theorem z17 (neg:Bool) (f:FuncId) (ds:List D) (G:Gh):gdD (.pnil 2 neg) [.bnd f ds] G=some (.d (.bool neg),G):=rfl
def z6c (b off:Nat) (f:Option FuncId):AV:=match f with|some f=>.d (.bnd f [.gp b off])|none=>.undef
@[go_sem] theorem z3m (b off:Nat) (f:FuncId):z6c b off (some f)=.d (.bnd f [.gp b off]):=rfl
def zz7 (tab:List (Nat×FuncId)) (v:AV):AV:=match v with|.d (.ifc t b off)=>z6c b off (tab.lookup t)|_=>.undef
@[go_sem] theorem ev_m (ρ:Env) (i:Nat) (tab:List (Nat×FuncId)):ev ρ (.m i tab)=zz7 tab (ρ i):=by
  simp only [ev,zz7,z6c]
  cases ρ i with
  | d x=>cases x<;>first|rfl|(split<;>simp_all)
  | _=>rfl
@[go_sem] theorem z3n (tab:List (Nat×FuncId)) (t b off:Nat):zz7 tab (.d (.ifc t b off))=z6c b off (tab.lookup t):=rfl
@[go_sem] theorem z3o (t k:Nat) (f:FuncId) (l:List (Nat×FuncId)):List.lookup t ((k,f)::l)=if t=k then some f else List.lookup t l:=by
  rw [List.lookup_cons]
  by_cases h:t=k
  · subst h;simp
  · have:(t == k)=false:=by simpa using h
    rw [this,if_neg h]
@[go_sem] theorem z8h (t b off:Nat) (G:Gh):gdD (.mkI t) [.gp b off] G=some (.d (.ifc t b off),G):=rfl
section
variable {P:Program} {K:St→Prop} {ρ:Env} {L:Hp} {σ:List Hp} {G:Gh} {d:Option Nat} {f:AO} {args:List AO} {q:Nat} {g:FuncId} {xs vs:List D}
theorem z8i {Q:AV→Gh→Prop} {h:zu K} (hc:∀ σ,zbb P g ((xs++vs).map .d) σ G fun r σ' G'=>σ'=σ∧Q r G') (hx:q=1∨q=3→∀ r G',Q r G'→zjk G G') (hf:ev ρ f=.d (.bnd g xs)) (hd:zx ρ args=some vs)
 (hK:∀ r G',Q r G'→K (put ρ d r,L,σ,G')):wC P d f args q ρ L σ G h:=by
 show zdl P d f args q ρ L σ G K
 unfold zdl
 rw [hf]
 simp only [target,zw0,hd]
 split
 · exact (hc _).mono fun r lv G' ⟨h1,h3⟩=>by subst h1;exact hK r G' h3
 · exact (hc _).mono fun r lv G' ⟨h1,h3⟩=>by subst h1;exact ⟨rfl,fun e=>hx e _ _ h3,hK r G' h3⟩
theorem goK {cs:List D} {v:AV} {h:zu K} (hc:zk3 P g (vs++cs) G (·=v)) (hK:K (put ρ d v,L,σ,G))
 (ht:target (ev ρ f)=some (g,cs.map .d)∧zx ρ args=some vs:=by simp -dsimp (disch:=first|omega|(simp only [go_sem];omega)) only [go_sem,seval,Nat.reduceEqDiff,Nat.reduceLeDiff]<;>rfl):wC P d f args q ρ L σ G h :=
 zqy (Q:=(·=v)) (fun σ=>(hc σ).mono fun r lv G' ⟨h1,h2,h3⟩=>⟨h1,h2,h3⟩) ht.1 ht.2 fun r e=>by rw [e];exact hK
theorem z3p {pre R:List As} {Q:AV→List As→Prop} {h:zu K} (hc:zy P g (xs++vs) pre Q) (hs:Sep (pre++R) G) (hq:q=0∨q=2) (ht:ev ρ f=.d (.bnd g xs)∧zx ρ args=some vs)
 (hK:∀ r post G',Q r post→Sep (post++R) G'→K (put ρ d r,L,σ,G')):wC P d f args q ρ L σ G h :=
 z8i (Q:=fun r G'=>∃ post,Q r post∧Sep (post++R) G') (fun σ=>(hc R G σ hs).mono fun r lv G' ⟨h1,post,h2,h3⟩=>⟨h1,post,h2,h3⟩) (fun e=>by omega) ht.1 ht.2 fun r G' ⟨post,h2,h3⟩=>hK r post G' h2 h3
theorem goI {x:D} {pre R:List As} {Q:AV→List As→Prop} {h:zu K} (hc:zy P g (x::vs) pre Q) (hs:Sep (pre++R) G)
 (hK:∀ r post G',Q r post→Sep (post++R) G'→K (put ρ d r,L,σ,G')) (hq:q=0∨q=2:=by decide)
 (ht:ev ρ f=.d (.bnd g [x])∧zx ρ args=some vs:=by simp -dsimp (disch:=first|omega|(simp only [go_sem];omega)) only [go_sem,seval,Nat.reduceEqDiff,Nat.reduceLeDiff]<;>rfl):wC P d f args q ρ L σ G h :=
 z3p (xs:=[x]) hc hs hq ht hK
end
end Go.E2
namespace Go.E2
def zl8 (ops:List Oper):Option (Nat×FuncId×Array Operand) :=
 match ops with
 | [o,p] =>
  match o.dst,o.op,o.guard,p.dst,p.op,p.guard with
  | some d,.makeFunc (.func f) first caps,none,none,.defer cl,none =>
   (match cl.callee with
   | .value (.tmp e)=>if first.isEmpty && cl.args.isEmpty && e == d then some (d,f,caps) else none
   | _=>none)
  | _,_,_,_,_,_=>none
 | _=>none
def zcb:Code→Option (List Code×(Nat×FuncId×Array Operand)×Code)
 | .seq a b =>
  (match a with
  | .region _ ops false=>(match zl8 ops.toList with
    | some x=>some ([],x,b)
    | none=>(zcb b).map fun y=>(a::y.1,y.2.1,y.2.2))
  | _=>(zcb b).map fun y=>(a::y.1,y.2.1,y.2.2))
 | _=>none
structure AFuncD where
 nt:Nat
 res:List zgl
 pre:List ACode
 d:Nat
 f:FuncId
 caps:List AO
 body:ACode
def zg5 (P:Program) (gs:List Nat) (f:FuncId):Option AFuncD :=
 match P.funcs[f]? with
 | none=>none
 | some fn =>
  match fn.body with
  | none=>none
  | some c =>
   if fn.name == "runtime.NumGoroutine" then none else
   match zcb c with
   | some (as,(d,g,caps),b) =>
    (match zk0 P fn.results.toList,as.mapM (zai P gs fn.ntmps (zbn c)),cOs caps.toList,zai P gs fn.ntmps (zbn c) b with
    | some res,some pre,some caps,some body=>if d<fn.ntmps then some { nt:=fn.ntmps,res,pre,d,f:=g,caps,body } else none
    | _,_,_,_=>none)
   | none=>none
theorem znr {P:Program} {gs:List Nat} {f:FuncId} {af:AFuncD} (h:zg5 P gs f=some af) :
 ∃ fn c as b caps, P.funcs[f]? = some fn ∧ fn.body = some c ∧ (fn.name == "runtime.NumGoroutine") = false ∧ zcb c = some (as, (af.d, af.f, caps), b) ∧ zk0 P fn.results.toList = some af.res ∧
   as.mapM (zai P gs fn.ntmps (zbn c))=some af.pre∧cOs caps.toList=some af.caps∧zai P gs fn.ntmps (zbn c) b=some af.body∧af.d<fn.ntmps:=by
 unfold zg5 at h
 split at h
 · cases h
 · rename_i fn hf
   split at h
   · cases h
   · rename_i c hb
     split at h
     · cases h
     · rename_i hn
       split at h
       · rename_i as d g caps b hs
         split at h
         · rename_i res pre caps' body h1 h2 h3 h4
           split at h
           · rename_i h5
             cases h
             exact ⟨fn,c,as,b,caps,hf,hb,by simpa using hn,hs,h1,h2,h3,h4,h5⟩
           · cases h
         · cases h
       · cases h
theorem zpf {ops:List Oper} {d:Nat} {f:FuncId} {caps:Array Operand} (h:zl8 ops=some (d,f,caps)):∃ o p cl,ops=[o,p]∧o.dst=some d∧o.op=.makeFunc (.func f) #[] caps∧o.guard=none ∧
 p.dst=none∧p.op=.defer cl∧p.guard=none∧cl.callee=.value (.tmp d)∧cl.args=#[]:=by
 unfold zl8 at h
 split at h
 · rename_i o p
   split at h
   · rename_i d' f' first caps' cl h1 h2 h3 h4 h5 h6
     split at h
     · rename_i e he
       split at h
       · rename_i hc
         cases h
         simp only [Bool.and_eq_true,Array.isEmpty_iff,beq_iff_eq] at hc
         obtain ⟨⟨rfl,h8⟩,rfl⟩:=hc
         exact ⟨o,p,cl,rfl,h1,h2,h3,h4,h5,h6,he,h8⟩
       · cases h
     · cases h
   · cases h
 · cases h
def zlm (a:Act) (d:Nat) (f:FuncId) (caps:Array Operand):Act :=
 { a.put (some d) (.func (.func f) #[] (caps.map a.eval)) with defers:={ target:=.fn (.func f) (caps.map a.eval),args:=#[] }::a.defers }
theorem z3q {P:Program} {id:Nat} {ops:Array Oper} {d:Nat} {f:FuncId} {caps:Array Operand} {b:Code} {Q:Exit→Act→World→Prop} {a:Act} {w:World} (hi:zl8 ops.toList=some (d,f,caps)) (hd:d<a.tmps.size)
 (h:b.wpIn Fence.wide 0 P Q (zlm a d f caps) w):(Code.seq (.region id ops false) b).wpIn Fence.wide 0 P Q a w:=by
 obtain ⟨o,p,cl,he,h1,h2,h3,h4,h5,h6,h7,h8⟩:=zpf hi
 refine wpIn_seq (wpIn_region_list ?_)
 rw [he]
 refine wpListIn_step fun K hK=>?_
 rw [if_pos (by simp [Region.wanted,h3])]
 refine ⟨fun _ _=>trivial,?_⟩
 rw [Oper.semAt_eq _ _ _ (by simp [h2])]
 have e1:(execOp a.eval o).run P w=.ok (.value (.func (.func f) #[] (caps.map a.eval))) w:=by
  simp [execOp,h2,Instr.makeFunc]
 rw [e1]
 refine hK _ _ ?_
 refine wpListIn_step fun K hK=>?_
 rw [if_pos (by simp [Region.wanted,h6])]
 refine ⟨fun _ _=>trivial,?_⟩
 have e2:(a.put o.dst (.func (.func f) #[] (caps.map a.eval))).eval (.tmp d)=.func (.func f) #[] (caps.map a.eval):=by
  rw [h1]
  show (a.tmps.setIfInBounds d _).getD d undef=_
  simp [Array.getD_eq_getD_getElem?,hd]
 have e3:((p.semAt Fence.wide.round (a.put o.dst (.func (.func f) #[] (caps.map a.eval))).eval).run P w)=.ok (.defer { target:=.fn (.func f) (caps.map a.eval),args:=#[] }) w:=by
  show ((p.semAt none _).run P w)=_
  rw [Oper.semAt_none]
  simp [execOp,h5,resolve,h7,h8,e2,Deferred.ofValue]
 rw [e3]
 refine hK _ _ (wpListIn_nil ?_)
 rw [h4,h1]
 exact h
def WL [DD] (P:Program):List ACode→(zaz→St→Prop)→St→Prop
 | [],κ,st=>κ .normal st
 | c::cs,κ,st=>W P c (zu.mk (a:=zaz.then (fun st'=>WL P cs κ st') κ)) st
section
variable {P:Program} {S0:Stb} {ms0:List (Nat→Nat)} {base:Nat} {O:Nat→Prop} {σ0:List Hp} {a0:Act} {w0:World}
theorem preD (hm:P.follows .mixedOrders=true) {gs:List Nat} {nt:Nat} {defs:List Oper} {d:Nat} {f:FuncId} {caps:Array Operand} {b:Code} {κ:zaz→St→Prop} {Q:Exit→Act→World→Prop} (hnt:nt≤a0.tmps.size) (hd:d<nt)
 (hret:∀ e a' w',z14 S0 ms0 base O σ0 a0 w0 κ e a' w'→e≠.normal→Q e a' w') (hdef:∀ st a' w',κ .normal st→zbf S0 ms0 base O σ0 a0 w0 st a' w'→b.wpIn Fence.wide 0 P Q (zlm a' d f caps) w') :
 ∀ (c:Code) (as:List Code),zcb c=some (as,(d,f,caps),b)→∀ (acs:List ACode),as.mapM (zai P gs nt defs)=some acs→∀ (st:St) (a:Act) (w:World),WL P acs κ st→zbf S0 ms0 base O σ0 a0 w0 st a w→c.wpIn Fence.wide 0 P Q a w
 | .seq x y,as,hs,acs,hc,st,a,w,h,ha=>by
   have gen:∀ {as:List Code},((zcb y).map fun z=>(x::z.1,z.2.1,z.2.2))=some (as,(d,f,caps),b)→∀ (acs:List ACode),as.mapM (zai P gs nt defs)=some acs→WL P acs κ st→(Code.seq x y).wpIn Fence.wide 0 P Q a w:=by
    intro as hs acs hc h
    simp only [Option.map_eq_some_iff,Prod.mk.injEq] at hs
    obtain ⟨⟨as1,x1,b1⟩,hy,rfl,rfl,rfl⟩:=hs
    rw [List.mapM_cons] at hc
    simp only [Option.pure_def,Option.bind_eq_bind,Option.bind_eq_some_iff,Option.some.injEq] at hc
    obtain ⟨ac,hac,acs1,hacs,rfl⟩:=hc
    have hsz:=ha.sz
    obtain ⟨⟨S',m',ow',hrel,hevo⟩,hsh,_⟩:=ha
    have hx:SW P ac (zaz.then (fun st'=>WL P acs1 κ st') κ) st:=h
    refine wpIn_seq (wpIn_mono (hx hm none gs nt defs x hac S' _ _ _ _ a w hrel zsl.none (by rw [hsz];exact hnt)) fun e a1 w1 hq=>?_)
    cases e with
    | normal =>
     obtain ⟨st1,h1,h2⟩:=hq
     exact preD hm hnt hd hret hdef y as1 hy acs1 hacs st1 a1 w1 h1 (zbf.trans hevo hsh hsz h2)
    | exit id =>
     obtain ⟨st1,h1,h2⟩:=hq
     exact hret _ _ _ ⟨st1,h1,zbf.trans hevo hsh hsz h2⟩ (by simp)
    | ret =>
     obtain ⟨st1,h1,h2⟩:=hq
     exact hret _ _ _ ⟨st1,h1,zbf.trans hevo hsh hsz h2⟩ (by simp)
    | _=>exact hq.elim
   unfold zcb at hs
   split at hs
   · rename_i id ops
     split at hs
     · rename_i x1 hi
       cases hs
       simp at hc
       subst hc
       exact z3q hi (by rw [ha.sz];omega) (hdef _ _ _ h ha)
     · exact gen hs acs hc h
   · exact gen hs acs hc h
 | .skip,as,hs,_,_,_,_,_,_,_=>by simp [zcb] at hs
 | .region _ _ _,as,hs,_,_,_,_,_,_,_=>by simp [zcb] at hs
 | .cond _ _ _,as,hs,_,_,_,_,_,_,_=>by simp [zcb] at hs
 | .block _ _,as,hs,_,_,_,_,_,_,_=>by simp [zcb] at hs
 | .loop _,as,hs,_,_,_,_,_,_,_=>by simp [zcb] at hs
 | .rangeFunc _ _ _ _,as,hs,_,_,_,_,_,_,_=>by simp [zcb] at hs
 | .exit _,as,hs,_,_,_,_,_,_,_=>by simp [zcb] at hs
 | .scope _,as,hs,_,_,_,_,_,_,_=>by simp [zcb] at hs
 | .label _,as,hs,_,_,_,_,_,_,_=>by simp [zcb] at hs
 | .goto _,as,hs,_,_,_,_,_,_,_=>by simp [zcb] at hs
 | .ret,as,hs,_,_,_,_,_,_,_=>by simp [zcb] at hs
 | .refuse _,as,hs,_,_,_,_,_,_,_=>by simp [zcb] at hs
end
theorem zgg {P:Program} {F:Fence} {n:Nat} {fn:Func} {R:Value→World→Prop}:∀ (ds:List Deferred) (w:World) (fr:Frame) (cs:List Frame),fr.mode=.returning→fr.defers=ds→zca P fn fr.tmps R ds w→F.fn fr.fn→F.room (cs.length+1+n) →
 ∃ v w' fr',R v w'∧StepsIn (Machine.fenced P F) P (lone fr cs w) (lone fr' cs w')∧fr'.kind=fr.kind∧fr'.fn=fr.fn∧fr'.mode=.returning∧fr'.defers=[]∧(results fn fr'.tmps).run P w'=.ok v w'
 | [],w,fr,cs,hm,hd,h,hb,hr=>by
   obtain ⟨v,h1,h2⟩:=h
   exact ⟨v,w,fr,h2,StepsIn.refl _,rfl,rfl,hm,hd,h1⟩
 | d::ds,w,fr,cs,hm,hd,h,hb,hr=>by
   obtain ⟨r,w',h1,h2,h3⟩:=h
   have hrun:fr.mode≠.run:=by rw [hm];simp
   have s1:=step_collected (cs:=cs) hrun hd h1 h2
   have i1:(lone fr cs w).fenced P F:=fenced_out hb hr hrun hd (fun g hg=>by rw [h1] at hg;simp [Target.leads] at hg)
   obtain ⟨v,w'',fr',k1,k2,k3,k4,k5,k6,k7⟩:=zgg (n:=n) ds w' { fr with defers:=[]++ds } cs hm rfl h3 hb hr
   exact ⟨v,w'',fr',k1,.head i1 s1 k2,k3,k4,k5,k6,k7⟩
theorem zhv {P:Program} {f:FuncId} {fn:Func} {c:Code} {args:Array Value} {u:FrameMode} {w:World} {R:Value→World→Prop} (hf:P.funcs[f]?=some fn) (hb:fn.body=some c)
 (h:c.wpIn Fence.wide 0 P (fun e a w=>(e=.normal∨e=.ret)∧zca P fn a.tmps R a.defers w) { tmps:=args++Array.replicate (fn.ntmps - args.size) undef,defers:=[] } w) :
 CallsDIn Fence.wide 0 P f args u w fun e u' w'=>u'=u∧∃ v,e=.returned v∧R v w':=by
 refine ⟨trivial,fun c₀ cs hu hr=>?_⟩
 let b:Frame:={ (default:Frame) with fn:=f,kind:=.deferred,roundOf:=none }
 have henter:Frame.enter P f args .deferred =
  b.atR { tmps:=args++Array.replicate (fn.ntmps - args.size) undef,defers:=[] } [.code c]:=by
  simp [Frame.enter,Frame.atR,hf,hb,b]
 have hc:({ c₀ with mode:=u }:Frame)=c₀:=by subst hu;rfl
 obtain ⟨e,a',w',hq,harr⟩:=h b [] (c₀::cs) rfl trivial hr
 rw [← henter] at harr
 obtain ⟨he,hq⟩:=hq
 cases e with
 | normal =>
  obtain ⟨v,w'',fr',k1,k2,k3,k4,k5,k6,k7⟩:=zgg (F:=Fence.wide) (n:=0) a'.defers w' { b.atR a' [] with mode:=.returning } (c₀::cs) rfl rfl hq trivial hr
  refine ⟨.returned v,u,w'',fr',⟨rfl,v,rfl,k1⟩,?_,k3,k4,k5,k6,fn,?_,k7⟩
  · rw [hc];exact StepsIn.trans (StepsIn.trans harr (.one (fenced_calm (fr:=b.atR a' []) trivial hr rfl) (stepR_end rfl))) k2
  · rw [k4];exact hf
 | ret =>
  obtain ⟨todo,hs⟩:=harr.1 rfl
  obtain ⟨v,w'',fr',k1,k2,k3,k4,k5,k6,k7⟩:=zgg (F:=Fence.wide) (n:=0) a'.defers w' { b.atR a' todo with mode:=.returning } (c₀::cs) rfl rfl hq trivial hr
  refine ⟨.returned v,u,w'',fr',⟨rfl,v,rfl,k1⟩,?_,k3,k4,k5,k6,fn,?_,k7⟩
  · rw [hc];exact StepsIn.trans hs k2
  · rw [k4];exact hf
 | _=>rcases he with e|e<;>cases e
def zl9 (P:Program) (f:FuncId) (vs:List D) (G:Gh) (Q:Gh→Prop):Prop :=
 ze3 P f∧∀ (S:Stb) (w:World) (args:Array Value) (u:FrameMode),zcw S [] [] G w→zz S vs args.toList →
  CallsDIn Fence.wide 0 P f args u w fun e u' w'=>u'=u∧∃ v,e=.returned v∧zo1 S [] w [] G (fun _ lv G'=>lv=[]∧Q G') v w'
theorem zxj (S:Stb) (ms:List (Nat→Nat)) (σ:List Hp) {vs:List D} {args:Array Value} (h:zz S vs args.toList) (i:Nat):VR S σ ms (ofL (vs.map .d) i) (args.getD i undef):=by
 simp only [ofL,List.getD_eq_getElem?_getD,List.getElem?_map]
 cases hvi:vs[i]? with
 | none=>trivial
 | some y =>
  obtain ⟨v,hv,hvr⟩:=h.get hvi
  have hv':args[i]?=some v:=by rw [← Array.getElem?_toList];exact hv
  have:args.getD i undef=v:=by simp [Array.getD_eq_getD_getElem?,hv']
  rw [this]
  exact hvr
theorem zpg {P:Program} (hm:P.follows .mixedOrders=true) {gs:List Nat} {f:FuncId} {af:AFunc} (hf:zf P gs f=some af) {vs:List D} {G:Gh} {Q:Gh→Prop}
 (h:SW P af.body (zxe af.res fun _ lv G'=>lv=[]∧Q G') (ofL (vs.map .d),zm5,[],G)):zl9 P f vs G Q:=by
 obtain ⟨fn,c,hfn,hb,hng,hres,hbody,hnt⟩:=zgc hf
 refine ⟨⟨fn,c,hfn,hb,hng⟩,fun S w args u hrel hargs=>?_⟩
 refine zhv (R:=fun v w'=>zo1 S [] w [] G (fun _ lv G'=>lv=[]∧Q G') v w') hfn hb (wpIn_mono (h hm none gs fn.ntmps (zbn c) c hbody _ _ _ _ _ _ _ (Rel.enter (m0:=fun _=>0) hrel (zxj _ _ _ hargs) zgf _) zsl.none (by simp;omega)) fun e a' w' hq=>?_)
 have fin':∀ {st:St},zw1 af.res (fun _ lv G'=>lv=[]∧Q G') st→zbf S [fun _=>0] w.heap.size (zbt [] [] G) [] { tmps:=args++Array.replicate (fn.ntmps - args.size) undef,defers:=[] } w st a' w' →
  zca P fn a'.tmps (fun v w'=>zo1 S [] w [] G (fun _ lv G'=>lv=[]∧Q G') v w') a'.defers w':=by
  rintro st ⟨r,r',hr,hle,hQ⟩ ⟨⟨S',m',ow',hrel',hevo⟩,hsh,_⟩
  exact zdt a'.defers a' w' rfl hrel' hevo fun w2 hrel' hevo=>Rel.leave (b:={ a' with defers:=[] }) hrel' hevo hsh hres hr hle hQ
 cases e with
 | normal=>obtain ⟨st,h1,h2⟩:=hq;exact ⟨.inl rfl,fin' h1 h2⟩
 | ret=>obtain ⟨st,h1,h2⟩:=hq;exact ⟨.inr rfl,fin' h1 h2⟩
 | exit id=>obtain ⟨st,h1,_⟩:=hq;exact h1.elim
 | _=>exact hq.elim
theorem Rel.toD {S:Stb} {ms:List (Nat→Nat)} {ow:Nat→Option Nat} {base:Nat} {O:Nat→Prop} {ρ:Env} {L:Hp} {σ:List Hp} {G:Gh} {a:Act} {w:World} {ds:List Deferred} {da db:DD} (h:@Rel da S ms ow base O ρ L σ G a w) (hd:@zgk db base ds w) :
 @Rel db S ms ow base O ρ L σ G { a with defers:=ds } w:=by
 obtain ⟨h1,h2,h3,h4,h5,h6,h7,h8,h9,_,h10⟩:=h
 exact @Rel.mk db S ms ow base O ρ L σ G _ w h1 h2 h3 h4 h5 h6 h7 h8 h9 hd h10
theorem zma {P:Program} {fn:Func} {S S0:Stb} {ms:List (Nat→Nat)} {ow:Nat→Option Nat} {base:Nat} {O:Nat→Prop} {ρ:Env} {L:Hp} {σ:List Hp} {G:Gh} {w0:World} {R:Ending→World→Prop} {d:Deferred} [dd:DD] (hdd:DD.d0=[d]) :
 ∀ (ds:List Deferred) (b:Act) (w:World),b.defers=ds→Rel S ms ow base O ρ L σ G b w→Evo base O S0 w0 S w →
 (∀ ds2 w2,@Rel ddNil S ms ow base O ρ L σ G { b with defers:=ds2 } w2→Evo base O S0 w0 S w2→LeavesInM Fence.wide 0 P fn b.tmps R (d::ds2) .returning w2)→LeavesInM Fence.wide 0 P fn b.tmps R ds .returning w:=by
 intro ds
 induction ds with
 | nil =>
  intro b w hb h he hk
  have hf:=h.dfs.1
  rw [hb,hdd] at hf
  cases hf
 | cons d' ds ih =>
  intro b w hb h he hk
  cases hd:zdn d' with
  | none =>
   have hf:=h.dfs
   rw [hb] at hf
   obtain ⟨h1,h2,h3⟩:=hf
   rw [List.filter_cons] at h1
   simp only [hd,Option.isNone_none,if_true,hdd] at h1
   have e1:d'=d:=(List.cons.inj h1).1
   have e2:=(List.cons.inj h1).2
   subst e1
   simp only [List.filterMap_cons,hd] at h2 h3
   exact hk ds w (Rel.toD (db:=ddNil) h ⟨e2,h2,h3⟩) he
  | some r =>
   obtain ⟨w',h1,h2,h3⟩:=h.pop (P:=P) hb hd
   exact ⟨by simp,.inl ⟨r,w',zjs hd,h1,ih { b with defers:=ds } w' rfl h2 (h3 he) hk⟩⟩
def z3r (P:Program) (af:AFuncD) (ds:List D) (Q:AV→List Hp→Gh→Prop) (e:zaz) (st:St):Prop:=(e=.normal∨e=.ret)∧zl9 P af.f ds st.2.2.2 fun G'=>zw1 af.res Q (st.1,st.2.1,st.2.2.1,G')
def z18 (P:Program) (af:AFuncD) (Q:AV→List Hp→Gh→Prop):zaz→St→Prop
 | .normal,st=>∃ ds,zx st.1 af.caps=some ds∧ds.all D.one=true∧∀ dd:DD,@W dd P af.body _ (zu.mk (a:=z3r P af ds Q)) (put st.1 (some af.d) (.d (.clo af.f ds)),st.2.1,st.2.2.1,st.2.2.2)
 | .ret,st=>zw1 af.res Q st
 | .exit _,_=>False
theorem zph {P:Program} (hm:P.follows .mixedOrders=true) {gs:List Nat} {f:FuncId} {af:AFuncD} (hf:zg5 P gs f=some af) {vs:List AV} {σ:List Hp} {G:Gh} {Q:AV→List Hp→Gh→Prop}
 (h:WL P af.pre (z18 P af Q) (ofL vs,zm5,σ,G)):zbb P f vs σ G Q:=by
 intro S ms w args m0 _ hrel hargs hown
 obtain ⟨fn,c,as,b,caps,hfn,hb,hng,hsp,hres,hpre,hcaps,hbody,hd⟩:=znr hf
 refine .inl ⟨⟨fn,c,hfn,hb,hng⟩,?_⟩
 have hR:=Rel.enter hrel hargs hown (fn.ntmps - args.size)
 have hnt:fn.ntmps≤(args++Array.replicate (fn.ntmps - args.size) undef).size:=by simp;omega
 refine callsIn_wide.1 (callsIn_of_wp_marks (F:=Fence.wide) (n:=0) hfn hb trivial ?_)
 refine preD hm (nt:=fn.ntmps) (κ:=z18 P af Q) hnt hd ?_ ?_ c as hsp af.pre hpre _ _ _ h (zbf.refl hR)
 · intro e a' w' hq hne
   cases e with
   | normal=>exact absurd rfl hne
   | ret =>
    obtain ⟨st,⟨r,r',hr,hle,hQ⟩,⟨⟨S',m',ow',hrel',hevo⟩,hsh,_⟩⟩:=hq
    exact zca.leaves (R:=fun v w'=>zo1 S ms w σ G Q v w') (fun v w h=>⟨v,rfl,h⟩) _ _ (zdt a'.defers a' w' rfl hrel' hevo fun w2 hrel' hevo=>Rel.leave (b:={ a' with defers:=[] }) hrel' hevo hsh hres hr hle hQ)
   | exit id=>obtain ⟨st,h1,_⟩:=hq;exact h1.elim
   | _=>exact hq.elim
 · intro st a' w' ⟨ds,hds,hone,hw⟩ ⟨⟨S',m',ow',hrel',hevo⟩,hsh,hsz⟩
   have hcv:=zg8 hrel'.tmpT caps.toList af.caps ds hcaps hds
   have hcv':zz S' ds (caps.map a'.eval).toList:=by simpa using hcv
   have hlen:(caps.map a'.eval).size=ds.length:=by have:=hcv'.1;rw [← Array.length_toList];exact this
   have hclo:VRD S' (.clo af.f ds) (.func (.func af.f) #[] (caps.map a'.eval)):=.clo af.f ds _ hlen hone fun j x v hx hv=>hcv'.2 j x v hx (by rw [Array.getElem?_toList];exact hv)
   have hput:=hrel'.put (d:=some af.d) (x:=.d (.clo af.f ds)) hclo (fun sz es e=>by cases e) (fun i hi=>by cases hi;rw [hsz];exact Nat.lt_of_lt_of_le hd hnt)
   let dfr:Deferred:={ target:=.fn (.func af.f) (caps.map a'.eval),args:=#[] }
   have hmk:=hput.dfs
   have hD:@Rel ⟨⟨[dfr]⟩⟩ S' (m'::ms) ow' w.heap.size (zbt σ ms G) (put st.1 (some af.d) (.d (.clo af.f ds))) st.2.1 st.2.2.1 st.2.2.2 (zlm a' af.d af.f caps) w':=by
    refine Rel.toD hput ⟨?_,hmk.2.1,hmk.2.2⟩
    have e1:a'.defers.filter (fun d=>(zdn d).isNone)=[]:=hmk.1
    have e2:(zdn dfr).isNone=true:=rfl
    exact (List.filter_cons_of_pos (p:=fun d=>(zdn d).isNone) (l:=a'.defers) e2).trans (congrArg (dfr::·) e1)
   have hz:(zlm a' af.d af.f caps).tmps.size=a'.tmps.size:=by simp [zlm,zda]
   refine wpIn_mono (@hw ⟨⟨[dfr]⟩⟩ hm none gs fn.ntmps (zbn c) b hbody S' _ _ _ _ _ w' hD zsl.none (by rw [hz,hsz];exact hnt)) fun e a2 w2 hq=>?_
   have fin':∀ {e:zaz} {st2:St},z3r P af ds Q e st2→@zbf ⟨⟨[dfr]⟩⟩ S' (m'::ms) w.heap.size (zbt σ ms G) st.2.2.1 (zlm a' af.d af.f caps) w' st2 a2 w2 →
    LeavesInM Fence.wide 0 P fn a2.tmps (fun e w'=>∃ v,e=.returned v∧zo1 S ms w σ G Q v w') a2.defers .returning w2:=by
    intro e st2 hq1 hq2
    obtain ⟨_,hcd,hcall⟩:=hq1
    obtain ⟨hex,hsh2,_⟩:=hq2
    obtain ⟨S2,m2,ow2,hrel2,hevo2⟩:=hex
    refine zma (dd:=⟨⟨[dfr]⟩⟩) (d:=dfr) rfl a2.defers a2 w2 rfl hrel2 (hevo.trans hevo2) fun ds2 w3 hrel3 hevo3=>?_
    refine ⟨by simp,.inr ⟨fun e=>(by cases e),.func af.f,caps.map a'.eval,af.f,caps.map a'.eval,rfl,?_,fun _ _=>trivial,?_⟩⟩
    · have:=zbp (P:=P) (w:=w3) (args:=caps.map a'.eval) hcd
      simpa [invoke,dfr] using this
    · have hrb:zcw S2 [] [] st2.2.2.2 w3:=⟨hrel3.h.sub,rfl,fun ⟨x,m,h1,_⟩=>by simp at h1,fun ⟨x,m,h1,_⟩=>by simp at h1,fun ⟨x,m,h1,_⟩=>by simp at h1,hrel3.h.gbox,hrel3.h.gnos,fun _ ⟨x,m,h1,_⟩=>by simp at h1,hrel3.h.x,hrel3.h.tab⟩
      have hvs:=hcv'.mono (hevo2.sub)
      refine (hcall S2 w3 (caps.map a'.eval) .returning hrb hvs).mono fun e u' w4 hp=>?_
      obtain ⟨rfl,v,rfl,S4,r,lv,G4,⟨rfl,r0,r1,hr,hle,hQ⟩,hrelH,hevo4,hsh4,_,hG⟩:=hp
      obtain ⟨hr4,he4⟩:=hrel3.calledQ hrelH hevo4 hG
      exact zca.leaves (R:=fun v w'=>zo1 S ms w σ G Q v w') (fun v w h=>⟨v,rfl,h⟩) _ _ (zdt ds2 { a2 with defers:=ds2 } w4 rfl hr4 (hevo3.trans he4) fun w5 hrel5 hevo5=>Rel.leave (b:={ a2 with defers:=[] }) hrel5 hevo5 (hsh.trans hsh2) hres hr hle hQ)
   cases e with
   | normal=>obtain ⟨st,h1,h2⟩:=hq;exact fin' h1 h2
   | ret=>obtain ⟨st,h1,h2⟩:=hq;exact fin' h1 h2
   | exit id=>obtain ⟨st,⟨h1,_⟩,_⟩:=hq;rcases h1 with h1|h1<;>cases h1
   | _=>exact hq.elim
theorem zpi {P:Program} (hm:P.follows .mixedOrders=true) {gs:List Nat} {f:FuncId} {af:AFuncD} (hf:zg5 P gs f=some af) {vs:List AV} {σ:List Hp} {G:Gh} {Q:AV→List Hp→Gh→Prop}
 (h:WL P af.pre (z18 P af Q) (E (zqt 0 vs),HB [],σ,G)):zbb P f vs σ G Q:=zph hm hf (by rw [zz8];exact h)
theorem zsp {P:Program} (hm:P.follows .mixedOrders=true) {gs:List Nat} {f:FuncId} {nt:Nat} {res:List zgl} {c:ACode} (hf:zf P gs f=some ⟨nt,res,c⟩) {vs:List D} {G:Gh} {Q:Gh→Prop}
 (h:W P c (zu.mk (a:=zxe res fun _ lv G'=>lv=[]∧Q G')) (E (zqt 0 (vs.map .d)),HB [],[],G)):zl9 P f vs G Q:=zpg hm hf (by rw [zz8];exact h)
theorem WL.cons [DD] {P:Program} {c:ACode} {cs:List ACode} {κ:zaz→St→Prop} {st:St} (h:W P c (zu.mk (a:=zaz.then (fun st'=>WL P cs κ st') κ)) st):WL P (c::cs) κ st:=h
theorem WL.nil [DD] {P:Program} {κ:zaz→St→Prop} {st:St} (h:κ .normal st):WL P [] κ st:=h
end Go.E2
