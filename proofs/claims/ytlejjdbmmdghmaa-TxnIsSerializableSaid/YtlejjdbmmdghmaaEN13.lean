/-
 zjb of the blocks that lie apart: what a call changes of its own part,it leaves of all others as it is.
 Conditions: none;definitions and laws.
-/
import Derived.Test.YtlejjdbmmdghmaaEN9
namespace Go.E2
structure zf0 (A B:Gh):Prop where
 c:∀ b v,A.c b=some v→B.c b=some v
 m:∀ b v,A.m b=some v→B.m b=some v
structure zo0 (A B:Gh):Prop where
 c:∀ b,A.c b=none∨B.c b=none
 m:∀ b,A.m b=none∨B.m b=none
theorem zf0.refl (A:Gh):zf0 A A:=⟨fun _ _ h=>h,fun _ _ h=>h⟩
theorem zf0.trans {A B C:Gh} (h:zf0 A B) (h':zf0 B C):zf0 A C:=⟨fun b v e=>h'.c b v (h.c b v e),fun b v e=>h'.m b v (h.m b v e)⟩
theorem zf0.none {A B:Gh} (h:zf0 A B) {b:Nat} (e:B.c b=none):A.c b=none:=by
 cases ha:A.c b with
 | none=>rfl
 | some v=>rw [h.c b v ha] at e;cases e
theorem zf0.noneM {A B:Gh} (h:zf0 A B) {b:Nat} (e:B.m b=Option.none):A.m b=Option.none:=by
 cases ha:A.m b with
 | none=>rfl
 | some v=>rw [h.m b v ha] at e;cases e
theorem zo0.symm {A B:Gh} (h:zo0 A B):zo0 B A:=⟨fun b=>(h.c b).symm,fun b=>(h.m b).symm⟩
theorem zo0.sub {A B A' B':Gh} (h:zo0 A B) (ha:zf0 A' A) (hb:zf0 B' B):zo0 A' B' :=
 ⟨fun b=>(h.c b).imp ha.none hb.none,fun b=>(h.m b).imp ha.noneM hb.noneM⟩
def Gh.join (A B:Gh):Gh:=⟨fun b=>match A.c b with|some v=>some v|none=>B.c b,fun b=>match A.m b with|some v=>some v|none=>B.m b,by
 obtain ⟨N,h⟩:=A.fin
 obtain ⟨M,h'⟩:=B.fin
 exact ⟨N+M,fun b hb=>⟨by simp only [(h b (by omega)).1];exact (h' b (by omega)).1,by simp only [(h b (by omega)).2];exact (h' b (by omega)).2⟩⟩⟩
theorem zf0.join_l (A B:Gh):zf0 A (A.join B):=⟨fun b v h=>by simp only [Gh.join,h],fun b v h=>by simp only [Gh.join,h]⟩
theorem zf0.join_r {A B:Gh} (h:zo0 A B):zf0 B (A.join B) :=
 ⟨fun b v e=>by have:=h.c b;rw [e] at this;simp only [Gh.join,this.resolve_right (by simp),e],fun b v e=>by have:=h.m b;rw [e] at this;simp only [Gh.join,this.resolve_right (by simp),e]⟩
theorem zf0.join {A B C:Gh} (ha:zf0 A C) (hb:zf0 B C):zf0 (A.join B) C :=
 ⟨fun b v e=>by
   simp only [Gh.join] at e
   cases h:A.c b with
   | none=>rw [h] at e;exact hb.c b v e
   | some u=>rw [h] at e;exact ha.c b v (by rw [h];exact e),fun b v e=>by
   simp only [Gh.join] at e
   cases h:A.m b with
   | none=>rw [h] at e;exact hb.m b v e
   | some u=>rw [h] at e;exact ha.m b v (by rw [h];exact e)⟩
theorem zo0.join {A B C:Gh} (ha:zo0 A C) (hb:zo0 B C):zo0 (A.join B) C :=
 ⟨fun b=>by
   simp only [Gh.join]
   cases h:A.c b with
   | none=>exact hb.c b
   | some u=>have:=ha.c b;rw [h] at this;exact .inr (this.resolve_left (by simp)),fun b=>by
   simp only [Gh.join]
   cases h:A.m b with
   | none=>exact hb.m b
   | some u=>have:=ha.m b;rw [h] at this;exact .inr (this.resolve_left (by simp))⟩
abbrev As:=Gh→Prop
def Sep:List As→Gh→Prop
 | [],_=>True
 | A::R,G=>∃ G1 G2,zf0 G1 G∧zf0 G2 G∧zo0 G1 G2∧A G1∧Sep R G2
theorem Sep.nil {G:Gh}:Sep [] G:=trivial
theorem Sep.mono {l:List As} {G G':Gh} (h:Sep l G) (hs:zf0 G G'):Sep l G':=by
 cases l with
 | nil=>trivial
 | cons A R =>
  obtain ⟨G1,G2,h1,h2,h3,h4,h5⟩:=h
  exact ⟨G1,G2,h1.trans hs,h2.trans hs,h3,h4,h5⟩
theorem Sep.tail {A:As} {R:List As} {G:Gh} (h:Sep (A::R) G):Sep R G:=by
 obtain ⟨_,G2,_,h2,_,_,h5⟩:=h
 exact h5.mono h2
theorem Sep.head {A:As} {R:List As} {G:Gh} (h:Sep (A::R) G):∃ G1,zf0 G1 G∧A G1:=by
 obtain ⟨G1,_,h1,_,_,h4,_⟩:=h
 exact ⟨G1,h1,h4⟩
theorem Sep.swap {A B:As} {R:List As} {G:Gh} (h:Sep (A::B::R) G):Sep (B::A::R) G:=by
 obtain ⟨G1,G2,h1,h2,h3,h4,G3,G4,k1,k2,k3,k4,k5⟩:=h
 have d14:=h3.sub (.refl _) k2
 exact ⟨G3,G1.join G4,k1.trans h2,h1.join (k2.trans h2),(zo0.join (h3.sub (.refl _) k1) k3.symm).symm,k4,G1,G4,.join_l _ _,.join_r d14,d14,h4,k5⟩
theorem Sep.cons {A:As} {R R':List As} {G:Gh} (h:Sep (A::R) G) (hr:∀ G,Sep R G→Sep R' G):Sep (A::R') G:=by
 obtain ⟨G1,G2,h1,h2,h3,h4,h5⟩:=h
 exact ⟨G1,G2,h1,h2,h3,h4,hr _ h5⟩
theorem Sep.perm {l l':List As} (hp:l.Perm l'):∀ {G:Gh},Sep l G→Sep l' G:=by
 induction hp with
 | nil=>exact fun h=>h
 | cons A _ ih=>exact fun h=>h.cons fun _=>ih
 | swap A B R=>exact fun h=>h.swap
 | trans _ _ ih1 ih2=>exact fun h=>ih2 (ih1 h)
theorem Sep.f3 {A B C:As} {R:List As} {G:Gh} (h:Sep (A::B::C::R) G):Sep (C::A::B::R) G:=(h.cons fun _=>Sep.swap).swap
theorem Sep.f4 {A B C D:As} {R:List As} {G:Gh} (h:Sep (A::B::C::D::R) G):Sep (D::A::B::C::R) G:=(h.cons fun _=>Sep.f3).swap
theorem Sep.f5 {A B C D E:As} {R:List As} {G:Gh} (h:Sep (A::B::C::D::E::R) G):Sep (E::A::B::C::D::R) G:=(h.cons fun _=>Sep.f4).swap
theorem Sep.b3 {A B C:As} {R:List As} {G:Gh} (h:Sep (A::B::C::R) G):Sep (B::C::A::R) G:=h.swap.cons fun _=>Sep.swap
theorem Sep.b4 {A B C D:As} {R:List As} {G:Gh} (h:Sep (A::B::C::D::R) G):Sep (B::C::D::A::R) G:=h.swap.cons fun _=>Sep.b3
theorem Sep.b5 {A B C D E:As} {R:List As} {G:Gh} (h:Sep (A::B::C::D::E::R) G):Sep (B::C::D::E::A::R) G:=h.swap.cons fun _=>Sep.b4
theorem Sep.imp {A B:As} {R:List As} {G:Gh} (h:Sep (A::R) G) (hab:∀ G,A G→B G):Sep (B::R) G:=by
 obtain ⟨G1,G2,h1,h2,h3,h4,h5⟩:=h
 exact ⟨G1,G2,h1,h2,h3,hab _ h4,h5⟩
def zzi (l:List As):As:=Sep l
theorem Sep.app:∀ {l R:List As} {G:Gh},Sep (zzi l::R) G→Sep (l++R) G
 | [],R,G,h=>h.tail
 | A::l,R,G,h=>by
   obtain ⟨G1,G2,h1,h2,h3,⟨G3,G4,k1,k2,k3,k4,k5⟩,h5⟩:=h
   have d42:=h3.sub k2 (.refl _)
   refine ⟨G3,G4.join G2,k1.trans h1,(k2.trans h1).join h2,(zo0.join k3.symm (h3.sub k1 (.refl _)).symm).symm,k4,?_⟩
   exact Sep.app ⟨G4,G2,.join_l _ _,.join_r d42,d42,k5,h5⟩
theorem Sep.of_app:∀ {l R:List As} {G:Gh},Sep (l++R) G→Sep (zzi l::R) G
 | [],R,G,h=>⟨zel,G,⟨fun _ _ e=>(by cases e),fun _ _ e=>(by cases e)⟩,.refl _,⟨fun _=>.inl rfl,fun _=>.inl rfl⟩,trivial,h⟩
 | A::l,R,G,h=>by
   obtain ⟨G3,G',k1,k2,k3,k4,k5⟩:=h
   obtain ⟨G4,G2,j1,j2,j3,j4,j5⟩:=Sep.of_app k5
   have d34:=k3.sub (.refl _) j1
   have d32:=k3.sub (.refl _) j2
   exact ⟨G3.join G4,G2,k1.join (j1.trans k2),j2.trans k2,zo0.join d32 j3,⟨G3,G4,.join_l _ _,.join_r d34,d34,k4,j4⟩,j5⟩
theorem Sep.ex {α:Type} {A:α→As} {R:List As} {G:Gh} (h:Sep ((fun G=>∃ x,A x G)::R) G):∃ x,Sep (A x::R) G:=by
 obtain ⟨G1,G2,h1,h2,h3,⟨x,h4⟩,h5⟩:=h
 exact ⟨x,G1,G2,h1,h2,h3,h4,h5⟩
theorem Sep.pure {p:Prop} {A:As} {R:List As} {G:Gh} (h:Sep ((fun G=>p∧A G)::R) G):p∧Sep (A::R) G:=by
 obtain ⟨G1,G2,h1,h2,h3,⟨hp,h4⟩,h5⟩:=h
 exact ⟨hp,G1,G2,h1,h2,h3,h4,h5⟩
def ze (b:Nat) (cs:List D):As:=fun G=>G.c b=some cs
theorem Sep.get {b:Nat} {cs:List D} {R:List As} {G:Gh} (h:Sep (ze b cs::R) G):G.c b=some cs:=by
 obtain ⟨G1,h1,h2⟩:=h.head
 exact h1.c _ _ h2
theorem Sep.set {b:Nat} {cs cs':List D} {R:List As} {G:Gh} (h:Sep (ze b cs::R) G):Sep (ze b cs'::R) (G.set b (some cs')):=by
 obtain ⟨G1,G2,h1,h2,h3,h4,h5⟩:=h
 have hn:G2.c b=none:=(h3.c b).resolve_left (by rw [h4];simp)
 refine ⟨G1.set b (some cs'),G2,⟨fun i v e=>?_,h1.m⟩,⟨fun i v e=>?_,h2.m⟩,⟨fun i=>?_,h3.m⟩,?_,h5⟩
 · rw [Gh.set_c] at e ⊢
   unfold upd at e ⊢
   split
   · rename_i hi;rw [if_pos hi] at e;exact e
   · rename_i hi;rw [if_neg hi] at e;exact h1.c _ _ e
 · rw [Gh.set_c]
   unfold upd
   split
   · rename_i hi;subst hi;rw [hn] at e;cases e
   · exact h2.c _ _ e
 · rw [Gh.set_c]
   unfold upd
   split
   · rename_i hi;subst hi;exact .inr hn
   · exact h3.c i
 · simp [ze,upd]
theorem Sep.new {b:Nat} {cs:List D} {R:List As} {G:Gh} (hb:G.c b=none) (h:Sep R G):Sep (ze b cs::R) (G.set b (some cs)):=by
 refine ⟨zel.set b (some cs),G,⟨fun i v e=>?_,fun i v e=>(by cases e)⟩,⟨fun i v e=>?_,fun _ _ e=>e⟩,⟨fun i=>?_,fun i=>.inl rfl⟩,by simp [ze,upd],h⟩
 · simp only [Gh.set_c,upd] at e ⊢
   split
   · rename_i hi;rw [if_pos hi] at e;exact e
   · rename_i hi;rw [if_neg hi] at e;cases e
 · simp only [Gh.set_c,upd]
   split
   · rename_i hi;subst hi;rw [hb] at e;cases e
   · exact e
 · simp only [Gh.set_c,upd]
   split
   · rename_i hi;subst hi;exact .inr hb
   · exact .inl rfl
def zr5 (r:Nat) (o:MO):As:=fun G=>G.m r=some o
theorem Sep.getM {r:Nat} {o:MO} {R:List As} {G:Gh} (h:Sep (zr5 r o::R) G):G.m r=some o:=by
 obtain ⟨G1,h1,h2⟩:=h.head
 exact h1.m _ _ h2
theorem Sep.setM {r:Nat} {o o':MO} {R:List As} {G:Gh} (h:Sep (zr5 r o::R) G):Sep (zr5 r o'::R) (G.setM r (some o')):=by
 obtain ⟨G1,G2,h1,h2,h3,h4,h5⟩:=h
 have hn:G2.m r=none:=(h3.m r).resolve_left (by rw [h4];simp)
 refine ⟨G1.setM r (some o'),G2,⟨h1.c,fun i v e=>?_⟩,⟨h2.c,fun i v e=>?_⟩,⟨h3.c,fun i=>?_⟩,?_,h5⟩
 · rw [Gh.setM_m] at e ⊢
   unfold upd at e ⊢
   split
   · rename_i hi;rw [if_pos hi] at e;exact e
   · rename_i hi;rw [if_neg hi] at e;exact h1.m _ _ e
 · rw [Gh.setM_m]
   unfold upd
   split
   · rename_i hi;subst hi;rw [hn] at e;cases e
   · exact h2.m _ _ e
 · rw [Gh.setM_m]
   unfold upd
   split
   · rename_i hi;subst hi;exact .inr hn
   · exact h3.m i
 · simp [zr5,upd]
theorem Sep.newM {r:Nat} {o:MO} {R:List As} {G:Gh} (hb:G.m r=none) (h:Sep R G):Sep (zr5 r o::R) (G.setM r (some o)):=by
 refine ⟨zel.setM r (some o),G,⟨fun i v e=>(by cases e),fun i v e=>?_⟩,⟨fun _ _ e=>e,fun i v e=>?_⟩,⟨fun i=>.inl rfl,fun i=>?_⟩,by simp [zr5,upd],h⟩
 · simp only [Gh.setM_m,upd] at e ⊢
   split
   · rename_i hi;rw [if_pos hi] at e;exact e
   · rename_i hi;rw [if_neg hi] at e;cases e
 · simp only [Gh.setM_m,upd]
   split
   · rename_i hi;subst hi;rw [hb] at e;cases e
   · exact e
 · simp only [Gh.setM_m,upd]
   split
   · rename_i hi;subst hi;exact .inr hb
   · exact .inl rfl
theorem Sep.keep {R:List As} {G G':Gh} (h:Sep R G) (hs:zf0 G G'):Sep R G':=h.mono hs
theorem zf0.new {G:Gh} {b:Nat} (hb:G.c b=Option.none) (v:Option (List D)):zf0 G (G.set b v) :=
 ⟨fun i u e=>by
   simp only [Gh.set_c,upd]
   split
   · rename_i hi;subst hi;rw [hb] at e;cases e
   · exact e,fun _ _ e=>e⟩
theorem zf0.newM {G:Gh} {b:Nat} (hb:G.m b=Option.none) (v:Option MO):zf0 G (G.setM b v) :=
 ⟨fun _ _ e=>e,fun i u e=>by
   simp only [Gh.setM_m,upd]
   split
   · rename_i hi;subst hi;rw [hb] at e;cases e
   · exact e⟩
section
variable {α β:Type} [DecidableEq α] {ks:List Kd} {emb:α→D} {vf:β→D}
def zop (ks:List Kd) (emb:α→D) (vf:β→D) (r:Nat) (m:List (α×β)):As:=fun G=>zd8 ks emb vf G r m
theorem Sep.map {r:Nat} {m:List (α×β)} {R:List As} {G:Gh} (h:Sep (zop ks emb vf r m::R) G):zd8 ks emb vf G r m:=by
 obtain ⟨G1,h1,h2⟩:=h.head
 obtain ⟨k1,es,cl,k2,k3⟩:=h2
 exact ⟨k1,es,cl,h1.m _ _ k2,k3⟩
theorem Sep.objm {r:Nat} {m:List (α×β)} {R:List As} {G:Gh} (h:Sep (zop ks emb vf r m::R) G):∃ o,Sep (zr5 r o::R) G:=by
 obtain ⟨G1,G2,h1,h2,h3,h4,h5⟩:=h
 obtain ⟨k1,es,cl,k2,k3⟩:=h4
 exact ⟨_,G1,G2,h1,h2,h3,k2,h5⟩
theorem Sep.mapO {r:Nat} {o:MO} {m:List (α×β)} {R:List As} {G:Gh} (h:Sep (zr5 r o::R) G) (hm:zd8 ks emb vf G r m):Sep (zop ks emb vf r m::R) G:=by
 have ho:=h.getM
 obtain ⟨k1,es,cl,k2,k3⟩:=hm
 rw [ho] at k2
 cases k2
 exact h.imp fun G1 e=>⟨k1,es,cl,e,k3⟩
theorem Sep.mapSet {r:Nat} {m m':List (α×β)} {R:List As} {G:Gh} {M:MO} (h:Sep (zop ks emb vf r m::R) G) (hm:zd8 ks emb vf (G.setM r (some M)) r m'):Sep (zop ks emb vf r m'::R) (G.setM r (some M)):=by
 obtain ⟨o,ho⟩:=h.objm
 exact Sep.mapO ho.setM hm
theorem Sep.mapNew {r:Nat} {R:List As} {G:Gh} (he:zud ks emb) (hr:G.m r=none) (h:Sep R G):Sep (zop ks emb vf r []::R) (G.setM r (some (.map [] 0))) :=
 Sep.mapO (h.newM hr) (zd8.new he)
end
def zy (P:Program) (f:FuncId) (xs:List D) (pre:List As) (Q:AV→List As→Prop):Prop :=
 ∀ (R:List As) (G:Gh) (σ:List Hp),Sep (pre++R) G→zaq P f (xs.map .d) σ G fun r σ' G'=>σ'=σ∧∃ post,Q r post∧Sep (post++R) G'
def zlw (P:Program) (f:FuncId) (xs:List D) (pre:List As) (Q:AV→Prop):Prop :=
 ∀ (R:List As) (G:Gh) (σ:List Hp),Sep (pre++R) G→zaq P f (xs.map .d) σ G fun r σ' G'=>σ'=σ∧G'=G∧Q r
theorem zlw.s {P:Program} {f:FuncId} {xs:List D} {pre:List As} {Q:AV→Prop} (h:zlw P f xs pre Q):zy P f xs pre fun r post=>post=pre∧Q r :=
 fun R G σ hs=>(h R G σ hs).mono fun _ _ _ ⟨h1,h2,h3⟩=>⟨h1,pre,⟨rfl,h3⟩,by rw [h2];exact hs⟩
def zjp (P:Program) (f:FuncId) (xs:List D) (G:Gh) (Q:AV→Prop):Prop:=∀ σ,zaq P f (xs.map .d) σ G fun r σ' G'=>σ'=σ∧G'=G∧Q r
theorem zlw.q {P:Program} {f:FuncId} {xs:List D} {pre R:List As} {Q:AV→Prop} {G:Gh} (h:zlw P f xs pre Q) (hs:Sep (pre++R) G):zjp P f xs G Q:=fun σ=>h R G σ hs
theorem zb2.q {P:Program} {f:FuncId} {xs:List D} {Q:AV→Prop} (h:zb2 P f xs Q) (G:Gh):zjp P f xs G Q:=fun σ=>h.quiet σ G
theorem zb2.r {P:Program} {f:FuncId} {xs:List D} {Q:AV→Prop} (h:zb2 P f xs Q) (pre:List As):zlw P f xs pre Q:=fun _ G σ _=>h.quiet σ G
section
variable {P:Program} {ρ:Env} {L:Hp} {σ:List Hp} {G:Gh} {K:St→Prop}
theorem wC_Q {d:Option Nat} {f:AO} {args:List AO} {q:Nat} {g:FuncId} {xs:List D} {Q:AV→Prop} {h:zn K}
 (hc:zjp P g xs G Q) (ht:target (ev ρ f)=some (g,[])∧zx ρ args=some xs) (hK:∀ r,Q r→K (put ρ d r,L,σ,G)):wC P d f args q ρ L σ G h :=
 zt2 hc ht.1 ht.2 hK
theorem wC_s {d:Option Nat} {f:AO} {args:List AO} {g:FuncId} {xs:List D} {pre R:List As} {Q:AV→List As→Prop} {h:zn K}
 (hc:zy P g xs pre Q) (hs:Sep (pre++R) G) (ht:target (ev ρ f)=some (g,[])∧zx ρ args=some xs)
 (hK:∀ r post G',Q r post→Sep (post++R) G'→K (put ρ d r,L,σ,G')):wC P d f args 0 ρ L σ G h :=
 wC_gc (cs:=[]) (Q:=fun r G'=>∃ post,Q r post∧Sep (post++R) G') (by simpa using hc R G (L::σ) hs) (by simpa using ht.1) ht.2 fun r G' ⟨post,h1,h2⟩=>hK r post G' h1 h2
theorem z8h {d:Option Nat} {f:AO} {args:List AO} {g:FuncId} {xs:List D} {pre R:List As} {Q:AV→List As→Prop} {q:Nat} {h:zn K}
 (hc:zy P g xs pre Q) (hs:Sep (pre++R) G) (hq:q=0∨q=2) (ht:target (ev ρ f)=some (g,[])∧zx ρ args=some xs)
 (hK:∀ r post G',Q r post→Sep (post++R) G'→K (put ρ d r,L,σ,G')):wC P d f args q ρ L σ G h:=by
 rcases hq with rfl|rfl
 · exact wC_s hc hs ht hK
 · show zcw P d f args 2 ρ L σ G K
   unfold zcw
   rw [ht.1]
   refine ⟨[],rfl,?_⟩
   rw [ht.2]
   simp only [List.append_nil]
   exact (hc R G [] hs).mono fun r lv G' ⟨h1,post,h2,h3⟩=>⟨h1,fun e=>(by cases e),hK r post G' h2 h3⟩
end
theorem zf {P:Program} {gs:List Nat} {f:FuncId} {nt:Nat} {res:List zfz} {c:ACode} {xs:List D} {pre:List As} {Q:AV→List As→Prop} (hm:P.follows .mixedOrders=true) (hf:zj P gs f=some ⟨nt,res,c⟩)
 (h:∀ (R:List As) (G:Gh) (σ:List Hp),Sep (pre++R) G→W P c (zn.mk (a:=zwr res fun r σ' G'=>σ'=σ∧∃ post,Q r post∧Sep (post++R) G')) (E (zqh 0 (xs.map .d)),HB [],σ,G)):zy P f xs pre Q :=
 fun R G σ hs=>zbl hm hf (h R G σ hs)
theorem zhp {P:Program} {gs:List Nat} {f:FuncId} {nt:Nat} {res:List zfz} {c:ACode} {xs:List D} {pre:List As} {Q:AV→Prop} (hm:P.follows .mixedOrders=true) (hf:zj P gs f=some ⟨nt,res,c⟩)
 (h:∀ (R:List As) (G:Gh) (σ:List Hp),Sep (pre++R) G→W P c (zn.mk (a:=zwr res fun r σ' G'=>σ'=σ∧G'=G∧Q r)) (E (zqh 0 (xs.map .d)),HB [],σ,G)):zlw P f xs pre Q :=
 fun R G σ hs=>zbl hm hf (h R G σ hs)
end Go.E2
namespace Go.E2
@[go_sem] theorem Gh.set_set (G:Gh) (b:Nat) (v w:Option (List D)):(G.set b v).set b w=G.set b w:=by
  refine Gh.ext ?_ rfl
  funext i
  simp only [Gh.set_c,upd]
  split<;>rfl
@[go_sem] theorem Gh.setM_setM (G:Gh) (b:Nat) (v w:Option MO):(G.setM b v).setM b w=G.setM b w:=by
  refine Gh.ext rfl ?_
  funext i
  simp only [Gh.setM_m,upd]
  split<;>rfl
def zwt (v:Option AV) (vs:Option (List D)):Option (List D):=match v,vs with|some v,some vs=>(match v.data with|some x=>some (x::vs)|none=>none)|_,_=>none
def z54 (v:AV):Option AV:=match v with|.d x=>some (.d x)|.own sz es=>some (.own sz es)|_=>none
def zwu (agg:Bool) (n:Nat) (lv:List Hp) (G:Gh) (v:AV):Option AV:=match v with
 | .ptr k s g off=>zbo agg n (blk lv k s g) off
 | .d (.gp b off)=>zbo agg n (G b) off
 | _=>none
@[go_sem] theorem z8i (x:D) (vs:List D):zwt (some (.d x)) (some vs)=some (x::vs):=rfl
@[go_sem] theorem z3c (sz:Nat) (es:List D) (vs:List D):zwt (some (.own sz es)) (some vs)=some (.list es::vs):=rfl
@[go_sem] theorem rTmp_d (x:D):z54 (.d x)=some (.d x):=rfl
@[go_sem] theorem z55 (sz:Nat) (es:List D):z54 (.own sz es)=some (.own sz es):=rfl
@[go_sem] theorem z3d (agg:Bool) (n k s g off:Nat) (lv:List Hp) (G:Gh):zwu agg n lv G (.ptr k s g off)=zbo agg n (blk lv k s g) off:=rfl
@[go_sem] theorem z56 (agg:Bool) (n b off:Nat) (lv:List Hp) (G:Gh):zwu agg n lv G (.d (.gp b off))=zbo agg n (G b) off:=rfl
@[go_sem] theorem z1q (ρ:Env) (lv:List Hp) (G:Gh) (t:Nat):zec ρ lv G (.tmp t)=z54 (ρ t):=by
  simp only [zec,z54];cases ρ t<;>rfl
@[go_sem] theorem zzj (ρ:Env) (lv:List Hp) (G:Gh) (t n:Nat) (agg:Bool):zec ρ lv G (.cell t agg n)=zwu agg n lv G (ρ t):=by
  simp only [zec,zwu,zbo];cases ρ t with
  | d x=>cases x<;>rfl
  | _=>rfl
@[go_sem] theorem z1r (ρ:Env) (lv:List Hp) (G:Gh):zc2 ρ lv G []=some []:=rfl
@[go_sem] theorem zzk (ρ:Env) (lv:List Hp) (G:Gh) (r:zfz) (rs:List zfz):zc2 ρ lv G (r::rs)=zwt (zec ρ lv G r) (zc2 ρ lv G rs):=by
  simp only [zc2,zwt]
  cases zec ρ lv G r with
  | none=>rfl
  | some v=>cases zc2 ρ lv G rs with
    | none=>rfl
    | some vs=>cases v.data<;>rfl
@[go_sem] theorem z8j (ρ:Env) (lv:List Hp) (G:Gh) (r:zfz):fin [r] ρ lv G=zec ρ lv G r:=rfl
@[go_sem] theorem z8k (ρ:Env) (lv:List Hp) (G:Gh):fin [] ρ lv G=some (.tup []):=rfl
@[go_sem] theorem z8l (ρ:Env) (lv:List Hp) (G:Gh) (r r':zfz) (rs:List zfz):fin (r::r'::rs) ρ lv G=(zc2 ρ lv G (r::r'::rs)).map .tup:=rfl
def SlA (sz:Nat) (x:D) (es:List D):As:=fun G=>GV sz G x es
theorem GV.sub {sz:Nat} {G G':Gh} {x:D} {es:List D} (h:GV sz G x es) (hs:zf0 G G'):GV sz G' x es:=by
 cases h with
 | nil=>exact .nil
 | row b cap es cs hb hr=>exact .row b cap es cs (hs.c _ _ hb) hr
theorem Sep.gv {sz:Nat} {x:D} {es:List D} {R:List As} {G:Gh} (h:Sep (SlA sz x es::R) G):GV sz G x es:=by
 obtain ⟨G1,h1,h2⟩:=h.head
 exact h2.sub h1
theorem Sep.grow {sz sz':Nat} {x x':D} {es es':List D} {R:List As} {G G':Gh} (h:Sep (SlA sz x es::R) G) (ht:GTo x x' G G') (hv:GV sz' G' x' es'):Sep (SlA sz' x' es'::R) G':=by
 obtain ⟨G1,G2,h1,h2,h3,h4,h5⟩:=h
 have hx:∀ b c,G2.c b=some c→∀ o n k,x≠.gs b o n k:=by
  rintro b c hb o n k rfl
  cases h4 with
  | row b cap es cs hb1 hr=>have:=h3.c b;rw [hb,hb1] at this;simp at this
 have hs2:zf0 G2 G':=⟨fun b c hb=>ht.fr b c (h2.c _ _ hb) (hx b c hb),fun b o hb=>by rw [ht.m];exact h2.m _ _ hb⟩
 cases hv with
 | nil=>exact ⟨zel,G2,⟨fun _ _ e=>(by cases e),fun _ _ e=>(by cases e)⟩,hs2,⟨fun _=>.inl rfl,fun _=>.inl rfl⟩,GV.nil,h5⟩
 | row b cap es' cs hb hr =>
  have hn:G2.c b=none:=by
   cases e:G2.c b with
   | none=>rfl
   | some c=>exact absurd rfl (ht.sep b c (h2.c _ _ e) (hx b c e) 0 es'.length cap)
  refine ⟨zel.set b (some cs),G2,⟨fun i v e=>?_,fun _ _ e=>(by cases e)⟩,hs2,⟨fun i=>?_,fun _=>.inl rfl⟩,GV.row b cap es' cs (by simp [upd]) hr,h5⟩
  · simp only [Gh.set_c,upd] at e
    split at e
    · rename_i hi;subst hi;rw [hb];exact e
    · cases e
  · simp only [Gh.set_c,upd]
    split
    · rename_i hi;subst hi;exact .inr hn
    · exact .inl rfl
theorem Sep.slNil {sz:Nat} {R:List As} {G:Gh} (h:Sep R G):Sep (SlA sz .nilS []::R) G :=
 ⟨zel,G,⟨fun _ _ e=>(by cases e),fun _ _ e=>(by cases e)⟩,.refl _,⟨fun _=>.inl rfl,fun _=>.inl rfl⟩,.nil,h⟩
section
variable {α β:Type} [DecidableEq α]
theorem ztx {m:List (α×β)} {a:α} {v:β} (h:za4 m a=some v):m.Perm ((a,v)::mdel m a):=by
 induction m with
 | nil=>simp [za4] at h
 | cons p m ih =>
  simp only [za4] at h
  simp only [mdel]
  split at h
  · rename_i e;cases h;rw [if_pos e];obtain ⟨p1,p2⟩:=p;simp only at e;subst e;exact .refl _
  · rename_i e;rw [if_neg e];exact ((ih h).cons p).trans (.swap _ _ _)
theorem zng {m:List (α×β)} (a:α) (v:β):(zju m a v).Perm ((a,v)::mdel m a):=by
 induction m with
 | nil=>exact .refl _
 | cons p m ih =>
  simp only [zju,mdel]
  split
  · exact .refl _
  · exact (ih.cons p).trans (.swap _ _ _)
theorem zg0 {m:List (α×β)} {a:α} (h:za4 m a=none):mdel m a=m:=by
 induction m with
 | nil=>rfl
 | cons p m ih =>
  simp only [za4] at h
  simp only [mdel]
  split at h
  · cases h
  · rename_i e;rw [if_neg e,ih h]
theorem ziw {m:List (α×β)} (hn:(m.map (·.1)).Nodup) {a:α} {p:α×β}:p∈mdel m a↔p∈m∧p.1≠a:=by
 induction m with
 | nil=>simp [mdel]
 | cons q m ih =>
  simp only [List.map_cons,List.nodup_cons] at hn
  simp only [mdel]
  split
  · rename_i e
    constructor
    · intro hp
      refine ⟨List.mem_cons_of_mem _ hp,fun e2=>hn.1 ?_⟩
      rw [e,← e2];exact List.mem_map.2 ⟨p,hp,rfl⟩
    · rintro ⟨hp,hne⟩
      rcases List.mem_cons.1 hp with rfl|hp
      · exact absurd e hne
      · exact hp
  · rename_i e
    rw [List.mem_cons,List.mem_cons,ih hn.2]
    constructor
    · rintro (rfl|⟨h1,h2⟩)
      · exact ⟨.inl rfl,e⟩
      · exact ⟨.inr h1,h2⟩
    · rintro ⟨rfl|h1,h2⟩
      · exact .inl rfl
      · exact .inr ⟨h1,h2⟩
end
section
variable {α β:Type} [DecidableEq α] {ks:List Kd} {emb:α→D} {vf:β→D} {G:Gh} {r it:Nat} {m:List (α×β)} {sn:List α}
def zgo (ks:List Kd) (emb:α→D) (vf:β→D) (G:Gh) (r it:Nat) (m:List (α×β)) (sn:List α):Prop :=
 zud ks emb∧∃ es clock since seen last,G.m r=some (.map es clock)∧zce emb vf es m∧(∀ e∈es,e.b<clock)∧(es.map (·.b)).Nodup∧(m.map (·.1)).Nodup ∧
  G.m it=some (.iter (some r) since seen last)∧(∀ e∈es,e.b<since)∧since≤last∧last≤clock∧∀ e∈es,∀ a,e.k=emb a→(e.b∈seen↔a∈sn)
theorem zud.inj (h:zud ks emb) {a b:α} (e:emb a=emb b):a=b:=by
 have:=h.eq a b
 rw [e,h.eq b b] at this
 simpa using this
theorem zgo.toMap (h:zgo ks emb vf G r it m sn):zd8 ks emb vf G r m:=by
 obtain ⟨h1,es,cl,_,_,_,h2,h3,h4,h5,h6,_⟩:=h
 exact ⟨h1,es,cl,h2,h3,h4,h5,h6⟩
theorem zgo.of {G':Gh} (h:zgo ks emb vf G r it m sn) (e1:G'.m r=G.m r) (e2:G'.m it=G.m it):zgo ks emb vf G' r it m sn:=by
 obtain ⟨h1,es,cl,s,sn',la,h2,h3,h4,h5,h6,h7,h8⟩:=h
 exact ⟨h1,es,cl,s,sn',la,by rw [e1,h2],h3,h4,h5,h6,by rw [e2,h7],h8⟩
theorem zgo.set (h:zgo ks emb vf G r it m sn) {b:Nat} {v:Option (List D)}:zgo ks emb vf (G.set b v) r it m sn:=h.of rfl rfl
theorem zgo.ne (h:zgo ks emb vf G r it m sn):it≠r:=by
 obtain ⟨_,_,_,_,_,_,h2,_,_,_,_,h7,_⟩:=h
 rintro rfl;rw [h2] at h7;cases h7
theorem zgo.nodup (h:zgo ks emb vf G r it m sn):(m.map (·.1)).Nodup:=h.toMap.nodup
omit [DecidableEq α] in
theorem zwv {es:List ME} {m:List (α×β)} (h:zce emb vf es m) {e:ME} (he:e∈es):∃ p∈m,e.k=emb p.1∧e.v=vf p.2:=by
 have:(e.k,e.v)∈m.map fun p=>(emb p.1,vf p.2):=by rw [← h];exact List.mem_map.2 ⟨e,he,rfl⟩
 obtain ⟨p,hp,e2⟩:=List.mem_map.1 this
 simp only [Prod.mk.injEq] at e2
 exact ⟨p,hp,e2.1.symm,e2.2.symm⟩
omit [DecidableEq α] in
theorem zty {es:List ME} {m:List (α×β)} (h:zce emb vf es m) {p:α×β} (hp:p∈m):∃ e∈es,e.k=emb p.1∧e.v=vf p.2:=by
 have:(emb p.1,vf p.2)∈es.map fun e=>(e.k,e.v):=by rw [h];exact List.mem_map.2 ⟨p,hp,rfl⟩
 obtain ⟨e,he,e2⟩:=List.mem_map.1 this
 simp only [Prod.mk.injEq] at e2
 exact ⟨e,he,e2.1,e2.2⟩
variable {R:AV→Gh→Prop} {hd:zn R}
theorem zlx (h:zd8 ks emb vf G r m) (hk:∀ it X,G.m it=none→zgo ks emb vf (G.setM it (some X)) r it m []→R (.d (.gp it 0)) (G.setM it (some X))):wGn .rng [.mref r] G hd:=by
 obtain ⟨h1,es,cl,h2,h3,h4,h5,h6⟩:=h
 simp only [wGn,gnW,h2]
 intro it hit
 have hne:r≠it:=by rintro rfl;rw [h2] at hit;cases hit
 refine hk it _ hit ⟨h1,es,cl,cl,[],cl,?_,h3,h4,h5,h6,by simp [upd],h4,Nat.le_refl _,Nat.le_refl _,by simp⟩
 rw [Gh.setM_m,zd3 hne,h2]
theorem zly (h:zgo ks emb vf G r it m sn) (h0:(∀ p∈m,p.1∈sn)→R (.tup [.bool false]) G)
 (h1:∀ a v X,(a,v)∈m→a ∉ sn→zgo ks emb vf (G.setM it (some X)) r it m (sn++[a])→gdD .entry [.gp it 0] (G.setM it (some X))=some (.tup [emb a,vf v],G.setM it (some X))→R (.tup [.bool true,emb a,vf v]) (G.setM it (some X))):wGn .nxt [.gp it 0] G hd:=by
 have hne:=h.ne
 obtain ⟨k1,es,cl,since,seen,last,k2,k3,k4,k5,k6,k7,k8,k9,k10,k11⟩:=h
 simp only [wGn,gnW,k7,k2]
 refine ⟨⟨k8,k9⟩,fun ha=>h0 fun p hp=>?_,fun e he hns=>?_⟩
 · obtain ⟨e,he,e1,_⟩:=zty k3 hp
   exact (k11 e he p.1 e1).1 (ha e he)
 · obtain ⟨⟨a,v⟩,hp,e1,e2⟩:=zwv k3 he
   simp only at e1 e2
   rw [e1,e2]
   refine h1 a v _ hp (fun hs=>hns ((k11 e he a e1).2 hs)) ⟨k1,es,cl,since,seen++[e.b],cl,?_,k3,k4,k5,k6,by simp [upd],k8,by omega,Nat.le_refl _,fun e' he' a' ea'=>?_⟩ ?_
   · rw [Gh.setM_m,zd3 hne.symm,k2]
   · rw [List.mem_append,List.mem_append,k11 e' he' a' ea',List.mem_singleton,List.mem_singleton]
     constructor
     · rintro (h|h)
       · exact .inl h
       · right
         have:e'=e:=nodup_map_inj k5 he' he h
         subst this
         rw [e1] at ea'
         exact (k1.inj ea').symm
     · rintro (h|h)
       · exact .inl h
       · right
         subst h
         have:e'=e:=nodup_keys k1 k3 k6 he' he (by rw [ea',e1])
         rw [this]
   · have hf:es.find? (fun x=>x.b == e.b)=some e:=find_born k5 he
     simp only [gdD,Gh.setM_m,zjs,List.getLast?_concat,zd3 hne.symm,k2,if_true,hf,Option.map_some,e1,e2]
where
 nodup_map_inj {es:List ME} (hn:(es.map (·.b)).Nodup) {x y:ME} (hx:x∈es) (hy:y∈es) (e:x.b=y.b):x=y:=by
  obtain ⟨i,hi,rfl⟩:=List.getElem_of_mem hx
  obtain ⟨j,hj,rfl⟩:=List.getElem_of_mem hy
  have:=(List.getElem_inj (h₀:=by simpa using hi) (h₁:=by simpa using hj) hn).1 (by simpa using e)
  subst this;rfl
 nodup_keys {es:List ME} {m:List (α×β)} (k1:zud ks emb) (k3:zce emb vf es m) (hn:(m.map (·.1)).Nodup) {x y:ME} (hx:x∈es) (hy:y∈es) (e:x.k=y.k):x=y:=by
  obtain ⟨i,hi,rfl⟩:=List.getElem_of_mem hx
  obtain ⟨j,hj,rfl⟩:=List.getElem_of_mem hy
  have hl:es.length=m.length:=by have:=congrArg List.length k3;simpa using this
  have ei:es[i].k=emb (m[i]'(by omega)).1:=by
   have:=congrArg (fun l=>l[i]?) k3
   simp [hi,show i<m.length from by omega] at this;exact this.1
  have ej:es[j].k=emb (m[j]'(by omega)).1:=by
   have:=congrArg (fun l=>l[j]?) k3
   simp [hj,show j<m.length from by omega] at this;exact this.1
  have hk:=k1.inj (ei.symm.trans (e.trans ej))
  have:=(List.getElem_inj (xs:=m.map (·.1)) (i:=i) (j:=j) (h₀:=by simp;omega) (h₁:=by simp;omega) hn).1 (by simpa using hk)
  subst this;rfl
 find_born {es:List ME} (hn:(es.map (·.b)).Nodup) {e:ME} (he:e∈es):es.find? (fun x=>x.b == e.b)=some e:=by
  cases hf:es.find? (fun x=>x.b == e.b) with
  | none=>rw [List.find?_eq_none] at hf;exact absurd (by simp) (hf e he)
  | some y =>
   have h1:=List.find?_some hf
   have h2:=List.mem_of_find?_eq_some hf
   rw [nodup_map_inj hn h2 he (by simpa using h1)]
theorem zgo.delete (h:zgo ks emb vf G r it m sn) (a:α):∃ M,gdD (.mdel ks) [.mref r,emb a] G=some (.tup [],G.setM r (some M))∧zgo ks emb vf (G.setM r (some M)) r it (mdel m a) sn:=by
 have hne:=h.ne
 obtain ⟨k1,es,cl,since,seen,last,k2,k3,k4,k5,k6,k7,k8,k9,k10,k11⟩:=h
 have hmp:zeu G (.mref r)=some (es,cl):=by simp only [zeu,k2]
 rcases zfm k1 a 0 k3 with ⟨e1,e2⟩|⟨j,v,hj,e1,e2,_,e4⟩
 · refine ⟨.map es cl,by simp only [gdD,hmp,k1.keyOk a,e2],k1,es,cl,since,seen,last,by simp [upd],by rw [zg0 e1];exact k3,k4,k5,by rw [zg0 e1];exact k6,by rw [Gh.setM_m,zd3 hne,k7],k8,k9,k10,k11⟩
 · refine ⟨.map (es.eraseIdx j) cl,by simp only [gdD,hmp,k1.keyOk a,e2,Nat.zero_add],k1,es.eraseIdx j,cl,since,seen,last,by simp [upd],e4,fun e he=>k4 e (List.mem_of_mem_eraseIdx he),?_,zfl k6 a,by rw [Gh.setM_m,zd3 hne,k7],fun e he=>k8 e (List.mem_of_mem_eraseIdx he),k9,k10,fun e he=>k11 e (List.mem_of_mem_eraseIdx he)⟩
   exact k5.sublist ((List.eraseIdx_sublist es j).map _)
def zs1 (ks:List Kd) (emb:α→D) (vf:β→D) (r it:Nat) (m:List (α×β)) (sn:List α):As:=fun G=>zgo ks emb vf G r it m sn
theorem zgo.subr {G G':Gh} (h:zgo ks emb vf G r it m sn) (hs:zf0 G G'):zgo ks emb vf G' r it m sn:=by
 obtain ⟨h1,es,cl,s,sn',la,h2,h3,h4,h5,h6,h7,h8⟩:=h
 exact ⟨h1,es,cl,s,sn',la,hs.m _ _ h2,h3,h4,h5,h6,hs.m _ _ h7,h8⟩
theorem Sep.rngl {Rs:List As} (h:Sep (zs1 ks emb vf r it m sn::Rs) G):zgo ks emb vf G r it m sn:=by
 obtain ⟨G1,h1,h2⟩:=h.head
 exact zgo.subr h2 h1
theorem Sep.rngNew {Rs:List As} {X:MO} (h:Sep (zop ks emb vf r m::Rs) G) (hit:G.m it=none) (hr:zgo ks emb vf (G.setM it (some X)) r it m sn):Sep (zs1 ks emb vf r it m sn::Rs) (G.setM it (some X)):=by
 obtain ⟨G1,G2,h1,h2,h3,h4,h5⟩:=h
 have hn2:=h2.noneM hit
 have hne:=hr.ne
 refine ⟨G1.setM it (some X),G2,⟨h1.c,fun i v e=>?_⟩,h2.trans (.newM hit _),⟨h3.c,fun i=>?_⟩,hr.of ?_ ?_,h5⟩
 · simp only [Gh.setM_m,upd] at e ⊢
   split
   · rename_i hi;rw [if_pos hi] at e;exact e
   · rename_i hi;rw [if_neg hi] at e;exact h1.m _ _ e
 · simp only [Gh.setM_m,upd]
   split
   · rename_i hi;subst hi;exact .inr hn2
   · exact h3.m i
 · obtain ⟨_,es,cl,k2,_⟩:=h4
   rw [Gh.setM_m,Gh.setM_m,zd3 hne.symm,zd3 hne.symm,k2,h1.m _ _ k2]
 · rw [Gh.setM_m,Gh.setM_m,zjs,zjs]
theorem Sep.rngSet {Rs:List As} {X:MO} {i:Nat} {m':List (α×β)} {sn':List α} (hi:i=r∨i=it) (h:Sep (zs1 ks emb vf r it m sn::Rs) G) (hr:zgo ks emb vf (G.setM i (some X)) r it m' sn'):Sep (zs1 ks emb vf r it m' sn'::Rs) (G.setM i (some X)):=by
 obtain ⟨G1,G2,h1,h2,h3,h4,h5⟩:=h
 have ex:∀ j,j=r∨j=it→∃ o,G1.m j=some o:=by
  obtain ⟨_,es,cl,s,sn',la,k2,_,_,_,_,k7,_⟩:=h4
  rintro j (rfl|rfl)
  · exact ⟨_,k2⟩
  · exact ⟨_,k7⟩
 obtain ⟨o,ho⟩:=ex i hi
 have hn:G2.m i=none:=(h3.m i).resolve_left (by rw [ho];simp)
 have same:∀ j,j=r∨j=it→(G1.setM i (some X)).m j=(G.setM i (some X)).m j:=by
  intro j hj
  obtain ⟨o,ho⟩:=ex j hj
  simp only [Gh.setM_m,upd]
  split
  · rfl
  · rw [ho,h1.m _ _ ho]
 refine ⟨G1.setM i (some X),G2,⟨h1.c,fun j v e=>?_⟩,⟨h2.c,fun j v e=>?_⟩,⟨h3.c,fun j=>?_⟩,hr.of (same r (.inl rfl)) (same it (.inr rfl)),h5⟩
 · simp only [Gh.setM_m,upd] at e ⊢
   split
   · rename_i hi;rw [if_pos hi] at e;exact e
   · rename_i hi;rw [if_neg hi] at e;exact h1.m _ _ e
 · simp only [Gh.setM_m,upd]
   split
   · rename_i hi;subst hi;rw [hn] at e;cases e
   · exact h2.m _ _ e
 · simp only [Gh.setM_m,upd]
   split
   · rename_i hi;subst hi;exact .inr hn
   · exact h3.m j
theorem Sep.rngEnd {Rs:List As} (h:Sep (zs1 ks emb vf r it m sn::Rs) G):Sep (zop ks emb vf r m::Rs) G:=h.imp fun _ hr=>hr.toMap
end
end Go.E2
namespace Go.E2
def wK (ls:List RL) (ρ:Env) (σ:List Hp) (G:Gh) (st:St) {p:Prop} (_:zn p):Prop:=zji ls ρ σ G st∧p
def vMl (vs:Option (List D)) (ks:List Kd) (z:D) (ok:Bool) (G:Gh):Option AV:=match vs with|some vs=>(gdD (.mlook ks z ok) vs G).map (·.1)|none=>none
@[go_sem] theorem z57 (vs:List D) (ks:List Kd) (z:D) (ok:Bool) (G:Gh):vMl (some vs) ks z ok G=(gdD (.mlook ks z ok) vs G).map (·.1):=rfl
@[go_sem] theorem val_ld (agg:Bool) (n:Nat) (x:AO) (ρ:Env) (σ:List Hp) (G:Gh):(RL.ld agg n x).val ρ σ G=zhr agg n .foreign (zmy::σ) G (ev ρ x):=rfl
@[go_sem] theorem z3e (ks:List Kd) (z:D) (ok:Bool) (m k:AO) (ρ:Env) (σ:List Hp) (G:Gh):(RL.mlook ks z ok m k).val ρ σ G=vMl (zx ρ [m,k]) ks z ok G:=by
  simp only [RL.val,vMl]
  cases zx ρ [m,k]<;>rfl
@[go_sem] theorem wK_nil (ρ:Env) (σ:List Hp) (G:Gh) (st:St) {p:Prop} (h:zn p):wK [] ρ σ G st h=p:=by
  simp [wK,zji]
@[go_sem] theorem z8m (r:RL) (ls:List RL) (ρ:Env) (σ:List Hp) (G:Gh) (ρ':Env) (L':Hp) (σ':List Hp) (G':Gh) {p:Prop} (h:zn p):wK (r::ls) ρ σ G (ρ',L',σ',G') h=wP (r.val ρ' σ' G'=r.val ρ σ G) (zn.mk (a:=wK ls ρ σ G (ρ',L',σ',G') h)):=by
  simp only [wK,zji,wP,List.mem_cons,forall_eq_or_imp,and_assoc]
@[go_sem] theorem z8n (n b off len cap:Nat) (G:Gh) (h:n≤len):gdD (.s2a n) [.gs b off len cap] G=some (.d (.gp b off),G):=by simp only [gdD,h,if_true]
@[go_sem] theorem z58 (sz n b off:Nat) (k:IntKind) (l:Int) (G:Gh) (h0:0≤l) (h1:l<n):gdD (.arrS sz n true false false) [.gp b off,.int k l] G=some (.d (.gs b (off+l.toNat * sz) (n - l.toNat) (n - l.toNat)),G):=by
  have e:zq0 true 0 [.int k l]=some (l,[]):=rfl
  have e2:zq0 false n []=some ((n:Int),[]):=rfl
  simp only [gdD,e,e2]
  rw [if_pos ⟨h0,by omega,by omega,by omega⟩,if_neg (by omega)]
  simp
@[go_sem] theorem z59 (sz n b off:Nat) (k k':IntKind) (l h:Int) (G:Gh) (h0:0≤l) (h1:l<n) (h2:l≤h) (h3:h≤n):gdD (.arrS sz n true true false) [.gp b off,.int k l,.int k' h] G=some (.d (.gs b (off+l.toNat * sz) (h.toNat - l.toNat) (n - l.toNat)),G):=by
  have e:zq0 true 0 [.int k l,.int k' h]=some (l,[.int k' h]):=rfl
  have e2:zq0 true n [.int k' h]=some (h,[]):=rfl
  have e3:zq0 false n []=some ((n:Int),[]):=rfl
  simp only [gdD,e,e2,e3]
  rw [if_pos ⟨h0,h2,by omega,by omega⟩,if_neg (by omega)]
  simp
@[go_sem] theorem z6a (sz n b off:Nat) (k':IntKind) (h:Int) (G:Gh) (h0:0≤h) (h3:h≤n):gdD (.arrS sz n false true false) [.gp b off,.int k' h] G=some (.d (.gs b off h.toNat n),G):=by
  have e:zq0 false 0 [.int k' h]=some (((0:Nat):Int),[.int k' h]):=rfl
  have e2:zq0 true n [.int k' h]=some (h,[]):=rfl
  have e3:zq0 false n []=some ((n:Int),[]):=rfl
  simp only [gdD,e,e2,e3]
  rw [if_pos ⟨by omega,by omega,by omega,by omega⟩]
  simp
section
variable {P:Program} {os:List AI} {l:List (Nat×AV)} {L:Hp} {σ:List Hp} {G:Gh} {K:St→Prop}
theorem ze3 {d:Option Nat} {ls:List RL} {op:AOp} (hn:∀ ls' op',op≠.kp ls' op'):zab P (⟨d,.kp ls op,none⟩::os) (E l) L σ G K=zab P [⟨d,op,none⟩] (E l) L σ G (fun st=>wK ls (E l) σ G st (zn.mk (a:=zab P os st.1 st.2.1 st.2.2.1 st.2.2.2 K))):=by
 simp only [zab,zag,zar,wK,eq_iff_iff]
 cases op with
 | kp ls' op'=>exact absurd rfl (hn _ _)
 | _=>exact Iff.rfl
@[go_sem ↓] theorem zyo {d:Option Nat} {ls:List RL} {f:AO} {as:List AO} {q:Nat}:zab P (⟨d,.kp ls (.call f as q),none⟩::os) (E l) L σ G K=zab P [⟨d,.call f as q,none⟩] (E l) L σ G (fun st=>wK ls (E l) σ G st (zn.mk (a:=zab P os st.1 st.2.1 st.2.2.1 st.2.2.2 K))):=ze3 (by intros;simp)
@[go_sem ↓] theorem zyp {d:Option Nat} {ls:List RL} {a b:Nat} {z:List D} {x y:AO}:zab P (⟨d,.kp ls (.appG a b z x y),none⟩::os) (E l) L σ G K=zab P [⟨d,.appG a b z x y,none⟩] (E l) L σ G (fun st=>wK ls (E l) σ G st (zn.mk (a:=zab P os st.1 st.2.1 st.2.2.1 st.2.2.2 K))):=ze3 (by intros;simp)
@[go_sem ↓] theorem zyq {d:Option Nat} {ls:List RL} {a b:Nat} {z:List D} {x y:AO}:zab P (⟨d,.kp ls (.appZ a b z x y),none⟩::os) (E l) L σ G K=zab P [⟨d,.appZ a b z x y,none⟩] (E l) L σ G (fun st=>wK ls (E l) σ G st (zn.mk (a:=zab P os st.1 st.2.1 st.2.2.1 st.2.2.2 K))):=ze3 (by intros;simp)
@[go_sem ↓] theorem zww {d:Option Nat} {ls:List RL} {n:Nat} {a v:AO} {r:Root}:zab P (⟨d,.kp ls (.store n a v r),none⟩::os) (E l) L σ G K=zab P [⟨d,.store n a v r,none⟩] (E l) L σ G (fun st=>wK ls (E l) σ G st (zn.mk (a:=zab P os st.1 st.2.1 st.2.2.1 st.2.2.2 K))):=ze3 (by intros;simp)
@[go_sem ↓] theorem zyr {d:Option Nat} {ls:List RL} {n:Nat} {x y:AO}:zab P (⟨d,.kp ls (.copy n x y),none⟩::os) (E l) L σ G K=zab P [⟨d,.copy n x y,none⟩] (E l) L σ G (fun st=>wK ls (E l) σ G st (zn.mk (a:=zab P os st.1 st.2.1 st.2.2.1 st.2.2.2 K))):=ze3 (by intros;simp)
@[go_sem ↓] theorem z1s {d:Option Nat} {ls:List RL} {k:GD} {as:List AO}:zab P (⟨d,.kp ls (.gd k as),none⟩::os) (E l) L σ G K=zab P [⟨d,.gd k as,none⟩] (E l) L σ G (fun st=>wK ls (E l) σ G st (zn.mk (a:=zab P os st.1 st.2.1 st.2.2.1 st.2.2.2 K))):=ze3 (by intros;simp)
@[go_sem ↓] theorem z1t {d:Option Nat} {ls:List RL} {k:GN} {as:List AO}:zab P (⟨d,.kp ls (.gn k as),none⟩::os) (E l) L σ G K=zab P [⟨d,.gn k as,none⟩] (E l) L σ G (fun st=>wK ls (E l) σ G st (zn.mk (a:=zab P os st.1 st.2.1 st.2.2.1 st.2.2.2 K))):=ze3 (by intros;simp)
@[go_sem ↓] theorem zzl {d:Option Nat} {ls:List RL} {a n:Nat} {z:D} {ps:List (Nat×AO)}:zab P (⟨d,.kp ls (.mkG a n z ps),none⟩::os) (E l) L σ G K=zab P [⟨d,.mkG a n z ps,none⟩] (E l) L σ G (fun st=>wK ls (E l) σ G st (zn.mk (a:=zab P os st.1 st.2.1 st.2.2.1 st.2.2.2 K))):=ze3 (by intros;simp)
end
end Go.E2
namespace Go.E2
variable {P:Program} {K:St→Prop} {ρ:Env} {L:Hp} {σ:List Hp} {G:Gh}
theorem nn {a b:Prop} (x:a) (y:b):a∧b:=⟨x,y⟩
theorem goS {p q F:Prop} (f:F) (hq:q) (h:F→q→p:=by intro f hq;simp -dsimp (disch:=first|omega|(simp only [go_sem];omega)) only [go_sem,seval,Nat.reduceEqDiff,Nat.reduceLeDiff,f];exact hq):p:=h f hq
theorem goR {p q F:Prop} (f:F) (hq:q) (h:F→q→p:=by
 intro f hq
 repeat (first|(with_reducible first|refine W.seq ?_|refine W.block ?_|refine W.scope ?_)|((with_reducible first|refine W.reg ?_|refine W.skip ?_|refine W.exit ?_|refine W.ret ?_|refine W.ifc ?_);simp -dsimp (disch:=first|omega|(simp only [go_sem];omega)) only [go_sem,seval,Nat.reduceEqDiff,Nat.reduceLeDiff,f]))
 exact hq):p:=h f hq
theorem goM {d:Option Nat} {f:AO} {args:List AO} {g:FuncId} {xs:List D} {pre R:List As} {Q:AV→List As→Prop} {q:Nat} {h:zn K}
 (hc:zy P g xs pre Q) (hs:Sep (pre++R) G) (hK:∀ r post G',Q r post→Sep (post++R) G'→K (put ρ d r,L,σ,G')) (hq:q=0∨q=2:=by decide)
 (ht:target (ev ρ f)=some (g,[])∧zx ρ args=some xs:=by simp -dsimp (disch:=first|omega|(simp only [go_sem];omega)) only [go_sem,seval,Nat.reduceEqDiff,Nat.reduceLeDiff]<;>rfl):wC P d f args q ρ L σ G h:=z8h hc hs hq ht hK
theorem goQ {d:Option Nat} {f:AO} {args:List AO} {q:Nat} {g:FuncId} {xs:List D} {v:AV} {h:zn K}
 (hc:zjp P g xs G (·=v)) (hK:K (put ρ d v,L,σ,G)) (ht:target (ev ρ f)=some (g,[])∧zx ρ args=some xs:=by simp -dsimp (disch:=first|omega|(simp only [go_sem];omega)) only [go_sem,seval,Nat.reduceEqDiff,Nat.reduceLeDiff]<;>rfl):wC P d f args q ρ L σ G h:=wC_Q hc ht fun r e=>by rw [e];exact hK
theorem goC {d:Option Nat} {f:AO} {args:List AO} {q:Nat} {g:FuncId} {xs:List D} {v:AV} {h:zn K}
 (hc:zb2 P g xs (·=v)) (hK:K (put ρ d v,L,σ,G)) (ht:target (ev ρ f)=some (g,[])∧zx ρ args=some xs:=by simp -dsimp (disch:=first|omega|(simp only [go_sem];omega)) only [go_sem,seval,Nat.reduceEqDiff,Nat.reduceLeDiff]<;>rfl):wC P d f args q ρ L σ G h:=wC_P hc ht fun r e=>by rw [e];exact hK
theorem zca {l l':List (Nat×AV)} {L:Hp} {σ:List Hp} {G:Gh} (h:∀ p∈l',VLe (E l p.1) p.2:=by
 simp -dsimp (disch:=first|omega|(simp only [go_sem];omega)) only [go_sem,seval,Nat.reduceEqDiff,Nat.reduceLeDiff]<;>((repeat' apply And.intro)<;>first|exact VLe.refl _|(apply zd2;omega)|(apply zd2;simp;done)|exact VLe.own _ _|exact VLe.nilown _|exact VLe.norm _)):zs3 (E l,L,σ,G) (E l',L,σ,G):=zt3 h
theorem zt {l l':List (Nat×AV)} {h h':List (Nat×Blk)} {σ:List Hp} {G:Gh} (hb:HB h=HB h') (he:∀ p∈l',VLe (E l p.1) p.2:=by
 simp -dsimp (disch:=first|omega|(simp only [go_sem];omega)) only [go_sem,seval,Nat.reduceEqDiff,Nat.reduceLeDiff]<;>((repeat' apply And.intro)<;>first|exact VLe.refl _|(apply zd2;omega)|(apply zd2;simp;done)|exact VLe.own _ _|exact VLe.nilown _|exact VLe.norm _)):zs3 (E l,HB h,σ,G) (E l',HB h',σ,G):=z4o he hb
theorem goD {p:Prop} (h:p:=by simp -dsimp (disch:=first|omega|(simp only [go_sem];omega)) only [go_sem,seval,Nat.reduceEqDiff,Nat.reduceLeDiff]):p:=h
end Go.E2
namespace Go.E2
variable {P:Program} {K:St→Prop} {ρ:Env} {L:Hp} {σ:List Hp} {G:Gh}
structure Br (a b:Prop) (q1:a→Prop) (q2:b→Prop):Prop where
 l:∀ h,q1 h
 r:∀ h,q2 h
theorem wX {p:Prop} [Decidable p] {k1 k2:Prop} {q1:p→Prop} {q2:¬ p→Prop} {i1:zn k1} {i2:zn k2} (hq:Br p (¬ p) q1 q2) (h1:∀ h:p,p=True→q1 h→k1) (h2:∀ h:¬ p,p=False→q2 h→k2):wG (.d (.bool (decide p))) true i1 i2 :=
 zni (fun h=>h1 h (eq_true h) (hq.l h)) (fun h=>h2 h (eq_false h) (hq.r h))
theorem wXF {p:Prop} [Decidable p] {k1 k2:Prop} {q1:¬ p→Prop} {q2:p→Prop} {i1:zn k1} {i2:zn k2} (hq:Br (¬ p) p q1 q2) (h1:∀ h:¬ p,p=False→q1 h→k1) (h2:∀ h:p,p=True→q2 h→k2):wG (.d (.bool (decide p))) false i1 i2 :=
 z0b (fun h=>h1 h (eq_false h) (hq.l h)) (fun h=>h2 h (eq_true h) (hq.r h))
theorem goX {p F:Prop} {q:F→Prop} (f:F) (hq:q f) (h:∀ f:F,q f→p:=by
 intro f hq
 repeat' (first
  | (with_reducible first|refine W.seq ?_|refine W.block ?_|refine W.scope ?_)
  | ((first
      | (with_reducible first|refine W.reg ?_|refine W.skip ?_|refine W.exit ?_|refine W.ret ?_|refine W.ifc ?_)
      | ((with_reducible first|apply wX hq|apply wXF hq)<;>(try (intro _ hG hq;show (_:Prop);(try simp -dsimp only [hG,decide_true,decide_false,not_true_eq_false,not_false_eq_true]);clear hG))))
     <;> (try simp -dsimp (disch:=first|omega|(simp only [go_sem];omega)) only [go_sem,seval,Nat.reduceEqDiff,Nat.reduceLeDiff,f]))
  | simp -dsimp (disch:=first|omega|(simp only [go_sem];omega)) only [go_sem,seval,Nat.reduceEqDiff,Nat.reduceLeDiff,f])
 all_goals exact hq):p:=h f hq
theorem zg1 {p F C1:Prop} {q:F→Prop} (f:F) (c1:C1) (hq:q f) (h:∀ f:F,C1→q f→p:=by
 intro f c1 hq
 repeat' (first
  | (with_reducible first|refine W.seq ?_|refine W.block ?_|refine W.scope ?_)
  | ((first
      | (with_reducible first|refine W.reg ?_|refine W.skip ?_|refine W.exit ?_|refine W.ret ?_|refine W.ifc ?_)
      | refine goC c1 ?_|refine goQ c1 ?_
      | ((with_reducible first|apply wX hq|apply wXF hq)<;>(try (intro _ hG hq;show (_:Prop);(try simp -dsimp only [hG,decide_true,decide_false,not_true_eq_false,not_false_eq_true]);clear hG))))
     <;> (try simp -dsimp (disch:=first|omega|(simp only [go_sem];omega)) only [go_sem,seval,Nat.reduceEqDiff,Nat.reduceLeDiff,f]))
  | simp -dsimp (disch:=first|omega|(simp only [go_sem];omega)) only [go_sem,seval,Nat.reduceEqDiff,Nat.reduceLeDiff,f])
 all_goals exact hq):p:=h f c1 hq
theorem z6b {p F C1 C2:Prop} {q:F→Prop} (f:F) (c1:C1) (c2:C2) (hq:q f) (h:∀ f:F,C1→C2→q f→p:=by
 intro f c1 c2 hq
 repeat' (first
  | (with_reducible first|refine W.seq ?_|refine W.block ?_|refine W.scope ?_)
  | ((first
      | (with_reducible first|refine W.reg ?_|refine W.skip ?_|refine W.exit ?_|refine W.ret ?_|refine W.ifc ?_)
      | refine goC c1 ?_|refine goQ c1 ?_|refine goC c2 ?_|refine goQ c2 ?_
      | ((with_reducible first|apply wX hq|apply wXF hq)<;>(try (intro _ hG hq;show (_:Prop);(try simp -dsimp only [hG,decide_true,decide_false,not_true_eq_false,not_false_eq_true]);clear hG))))
     <;> (try simp -dsimp (disch:=first|omega|(simp only [go_sem];omega)) only [go_sem,seval,Nat.reduceEqDiff,Nat.reduceLeDiff,f]))
  | simp -dsimp (disch:=first|omega|(simp only [go_sem];omega)) only [go_sem,seval,Nat.reduceEqDiff,Nat.reduceLeDiff,f])
 all_goals exact hq):p:=h f c1 c2 hq
theorem goX3 {p F C1 C2 C3:Prop} {q:F→Prop} (f:F) (c1:C1) (c2:C2) (c3:C3) (hq:q f) (h:∀ f:F,C1→C2→C3→q f→p:=by
 intro f c1 c2 c3 hq
 repeat' (first
  | (with_reducible first|refine W.seq ?_|refine W.block ?_|refine W.scope ?_)
  | ((first
      | (with_reducible first|refine W.reg ?_|refine W.skip ?_|refine W.exit ?_|refine W.ret ?_|refine W.ifc ?_)
      | refine goC c1 ?_|refine goQ c1 ?_|refine goC c2 ?_|refine goQ c2 ?_|refine goC c3 ?_|refine goQ c3 ?_
      | ((with_reducible first|apply wX hq|apply wXF hq)<;>(try (intro _ hG hq;show (_:Prop);(try simp -dsimp only [hG,decide_true,decide_false,not_true_eq_false,not_false_eq_true]);clear hG))))
     <;> (try simp -dsimp (disch:=first|omega|(simp only [go_sem];omega)) only [go_sem,seval,Nat.reduceEqDiff,Nat.reduceLeDiff,f]))
  | simp -dsimp (disch:=first|omega|(simp only [go_sem];omega)) only [go_sem,seval,Nat.reduceEqDiff,Nat.reduceLeDiff,f])
 all_goals exact hq):p:=h f c1 c2 c3 hq
end Go.E2
namespace Go.E2
@[go_sem] theorem z8o (f:FuncId) (ds:List D) (G:Gh):gdD (.bnd f) ds G=if ds.all D.one=true then some (.d (.bnd f ds),G) else none:=by simp only [gdD]
@[go_sem] theorem z1u (neg:Bool) (f:FuncId) (ds:List D) (G:Gh):gdD (.pnil 2 neg) [.bnd f ds] G=some (.d (.bool neg),G):=rfl
def z6c (b off:Nat) (f:Option FuncId):AV:=match f with|some f=>.d (.bnd f [.gp b off])|none=>.undef
@[go_sem] theorem z3f (b off:Nat) (f:FuncId):z6c b off (some f)=.d (.bnd f [.gp b off]):=rfl
def zzm (tab:List (Nat×FuncId)) (v:AV):AV:=match v with|.d (.ifc t b off)=>z6c b off (tab.lookup t)|_=>.undef
@[go_sem] theorem ev_m (ρ:Env) (i:Nat) (tab:List (Nat×FuncId)):ev ρ (.m i tab)=zzm tab (ρ i):=by
  simp only [ev,zzm,z6c]
  cases ρ i with
  | d x=>cases x<;>first|rfl|(split<;>simp_all)
  | _=>rfl
@[go_sem] theorem z3g (tab:List (Nat×FuncId)) (t b off:Nat):zzm tab (.d (.ifc t b off))=z6c b off (tab.lookup t):=rfl
@[go_sem] theorem z3h (t k:Nat) (f:FuncId) (l:List (Nat×FuncId)):List.lookup t ((k,f)::l)=if t=k then some f else List.lookup t l:=by
  rw [List.lookup_cons]
  by_cases h:t=k
  · subst h;simp
  · have:(t == k)=false:=by simpa using h
    rw [this,if_neg h]
@[go_sem] theorem z8p (t b off:Nat) (G:Gh):gdD (.mkI t) [.gp b off] G=some (.d (.ifc t b off),G):=rfl
section
variable {P:Program} {K:St→Prop} {ρ:Env} {L:Hp} {σ:List Hp} {G:Gh} {d:Option Nat} {f:AO} {args:List AO} {q:Nat} {g:FuncId} {xs vs:List D}
theorem z8q {Q:AV→Gh→Prop} {h:zn K} (hc:∀ σ,zaq P g ((xs++vs).map .d) σ G fun r σ' G'=>σ'=σ∧Q r G') (hx:q=1∨q=3→∀ r G',Q r G'→zjg G G') (hf:ev ρ f=.d (.bnd g xs)) (hd:zx ρ args=some vs)
 (hK:∀ r G',Q r G'→K (put ρ d r,L,σ,G')):wC P d f args q ρ L σ G h:=by
 show zcw P d f args q ρ L σ G K
 unfold zcw
 rw [hf]
 simp only [target,zwb,hd]
 split
 · exact (hc _).mono fun r lv G' ⟨h1,h3⟩=>by subst h1;exact hK r G' h3
 · exact (hc _).mono fun r lv G' ⟨h1,h3⟩=>by subst h1;exact ⟨rfl,fun e=>hx e _ _ h3,hK r G' h3⟩
theorem goK {cs:List D} {v:AV} {h:zn K} (hc:zjp P g (vs++cs) G (·=v)) (hK:K (put ρ d v,L,σ,G))
 (ht:target (ev ρ f)=some (g,cs.map .d)∧zx ρ args=some vs:=by simp -dsimp (disch:=first|omega|(simp only [go_sem];omega)) only [go_sem,seval,Nat.reduceEqDiff,Nat.reduceLeDiff]<;>rfl):wC P d f args q ρ L σ G h :=
 zqm (Q:=(·=v)) (fun σ=>(hc σ).mono fun r lv G' ⟨h1,h2,h3⟩=>⟨h1,h2,h3⟩) ht.1 ht.2 fun r e=>by rw [e];exact hK
theorem z3i {pre R:List As} {Q:AV→List As→Prop} {h:zn K} (hc:zy P g (xs++vs) pre Q) (hs:Sep (pre++R) G) (hq:q=0∨q=2) (ht:ev ρ f=.d (.bnd g xs)∧zx ρ args=some vs)
 (hK:∀ r post G',Q r post→Sep (post++R) G'→K (put ρ d r,L,σ,G')):wC P d f args q ρ L σ G h :=
 z8q (Q:=fun r G'=>∃ post,Q r post∧Sep (post++R) G') (fun σ=>(hc R G σ hs).mono fun r lv G' ⟨h1,post,h2,h3⟩=>⟨h1,post,h2,h3⟩) (fun e=>by omega) ht.1 ht.2 fun r G' ⟨post,h2,h3⟩=>hK r post G' h2 h3
theorem goI {x:D} {pre R:List As} {Q:AV→List As→Prop} {h:zn K} (hc:zy P g (x::vs) pre Q) (hs:Sep (pre++R) G)
 (hK:∀ r post G',Q r post→Sep (post++R) G'→K (put ρ d r,L,σ,G')) (hq:q=0∨q=2:=by decide)
 (ht:ev ρ f=.d (.bnd g [x])∧zx ρ args=some vs:=by simp -dsimp (disch:=first|omega|(simp only [go_sem];omega)) only [go_sem,seval,Nat.reduceEqDiff,Nat.reduceLeDiff]<;>rfl):wC P d f args q ρ L σ G h :=
 z3i (xs:=[x]) hc hs hq ht hK
end
end Go.E2
namespace Go.E2
def zlz (ops:List Oper):Option (Nat×FuncId×Array Operand) :=
 match ops with
 | [o,p] =>
  match o.dst,o.op,o.guard,p.dst,p.op,p.guard with
  | some d,.makeFunc (.func f) first caps,none,none,.defer cl,none =>
   (match cl.callee with
   | .value (.tmp e)=>if first.isEmpty && cl.args.isEmpty && e == d then some (d,f,caps) else none
   | _=>none)
  | _,_,_,_,_,_=>none
 | _=>none
def zcd:Code→Option (List Code×(Nat×FuncId×Array Operand)×Code)
 | .seq a b =>
  (match a with
  | .region _ ops false=>(match zlz ops.toList with
    | some x=>some ([],x,b)
    | none=>(zcd b).map fun y=>(a::y.1,y.2.1,y.2.2))
  | _=>(zcd b).map fun y=>(a::y.1,y.2.1,y.2.2))
 | _=>none
structure AFuncD where
 nt:Nat
 res:List zfz
 pre:List ACode
 d:Nat
 f:FuncId
 caps:List AO
 body:ACode
def zg2 (P:Program) (gs:List Nat) (f:FuncId):Option AFuncD :=
 match P.funcs[f]? with
 | none=>none
 | some fn =>
  match fn.body with
  | none=>none
  | some c =>
   if fn.name == "runtime.NumGoroutine" then none else
   match zcd c with
   | some (as,(d,g,caps),b) =>
    (match zkm P fn.results.toList,as.mapM (zai P gs fn.ntmps (zbp c)),cOs caps.toList,zai P gs fn.ntmps (zbp c) b with
    | some res,some pre,some caps,some body=>if d<fn.ntmps then some { nt:=fn.ntmps,res,pre,d,f:=g,caps,body } else none
    | _,_,_,_=>none)
   | none=>none
theorem znh {P:Program} {gs:List Nat} {f:FuncId} {af:AFuncD} (h:zg2 P gs f=some af) :
 ∃ fn c as b caps, P.funcs[f]? = some fn ∧ fn.body = some c ∧ (fn.name == "runtime.NumGoroutine") = false ∧ zcd c = some (as, (af.d, af.f, caps), b) ∧ zkm P fn.results.toList = some af.res ∧
   as.mapM (zai P gs fn.ntmps (zbp c))=some af.pre∧cOs caps.toList=some af.caps∧zai P gs fn.ntmps (zbp c) b=some af.body∧af.d<fn.ntmps:=by
 unfold zg2 at h
 split at h
 · cases h
 · rename_i fn hf
   split at h
   · cases h
   · rename_i c hb
     split at h
     · cases h
     · rename_i hn
       split at h
       · rename_i as d g caps b hs
         split at h
         · rename_i res pre caps' body h1 h2 h3 h4
           split at h
           · rename_i h5
             cases h
             exact ⟨fn,c,as,b,caps,hf,hb,by simpa using hn,hs,h1,h2,h3,h4,h5⟩
           · cases h
         · cases h
       · cases h
theorem zo1 {ops:List Oper} {d:Nat} {f:FuncId} {caps:Array Operand} (h:zlz ops=some (d,f,caps)):∃ o p cl,ops=[o,p]∧o.dst=some d∧o.op=.makeFunc (.func f) #[] caps∧o.guard=none ∧
 p.dst=none∧p.op=.defer cl∧p.guard=none∧cl.callee=.value (.tmp d)∧cl.args=#[]:=by
 unfold zlz at h
 split at h
 · rename_i o p
   split at h
   · rename_i d' f' first caps' cl h1 h2 h3 h4 h5 h6
     split at h
     · rename_i e he
       split at h
       · rename_i hc
         cases h
         simp only [Bool.and_eq_true,Array.isEmpty_iff,beq_iff_eq] at hc
         obtain ⟨⟨rfl,h8⟩,rfl⟩:=hc
         exact ⟨o,p,cl,rfl,h1,h2,h3,h4,h5,h6,he,h8⟩
       · cases h
     · cases h
   · cases h
 · cases h
def zk9 (a:Act) (d:Nat) (f:FuncId) (caps:Array Operand):Act :=
 { a.put (some d) (.func (.func f) #[] (caps.map a.eval)) with defers:={ target:=.fn (.func f) (caps.map a.eval),args:=#[] }::a.defers }
theorem z3j {P:Program} {id:Nat} {ops:Array Oper} {d:Nat} {f:FuncId} {caps:Array Operand} {b:Code} {Q:Exit→Act→World→Prop} {a:Act} {w:World} (hi:zlz ops.toList=some (d,f,caps)) (hd:d<a.tmps.size)
 (h:b.wpIn Fence.wide 0 P Q (zk9 a d f caps) w):(Code.seq (.region id ops false) b).wpIn Fence.wide 0 P Q a w:=by
 obtain ⟨o,p,cl,he,h1,h2,h3,h4,h5,h6,h7,h8⟩:=zo1 hi
 refine wpIn_seq (wpIn_region_list ?_)
 rw [he]
 refine wpListIn_step fun K hK=>?_
 rw [if_pos (by simp [Region.wanted,h3])]
 refine ⟨fun _ _=>trivial,?_⟩
 rw [Oper.semAt_eq _ _ _ (by simp [h2])]
 have e1:(execOp a.eval o).run P w=.ok (.value (.func (.func f) #[] (caps.map a.eval))) w:=by
  simp [execOp,h2,Instr.makeFunc]
 rw [e1]
 refine hK _ _ ?_
 refine wpListIn_step fun K hK=>?_
 rw [if_pos (by simp [Region.wanted,h6])]
 refine ⟨fun _ _=>trivial,?_⟩
 have e2:(a.put o.dst (.func (.func f) #[] (caps.map a.eval))).eval (.tmp d)=.func (.func f) #[] (caps.map a.eval):=by
  rw [h1]
  show (a.tmps.setIfInBounds d _).getD d undef=_
  simp [Array.getD_eq_getD_getElem?,hd]
 have e3:((p.semAt Fence.wide.round (a.put o.dst (.func (.func f) #[] (caps.map a.eval))).eval).run P w)=.ok (.defer { target:=.fn (.func f) (caps.map a.eval),args:=#[] }) w:=by
  show ((p.semAt none _).run P w)=_
  rw [Oper.semAt_none]
  simp [execOp,h5,resolve,h7,h8,e2,Deferred.ofValue]
 rw [e3]
 refine hK _ _ (wpListIn_nil ?_)
 rw [h4,h1]
 exact h
def WL [DD] (P:Program):List ACode→(zay→St→Prop)→St→Prop
 | [],κ,st=>κ .normal st
 | c::cs,κ,st=>W P c (zn.mk (a:=zay.then (fun st'=>WL P cs κ st') κ)) st
section
variable {P:Program} {S0:Stb} {ms0:List (Nat→Nat)} {base:Nat} {O:Nat→Prop} {σ0:List Hp} {a0:Act} {w0:World}
theorem preD (hm:P.follows .mixedOrders=true) {gs:List Nat} {nt:Nat} {defs:List Oper} {d:Nat} {f:FuncId} {caps:Array Operand} {b:Code} {κ:zay→St→Prop} {Q:Exit→Act→World→Prop} (hnt:nt≤a0.tmps.size) (hd:d<nt)
 (hret:∀ e a' w',z1p S0 ms0 base O σ0 a0 w0 κ e a' w'→e≠.normal→Q e a' w') (hdef:∀ st a' w',κ .normal st→zbg S0 ms0 base O σ0 a0 w0 st a' w'→b.wpIn Fence.wide 0 P Q (zk9 a' d f caps) w') :
 ∀ (c:Code) (as:List Code),zcd c=some (as,(d,f,caps),b)→∀ (acs:List ACode),as.mapM (zai P gs nt defs)=some acs→∀ (st:St) (a:Act) (w:World),WL P acs κ st→zbg S0 ms0 base O σ0 a0 w0 st a w→c.wpIn Fence.wide 0 P Q a w
 | .seq x y,as,hs,acs,hc,st,a,w,h,ha=>by
   have gen:∀ {as:List Code},((zcd y).map fun z=>(x::z.1,z.2.1,z.2.2))=some (as,(d,f,caps),b)→∀ (acs:List ACode),as.mapM (zai P gs nt defs)=some acs→WL P acs κ st→(Code.seq x y).wpIn Fence.wide 0 P Q a w:=by
    intro as hs acs hc h
    simp only [Option.map_eq_some_iff,Prod.mk.injEq] at hs
    obtain ⟨⟨as1,x1,b1⟩,hy,rfl,rfl,rfl⟩:=hs
    rw [List.mapM_cons] at hc
    simp only [Option.pure_def,Option.bind_eq_bind,Option.bind_eq_some_iff,Option.some.injEq] at hc
    obtain ⟨ac,hac,acs1,hacs,rfl⟩:=hc
    have hsz:=ha.sz
    obtain ⟨⟨S',m',ow',hrel,hevo⟩,hsh,_⟩:=ha
    have hx:SW P ac (zay.then (fun st'=>WL P acs1 κ st') κ) st:=h
    refine wpIn_seq (wpIn_mono (hx hm none gs nt defs x hac S' _ _ _ _ a w hrel zr3.none (by rw [hsz];exact hnt)) fun e a1 w1 hq=>?_)
    cases e with
    | normal =>
     obtain ⟨st1,h1,h2⟩:=hq
     exact preD hm hnt hd hret hdef y as1 hy acs1 hacs st1 a1 w1 h1 (zbg.trans hevo hsh hsz h2)
    | exit id =>
     obtain ⟨st1,h1,h2⟩:=hq
     exact hret _ _ _ ⟨st1,h1,zbg.trans hevo hsh hsz h2⟩ (by simp)
    | ret =>
     obtain ⟨st1,h1,h2⟩:=hq
     exact hret _ _ _ ⟨st1,h1,zbg.trans hevo hsh hsz h2⟩ (by simp)
    | _=>exact hq.elim
   unfold zcd at hs
   split at hs
   · rename_i id ops
     split at hs
     · rename_i x1 hi
       cases hs
       simp at hc
       subst hc
       exact z3j hi (by rw [ha.sz];omega) (hdef _ _ _ h ha)
     · exact gen hs acs hc h
   · exact gen hs acs hc h
 | .skip,as,hs,_,_,_,_,_,_,_=>by simp [zcd] at hs
 | .region _ _ _,as,hs,_,_,_,_,_,_,_=>by simp [zcd] at hs
 | .cond _ _ _,as,hs,_,_,_,_,_,_,_=>by simp [zcd] at hs
 | .block _ _,as,hs,_,_,_,_,_,_,_=>by simp [zcd] at hs
 | .loop _,as,hs,_,_,_,_,_,_,_=>by simp [zcd] at hs
 | .rangeFunc _ _ _ _,as,hs,_,_,_,_,_,_,_=>by simp [zcd] at hs
 | .exit _,as,hs,_,_,_,_,_,_,_=>by simp [zcd] at hs
 | .scope _,as,hs,_,_,_,_,_,_,_=>by simp [zcd] at hs
 | .label _,as,hs,_,_,_,_,_,_,_=>by simp [zcd] at hs
 | .goto _,as,hs,_,_,_,_,_,_,_=>by simp [zcd] at hs
 | .ret,as,hs,_,_,_,_,_,_,_=>by simp [zcd] at hs
 | .refuse _,as,hs,_,_,_,_,_,_,_=>by simp [zcd] at hs
end
theorem zgb {P:Program} {F:Fence} {n:Nat} {fn:Func} {R:Value→World→Prop}:∀ (ds:List Deferred) (w:World) (fr:Frame) (cs:List Frame),fr.mode=.returning→fr.defers=ds→zcc P fn fr.tmps R ds w→F.fn fr.fn→F.room (cs.length+1+n) →
 ∃ v w' fr',R v w'∧StepsIn (Machine.fenced P F) P (lone fr cs w) (lone fr' cs w')∧fr'.kind=fr.kind∧fr'.fn=fr.fn∧fr'.mode=.returning∧fr'.defers=[]∧(results fn fr'.tmps).run P w'=.ok v w'
 | [],w,fr,cs,hm,hd,h,hb,hr=>by
   obtain ⟨v,h1,h2⟩:=h
   exact ⟨v,w,fr,h2,StepsIn.refl _,rfl,rfl,hm,hd,h1⟩
 | d::ds,w,fr,cs,hm,hd,h,hb,hr=>by
   obtain ⟨r,w',h1,h2,h3⟩:=h
   have hrun:fr.mode≠.run:=by rw [hm];simp
   have s1:=step_collected (cs:=cs) hrun hd h1 h2
   have i1:(lone fr cs w).fenced P F:=fenced_out hb hr hrun hd (fun g hg=>by rw [h1] at hg;simp [Target.leads] at hg)
   obtain ⟨v,w'',fr',k1,k2,k3,k4,k5,k6,k7⟩:=zgb (n:=n) ds w' { fr with defers:=[]++ds } cs hm rfl h3 hb hr
   exact ⟨v,w'',fr',k1,.head i1 s1 k2,k3,k4,k5,k6,k7⟩
theorem zhq {P:Program} {f:FuncId} {fn:Func} {c:Code} {args:Array Value} {u:FrameMode} {w:World} {R:Value→World→Prop} (hf:P.funcs[f]?=some fn) (hb:fn.body=some c)
 (h:c.wpIn Fence.wide 0 P (fun e a w=>(e=.normal∨e=.ret)∧zcc P fn a.tmps R a.defers w) { tmps:=args++Array.replicate (fn.ntmps - args.size) undef,defers:=[] } w) :
 CallsDIn Fence.wide 0 P f args u w fun e u' w'=>u'=u∧∃ v,e=.returned v∧R v w':=by
 refine ⟨trivial,fun c₀ cs hu hr=>?_⟩
 let b:Frame:={ (default:Frame) with fn:=f,kind:=.deferred,roundOf:=none }
 have henter:Frame.enter P f args .deferred =
  b.atR { tmps:=args++Array.replicate (fn.ntmps - args.size) undef,defers:=[] } [.code c]:=by
  simp [Frame.enter,Frame.atR,hf,hb,b]
 have hc:({ c₀ with mode:=u }:Frame)=c₀:=by subst hu;rfl
 obtain ⟨e,a',w',hq,harr⟩:=h b [] (c₀::cs) rfl trivial hr
 rw [← henter] at harr
 obtain ⟨he,hq⟩:=hq
 cases e with
 | normal =>
  obtain ⟨v,w'',fr',k1,k2,k3,k4,k5,k6,k7⟩:=zgb (F:=Fence.wide) (n:=0) a'.defers w' { b.atR a' [] with mode:=.returning } (c₀::cs) rfl rfl hq trivial hr
  refine ⟨.returned v,u,w'',fr',⟨rfl,v,rfl,k1⟩,?_,k3,k4,k5,k6,fn,?_,k7⟩
  · rw [hc];exact StepsIn.trans (StepsIn.trans harr (.one (fenced_calm (fr:=b.atR a' []) trivial hr rfl) (stepR_end rfl))) k2
  · rw [k4];exact hf
 | ret =>
  obtain ⟨todo,hs⟩:=harr.1 rfl
  obtain ⟨v,w'',fr',k1,k2,k3,k4,k5,k6,k7⟩:=zgb (F:=Fence.wide) (n:=0) a'.defers w' { b.atR a' todo with mode:=.returning } (c₀::cs) rfl rfl hq trivial hr
  refine ⟨.returned v,u,w'',fr',⟨rfl,v,rfl,k1⟩,?_,k3,k4,k5,k6,fn,?_,k7⟩
  · rw [hc];exact StepsIn.trans hs k2
  · rw [k4];exact hf
 | _=>rcases he with e|e<;>cases e
def zl0 (P:Program) (f:FuncId) (vs:List D) (G:Gh) (Q:Gh→Prop):Prop :=
 zez P f∧∀ (S:Stb) (w:World) (args:Array Value) (u:FrameMode),zct S [] [] G w→zz S vs args.toList →
  CallsDIn Fence.wide 0 P f args u w fun e u' w'=>u'=u∧∃ v,e=.returned v∧zoo S [] w [] G (fun _ lv G'=>lv=[]∧Q G') v w'
theorem zwx (S:Stb) (ms:List (Nat→Nat)) (σ:List Hp) {vs:List D} {args:Array Value} (h:zz S vs args.toList) (i:Nat):VR S σ ms (ofL (vs.map .d) i) (args.getD i undef):=by
 simp only [ofL,List.getD_eq_getElem?_getD,List.getElem?_map]
 cases hvi:vs[i]? with
 | none=>trivial
 | some y =>
  obtain ⟨v,hv,hvr⟩:=h.get hvi
  have hv':args[i]?=some v:=by rw [← Array.getElem?_toList];exact hv
  have:args.getD i undef=v:=by simp [Array.getD_eq_getD_getElem?,hv']
  rw [this]
  exact hvr
theorem zo2 {P:Program} (hm:P.follows .mixedOrders=true) {gs:List Nat} {f:FuncId} {af:AFunc} (hf:zj P gs f=some af) {vs:List D} {G:Gh} {Q:Gh→Prop}
 (h:SW P af.body (zwr af.res fun _ lv G'=>lv=[]∧Q G') (ofL (vs.map .d),zmy,[],G)):zl0 P f vs G Q:=by
 obtain ⟨fn,c,hfn,hb,hng,hres,hbody,hnt⟩:=zf7 hf
 refine ⟨⟨fn,c,hfn,hb,hng⟩,fun S w args u hrel hargs=>?_⟩
 refine zhq (R:=fun v w'=>zoo S [] w [] G (fun _ lv G'=>lv=[]∧Q G') v w') hfn hb (wpIn_mono (h hm none gs fn.ntmps (zbp c) c hbody _ _ _ _ _ _ _ (Rel.enter (m0:=fun _=>0) hrel (zwx _ _ _ hargs) zga _) zr3.none (by simp;omega)) fun e a' w' hq=>?_)
 have fin':∀ {st:St},zwc af.res (fun _ lv G'=>lv=[]∧Q G') st→zbg S [fun _=>0] w.heap.size (zbx [] [] G) [] { tmps:=args++Array.replicate (fn.ntmps - args.size) undef,defers:=[] } w st a' w' →
  zcc P fn a'.tmps (fun v w'=>zoo S [] w [] G (fun _ lv G'=>lv=[]∧Q G') v w') a'.defers w':=by
  rintro st ⟨r,r',hr,hle,hQ⟩ ⟨⟨S',m',ow',hrel',hevo⟩,hsh,_⟩
  exact zdq a'.defers a' w' rfl hrel' hevo fun w2 hrel' hevo=>Rel.leave (b:={ a' with defers:=[] }) hrel' hevo hsh hres hr hle hQ
 cases e with
 | normal=>obtain ⟨st,h1,h2⟩:=hq;exact ⟨.inl rfl,fin' h1 h2⟩
 | ret=>obtain ⟨st,h1,h2⟩:=hq;exact ⟨.inr rfl,fin' h1 h2⟩
 | exit id=>obtain ⟨st,h1,_⟩:=hq;exact h1.elim
 | _=>exact hq.elim
theorem Rel.toD {S:Stb} {ms:List (Nat→Nat)} {ow:Nat→Option Nat} {base:Nat} {O:Nat→Prop} {ρ:Env} {L:Hp} {σ:List Hp} {G:Gh} {a:Act} {w:World} {ds:List Deferred} {da db:DD} (h:@Rel da S ms ow base O ρ L σ G a w) (hd:@zgh db base ds w) :
 @Rel db S ms ow base O ρ L σ G { a with defers:=ds } w:=by
 obtain ⟨h1,h2,h3,h4,h5,h6,h7,h8,h9,_,h10⟩:=h
 exact @Rel.mk db S ms ow base O ρ L σ G _ w h1 h2 h3 h4 h5 h6 h7 h8 h9 hd h10
theorem zl1 {P:Program} {fn:Func} {S S0:Stb} {ms:List (Nat→Nat)} {ow:Nat→Option Nat} {base:Nat} {O:Nat→Prop} {ρ:Env} {L:Hp} {σ:List Hp} {G:Gh} {w0:World} {R:Ending→World→Prop} {d:Deferred} [dd:DD] (hdd:DD.d0=[d]) :
 ∀ (ds:List Deferred) (b:Act) (w:World),b.defers=ds→Rel S ms ow base O ρ L σ G b w→Evo base O S0 w0 S w →
 (∀ ds2 w2,@Rel ddNil S ms ow base O ρ L σ G { b with defers:=ds2 } w2→Evo base O S0 w0 S w2→LeavesInM Fence.wide 0 P fn b.tmps R (d::ds2) .returning w2)→LeavesInM Fence.wide 0 P fn b.tmps R ds .returning w:=by
 intro ds
 induction ds with
 | nil =>
  intro b w hb h he hk
  have hf:=h.dfs.1
  rw [hb,hdd] at hf
  cases hf
 | cons d' ds ih =>
  intro b w hb h he hk
  cases hd:zdk d' with
  | none =>
   have hf:=h.dfs
   rw [hb] at hf
   obtain ⟨h1,h2,h3⟩:=hf
   rw [List.filter_cons] at h1
   simp only [hd,Option.isNone_none,if_true,hdd] at h1
   have e1:d'=d:=(List.cons.inj h1).1
   have e2:=(List.cons.inj h1).2
   subst e1
   simp only [List.filterMap_cons,hd] at h2 h3
   exact hk ds w (Rel.toD (db:=ddNil) h ⟨e2,h2,h3⟩) he
  | some r =>
   obtain ⟨w',h1,h2,h3⟩:=h.pop (P:=P) hb hd
   exact ⟨by simp,.inl ⟨r,w',zjo hd,h1,ih { b with defers:=ds } w' rfl h2 (h3 he) hk⟩⟩
def z3k (P:Program) (af:AFuncD) (ds:List D) (Q:AV→List Hp→Gh→Prop) (e:zay) (st:St):Prop:=(e=.normal∨e=.ret)∧zl0 P af.f ds st.2.2.2 fun G'=>zwc af.res Q (st.1,st.2.1,st.2.2.1,G')
def z1v (P:Program) (af:AFuncD) (Q:AV→List Hp→Gh→Prop):zay→St→Prop
 | .normal,st=>∃ ds,zx st.1 af.caps=some ds∧ds.all D.one=true∧∀ dd:DD,@W dd P af.body _ (zn.mk (a:=z3k P af ds Q)) (put st.1 (some af.d) (.d (.clo af.f ds)),st.2.1,st.2.2.1,st.2.2.2)
 | .ret,st=>zwc af.res Q st
 | .exit _,_=>False
theorem zo3 {P:Program} (hm:P.follows .mixedOrders=true) {gs:List Nat} {f:FuncId} {af:AFuncD} (hf:zg2 P gs f=some af) {vs:List AV} {σ:List Hp} {G:Gh} {Q:AV→List Hp→Gh→Prop}
 (h:WL P af.pre (z1v P af Q) (ofL vs,zmy,σ,G)):zaq P f vs σ G Q:=by
 intro S ms w args m0 _ hrel hargs hown
 obtain ⟨fn,c,as,b,caps,hfn,hb,hng,hsp,hres,hpre,hcaps,hbody,hd⟩:=znh hf
 refine .inl ⟨⟨fn,c,hfn,hb,hng⟩,?_⟩
 have hR:=Rel.enter hrel hargs hown (fn.ntmps - args.size)
 have hnt:fn.ntmps≤(args++Array.replicate (fn.ntmps - args.size) undef).size:=by simp;omega
 refine callsIn_wide.1 (callsIn_of_wp_marks (F:=Fence.wide) (n:=0) hfn hb trivial ?_)
 refine preD hm (nt:=fn.ntmps) (κ:=z1v P af Q) hnt hd ?_ ?_ c as hsp af.pre hpre _ _ _ h (zbg.refl hR)
 · intro e a' w' hq hne
   cases e with
   | normal=>exact absurd rfl hne
   | ret =>
    obtain ⟨st,⟨r,r',hr,hle,hQ⟩,⟨⟨S',m',ow',hrel',hevo⟩,hsh,_⟩⟩:=hq
    exact zcc.leaves (R:=fun v w'=>zoo S ms w σ G Q v w') (fun v w h=>⟨v,rfl,h⟩) _ _ (zdq a'.defers a' w' rfl hrel' hevo fun w2 hrel' hevo=>Rel.leave (b:={ a' with defers:=[] }) hrel' hevo hsh hres hr hle hQ)
   | exit id=>obtain ⟨st,h1,_⟩:=hq;exact h1.elim
   | _=>exact hq.elim
 · intro st a' w' ⟨ds,hds,hone,hw⟩ ⟨⟨S',m',ow',hrel',hevo⟩,hsh,hsz⟩
   have hcv:=zg6 hrel'.tmpT caps.toList af.caps ds hcaps hds
   have hcv':zz S' ds (caps.map a'.eval).toList:=by simpa using hcv
   have hlen:(caps.map a'.eval).size=ds.length:=by have:=hcv'.1;rw [← Array.length_toList];exact this
   have hclo:VRD S' (.clo af.f ds) (.func (.func af.f) #[] (caps.map a'.eval)):=.clo af.f ds _ hlen hone fun j x v hx hv=>hcv'.2 j x v hx (by rw [Array.getElem?_toList];exact hv)
   have hput:=hrel'.put (d:=some af.d) (x:=.d (.clo af.f ds)) hclo (fun sz es e=>by cases e) (fun i hi=>by cases hi;rw [hsz];exact Nat.lt_of_lt_of_le hd hnt)
   let dfr:Deferred:={ target:=.fn (.func af.f) (caps.map a'.eval),args:=#[] }
   have hmk:=hput.dfs
   have hD:@Rel ⟨⟨[dfr]⟩⟩ S' (m'::ms) ow' w.heap.size (zbx σ ms G) (put st.1 (some af.d) (.d (.clo af.f ds))) st.2.1 st.2.2.1 st.2.2.2 (zk9 a' af.d af.f caps) w':=by
    refine Rel.toD hput ⟨?_,hmk.2.1,hmk.2.2⟩
    have e1:a'.defers.filter (fun d=>(zdk d).isNone)=[]:=hmk.1
    have e2:(zdk dfr).isNone=true:=rfl
    exact (List.filter_cons_of_pos (p:=fun d=>(zdk d).isNone) (l:=a'.defers) e2).trans (congrArg (dfr::·) e1)
   have hz:(zk9 a' af.d af.f caps).tmps.size=a'.tmps.size:=by simp [zk9,zc8]
   refine wpIn_mono (@hw ⟨⟨[dfr]⟩⟩ hm none gs fn.ntmps (zbp c) b hbody S' _ _ _ _ _ w' hD zr3.none (by rw [hz,hsz];exact hnt)) fun e a2 w2 hq=>?_
   have fin':∀ {e:zay} {st2:St},z3k P af ds Q e st2→@zbg ⟨⟨[dfr]⟩⟩ S' (m'::ms) w.heap.size (zbx σ ms G) st.2.2.1 (zk9 a' af.d af.f caps) w' st2 a2 w2 →
    LeavesInM Fence.wide 0 P fn a2.tmps (fun e w'=>∃ v,e=.returned v∧zoo S ms w σ G Q v w') a2.defers .returning w2:=by
    intro e st2 hq1 hq2
    obtain ⟨_,hcd,hcall⟩:=hq1
    obtain ⟨hex,hsh2,_⟩:=hq2
    obtain ⟨S2,m2,ow2,hrel2,hevo2⟩:=hex
    refine zl1 (dd:=⟨⟨[dfr]⟩⟩) (d:=dfr) rfl a2.defers a2 w2 rfl hrel2 (hevo.trans hevo2) fun ds2 w3 hrel3 hevo3=>?_
    refine ⟨by simp,.inr ⟨fun e=>(by cases e),.func af.f,caps.map a'.eval,af.f,caps.map a'.eval,rfl,?_,fun _ _=>trivial,?_⟩⟩
    · have:=zbr (P:=P) (w:=w3) (args:=caps.map a'.eval) hcd
      simpa [invoke,dfr] using this
    · have hrb:zct S2 [] [] st2.2.2.2 w3:=⟨hrel3.h.sub,rfl,fun ⟨x,m,h1,_⟩=>by simp at h1,fun ⟨x,m,h1,_⟩=>by simp at h1,fun ⟨x,m,h1,_⟩=>by simp at h1,hrel3.h.gbox,hrel3.h.gnos,fun _ ⟨x,m,h1,_⟩=>by simp at h1,hrel3.h.x,hrel3.h.tab⟩
      have hvs:=hcv'.mono (hevo2.sub)
      refine (hcall S2 w3 (caps.map a'.eval) .returning hrb hvs).mono fun e u' w4 hp=>?_
      obtain ⟨rfl,v,rfl,S4,r,lv,G4,⟨rfl,r0,r1,hr,hle,hQ⟩,hrelH,hevo4,hsh4,_,hG⟩:=hp
      obtain ⟨hr4,he4⟩:=hrel3.calledQ hrelH hevo4 hG
      exact zcc.leaves (R:=fun v w'=>zoo S ms w σ G Q v w') (fun v w h=>⟨v,rfl,h⟩) _ _ (zdq ds2 { a2 with defers:=ds2 } w4 rfl hr4 (hevo3.trans he4) fun w5 hrel5 hevo5=>Rel.leave (b:={ a2 with defers:=[] }) hrel5 hevo5 (hsh.trans hsh2) hres hr hle hQ)
   cases e with
   | normal=>obtain ⟨st,h1,h2⟩:=hq;exact fin' h1 h2
   | ret=>obtain ⟨st,h1,h2⟩:=hq;exact fin' h1 h2
   | exit id=>obtain ⟨st,⟨h1,_⟩,_⟩:=hq;rcases h1 with h1|h1<;>cases h1
   | _=>exact hq.elim
theorem zo4 {P:Program} (hm:P.follows .mixedOrders=true) {gs:List Nat} {f:FuncId} {af:AFuncD} (hf:zg2 P gs f=some af) {vs:List AV} {σ:List Hp} {G:Gh} {Q:AV→List Hp→Gh→Prop}
 (h:WL P af.pre (z1v P af Q) (E (zqh 0 vs),HB [],σ,G)):zaq P f vs σ G Q:=zo3 hm hf (by rw [zzn];exact h)
theorem zr6 {P:Program} (hm:P.follows .mixedOrders=true) {gs:List Nat} {f:FuncId} {nt:Nat} {res:List zfz} {c:ACode} (hf:zj P gs f=some ⟨nt,res,c⟩) {vs:List D} {G:Gh} {Q:Gh→Prop}
 (h:W P c (zn.mk (a:=zwr res fun _ lv G'=>lv=[]∧Q G')) (E (zqh 0 (vs.map .d)),HB [],[],G)):zl0 P f vs G Q:=zo2 hm hf (by rw [zzn];exact h)
theorem WL.cons [DD] {P:Program} {c:ACode} {cs:List ACode} {κ:zay→St→Prop} {st:St} (h:W P c (zn.mk (a:=zay.then (fun st'=>WL P cs κ st') κ)) st):WL P (c::cs) κ st:=h
theorem WL.nil [DD] {P:Program} {κ:zay→St→Prop} {st:St} (h:κ .normal st):WL P [] κ st:=h
end Go.E2
