/-
 zjb of the blocks that lie apart: what a call changes of its own part,it leaves of all others as it is.
 Conditions: none;definitions and laws.
-/
import Derived.Test.YtailhmffljoojaaEN9
namespace Go.E2
structure zfb (A B:Gh):Prop where
 c:∀ b v,A.c b=some v→B.c b=some v
 m:∀ b v,A.m b=some v→B.m b=some v
structure zmq (A B:Gh):Prop where
 c:∀ b,A.c b=none∨B.c b=none
 m:∀ b,A.m b=none∨B.m b=none
theorem zfb.refl (A:Gh):zfb A A:=⟨fun _ _ h=>h,fun _ _ h=>h⟩
theorem zfb.trans {A B C:Gh} (h:zfb A B) (h':zfb B C):zfb A C:=⟨fun b v e=>h'.c b v (h.c b v e),fun b v e=>h'.m b v (h.m b v e)⟩
theorem zfb.none {A B:Gh} (h:zfb A B) {b:Nat} (e:B.c b=none):A.c b=none:=by
 cases ha:A.c b with
 | none=>rfl
 | some v=>rw [h.c b v ha] at e;cases e
theorem zfb.noneM {A B:Gh} (h:zfb A B) {b:Nat} (e:B.m b=Option.none):A.m b=Option.none:=by
 cases ha:A.m b with
 | none=>rfl
 | some v=>rw [h.m b v ha] at e;cases e
theorem zmq.symm {A B:Gh} (h:zmq A B):zmq B A:=⟨fun b=>(h.c b).symm,fun b=>(h.m b).symm⟩
theorem zmq.sub {A B A' B':Gh} (h:zmq A B) (ha:zfb A' A) (hb:zfb B' B):zmq A' B' :=
 ⟨fun b=>(h.c b).imp ha.none hb.none,fun b=>(h.m b).imp ha.noneM hb.noneM⟩
def Gh.join (A B:Gh):Gh:=⟨fun b=>match A.c b with|some v=>some v|none=>B.c b,fun b=>match A.m b with|some v=>some v|none=>B.m b,by
 obtain ⟨N,h⟩:=A.fin
 obtain ⟨M,h'⟩:=B.fin
 exact ⟨N+M,fun b hb=>⟨by simp only [(h b (by omega)).1];exact (h' b (by omega)).1,by simp only [(h b (by omega)).2];exact (h' b (by omega)).2⟩⟩⟩
theorem zfb.join_l (A B:Gh):zfb A (A.join B):=⟨fun b v h=>by simp only [Gh.join,h],fun b v h=>by simp only [Gh.join,h]⟩
theorem zfb.join_r {A B:Gh} (h:zmq A B):zfb B (A.join B) :=
 ⟨fun b v e=>by have:=h.c b;rw [e] at this;simp only [Gh.join,this.resolve_right (by simp),e],fun b v e=>by have:=h.m b;rw [e] at this;simp only [Gh.join,this.resolve_right (by simp),e]⟩
theorem zfb.join {A B C:Gh} (ha:zfb A C) (hb:zfb B C):zfb (A.join B) C :=
 ⟨fun b v e=>by
   simp only [Gh.join] at e
   cases h:A.c b with
   | none=>rw [h] at e;exact hb.c b v e
   | some u=>rw [h] at e;exact ha.c b v (by rw [h];exact e),fun b v e=>by
   simp only [Gh.join] at e
   cases h:A.m b with
   | none=>rw [h] at e;exact hb.m b v e
   | some u=>rw [h] at e;exact ha.m b v (by rw [h];exact e)⟩
theorem zmq.join {A B C:Gh} (ha:zmq A C) (hb:zmq B C):zmq (A.join B) C :=
 ⟨fun b=>by
   simp only [Gh.join]
   cases h:A.c b with
   | none=>exact hb.c b
   | some u=>have:=ha.c b;rw [h] at this;exact .inr (this.resolve_left (by simp)),fun b=>by
   simp only [Gh.join]
   cases h:A.m b with
   | none=>exact hb.m b
   | some u=>have:=ha.m b;rw [h] at this;exact .inr (this.resolve_left (by simp))⟩
abbrev As:=Gh→Prop
def Sep:List As→Gh→Prop
 | [],_=>True
 | A::R,G=>∃ G1 G2,zfb G1 G∧zfb G2 G∧zmq G1 G2∧A G1∧Sep R G2
theorem Sep.nil {G:Gh}:Sep [] G:=trivial
theorem Sep.mono {l:List As} {G G':Gh} (h:Sep l G) (hs:zfb G G'):Sep l G':=by
 cases l with
 | nil=>trivial
 | cons A R =>
  obtain ⟨G1,G2,h1,h2,h3,h4,h5⟩:=h
  exact ⟨G1,G2,h1.trans hs,h2.trans hs,h3,h4,h5⟩
theorem Sep.tail {A:As} {R:List As} {G:Gh} (h:Sep (A::R) G):Sep R G:=by
 obtain ⟨_,G2,_,h2,_,_,h5⟩:=h
 exact h5.mono h2
theorem Sep.head {A:As} {R:List As} {G:Gh} (h:Sep (A::R) G):∃ G1,zfb G1 G∧A G1:=by
 obtain ⟨G1,_,h1,_,_,h4,_⟩:=h
 exact ⟨G1,h1,h4⟩
theorem Sep.swap {A B:As} {R:List As} {G:Gh} (h:Sep (A::B::R) G):Sep (B::A::R) G:=by
 obtain ⟨G1,G2,h1,h2,h3,h4,G3,G4,k1,k2,k3,k4,k5⟩:=h
 have d14:=h3.sub (.refl _) k2
 exact ⟨G3,G1.join G4,k1.trans h2,h1.join (k2.trans h2),(zmq.join (h3.sub (.refl _) k1) k3.symm).symm,k4,G1,G4,.join_l _ _,.join_r d14,d14,h4,k5⟩
theorem Sep.cons {A:As} {R R':List As} {G:Gh} (h:Sep (A::R) G) (hr:∀ G,Sep R G→Sep R' G):Sep (A::R') G:=by
 obtain ⟨G1,G2,h1,h2,h3,h4,h5⟩:=h
 exact ⟨G1,G2,h1,h2,h3,h4,hr _ h5⟩
theorem Sep.perm {l l':List As} (hp:l.Perm l'):∀ {G:Gh},Sep l G→Sep l' G:=by
 induction hp with
 | nil=>exact fun h=>h
 | cons A _ ih=>exact fun h=>h.cons fun _=>ih
 | swap A B R=>exact fun h=>h.swap
 | trans _ _ ih1 ih2=>exact fun h=>ih2 (ih1 h)
theorem Sep.f3 {A B C:As} {R:List As} {G:Gh} (h:Sep (A::B::C::R) G):Sep (C::A::B::R) G:=(h.cons fun _=>Sep.swap).swap
theorem Sep.f4 {A B C D:As} {R:List As} {G:Gh} (h:Sep (A::B::C::D::R) G):Sep (D::A::B::C::R) G:=(h.cons fun _=>Sep.f3).swap
theorem Sep.b3 {A B C:As} {R:List As} {G:Gh} (h:Sep (A::B::C::R) G):Sep (B::C::A::R) G:=h.swap.cons fun _=>Sep.swap
theorem Sep.b4 {A B C D:As} {R:List As} {G:Gh} (h:Sep (A::B::C::D::R) G):Sep (B::C::D::A::R) G:=h.swap.cons fun _=>Sep.b3
theorem Sep.b5 {A B C D E:As} {R:List As} {G:Gh} (h:Sep (A::B::C::D::E::R) G):Sep (B::C::D::E::A::R) G:=h.swap.cons fun _=>Sep.b4
theorem Sep.imp {A B:As} {R:List As} {G:Gh} (h:Sep (A::R) G) (hab:∀ G,A G→B G):Sep (B::R) G:=by
 obtain ⟨G1,G2,h1,h2,h3,h4,h5⟩:=h
 exact ⟨G1,G2,h1,h2,h3,hab _ h4,h5⟩
def zvt (l:List As):As:=Sep l
theorem Sep.app:∀ {l R:List As} {G:Gh},Sep (zvt l::R) G→Sep (l++R) G
 | [],R,G,h=>h.tail
 | A::l,R,G,h=>by
   obtain ⟨G1,G2,h1,h2,h3,⟨G3,G4,k1,k2,k3,k4,k5⟩,h5⟩:=h
   have d42:=h3.sub k2 (.refl _)
   refine ⟨G3,G4.join G2,k1.trans h1,(k2.trans h1).join h2,(zmq.join k3.symm (h3.sub k1 (.refl _)).symm).symm,k4,?_⟩
   exact Sep.app ⟨G4,G2,.join_l _ _,.join_r d42,d42,k5,h5⟩
theorem Sep.of_app:∀ {l R:List As} {G:Gh},Sep (l++R) G→Sep (zvt l::R) G
 | [],R,G,h=>⟨noGh,G,⟨fun _ _ e=>(by cases e),fun _ _ e=>(by cases e)⟩,.refl _,⟨fun _=>.inl rfl,fun _=>.inl rfl⟩,trivial,h⟩
 | A::l,R,G,h=>by
   obtain ⟨G3,G',k1,k2,k3,k4,k5⟩:=h
   obtain ⟨G4,G2,j1,j2,j3,j4,j5⟩:=Sep.of_app k5
   have d34:=k3.sub (.refl _) j1
   have d32:=k3.sub (.refl _) j2
   exact ⟨G3.join G4,G2,k1.join (j1.trans k2),j2.trans k2,zmq.join d32 j3,⟨G3,G4,.join_l _ _,.join_r d34,d34,k4,j4⟩,j5⟩
theorem Sep.ex {α:Type} {A:α→As} {R:List As} {G:Gh} (h:Sep ((fun G=>∃ x,A x G)::R) G):∃ x,Sep (A x::R) G:=by
 obtain ⟨G1,G2,h1,h2,h3,⟨x,h4⟩,h5⟩:=h
 exact ⟨x,G1,G2,h1,h2,h3,h4,h5⟩
theorem Sep.pure {p:Prop} {A:As} {R:List As} {G:Gh} (h:Sep ((fun G=>p∧A G)::R) G):p∧Sep (A::R) G:=by
 obtain ⟨G1,G2,h1,h2,h3,⟨hp,h4⟩,h5⟩:=h
 exact ⟨hp,G1,G2,h1,h2,h3,h4,h5⟩
def ze (b:Nat) (cs:List D):As:=fun G=>G.c b=some cs
theorem Sep.get {b:Nat} {cs:List D} {R:List As} {G:Gh} (h:Sep (ze b cs::R) G):G.c b=some cs:=by
 obtain ⟨G1,h1,h2⟩:=h.head
 exact h1.c _ _ h2
theorem Sep.set {b:Nat} {cs cs':List D} {R:List As} {G:Gh} (h:Sep (ze b cs::R) G):Sep (ze b cs'::R) (G.set b (some cs')):=by
 obtain ⟨G1,G2,h1,h2,h3,h4,h5⟩:=h
 have hn:G2.c b=none:=(h3.c b).resolve_left (by rw [h4];simp)
 refine ⟨G1.set b (some cs'),G2,⟨fun i v e=>?_,h1.m⟩,⟨fun i v e=>?_,h2.m⟩,⟨fun i=>?_,h3.m⟩,?_,h5⟩
 · rw [Gh.set_c] at e ⊢
   unfold upd at e ⊢
   split
   · rename_i hi;rw [if_pos hi] at e;exact e
   · rename_i hi;rw [if_neg hi] at e;exact h1.c _ _ e
 · rw [Gh.set_c]
   unfold upd
   split
   · rename_i hi;subst hi;rw [hn] at e;cases e
   · exact h2.c _ _ e
 · rw [Gh.set_c]
   unfold upd
   split
   · rename_i hi;subst hi;exact .inr hn
   · exact h3.c i
 · simp [ze,upd]
theorem Sep.new {b:Nat} {cs:List D} {R:List As} {G:Gh} (hb:G.c b=none) (h:Sep R G):Sep (ze b cs::R) (G.set b (some cs)):=by
 refine ⟨noGh.set b (some cs),G,⟨fun i v e=>?_,fun i v e=>(by cases e)⟩,⟨fun i v e=>?_,fun _ _ e=>e⟩,⟨fun i=>?_,fun i=>.inl rfl⟩,by simp [ze,upd],h⟩
 · simp only [Gh.set_c,upd] at e ⊢
   split
   · rename_i hi;rw [if_pos hi] at e;exact e
   · rename_i hi;rw [if_neg hi] at e;cases e
 · simp only [Gh.set_c,upd]
   split
   · rename_i hi;subst hi;rw [hb] at e;cases e
   · exact e
 · simp only [Gh.set_c,upd]
   split
   · rename_i hi;subst hi;exact .inr hb
   · exact .inl rfl
def zmr (r:Nat) (o:MO):As:=fun G=>G.m r=some o
theorem Sep.getM {r:Nat} {o:MO} {R:List As} {G:Gh} (h:Sep (zmr r o::R) G):G.m r=some o:=by
 obtain ⟨G1,h1,h2⟩:=h.head
 exact h1.m _ _ h2
theorem Sep.setM {r:Nat} {o o':MO} {R:List As} {G:Gh} (h:Sep (zmr r o::R) G):Sep (zmr r o'::R) (G.setM r (some o')):=by
 obtain ⟨G1,G2,h1,h2,h3,h4,h5⟩:=h
 have hn:G2.m r=none:=(h3.m r).resolve_left (by rw [h4];simp)
 refine ⟨G1.setM r (some o'),G2,⟨h1.c,fun i v e=>?_⟩,⟨h2.c,fun i v e=>?_⟩,⟨h3.c,fun i=>?_⟩,?_,h5⟩
 · rw [Gh.setM_m] at e ⊢
   unfold upd at e ⊢
   split
   · rename_i hi;rw [if_pos hi] at e;exact e
   · rename_i hi;rw [if_neg hi] at e;exact h1.m _ _ e
 · rw [Gh.setM_m]
   unfold upd
   split
   · rename_i hi;subst hi;rw [hn] at e;cases e
   · exact h2.m _ _ e
 · rw [Gh.setM_m]
   unfold upd
   split
   · rename_i hi;subst hi;exact .inr hn
   · exact h3.m i
 · simp [zmr,upd]
theorem Sep.newM {r:Nat} {o:MO} {R:List As} {G:Gh} (hb:G.m r=none) (h:Sep R G):Sep (zmr r o::R) (G.setM r (some o)):=by
 refine ⟨noGh.setM r (some o),G,⟨fun i v e=>(by cases e),fun i v e=>?_⟩,⟨fun _ _ e=>e,fun i v e=>?_⟩,⟨fun i=>.inl rfl,fun i=>?_⟩,by simp [zmr,upd],h⟩
 · simp only [Gh.setM_m,upd] at e ⊢
   split
   · rename_i hi;rw [if_pos hi] at e;exact e
   · rename_i hi;rw [if_neg hi] at e;cases e
 · simp only [Gh.setM_m,upd]
   split
   · rename_i hi;subst hi;rw [hb] at e;cases e
   · exact e
 · simp only [Gh.setM_m,upd]
   split
   · rename_i hi;subst hi;exact .inr hb
   · exact .inl rfl
theorem Sep.keep {R:List As} {G G':Gh} (h:Sep R G) (hs:zfb G G'):Sep R G':=h.mono hs
theorem zfb.new {G:Gh} {b:Nat} (hb:G.c b=Option.none) (v:Option (List D)):zfb G (G.set b v) :=
 ⟨fun i u e=>by
   simp only [Gh.set_c,upd]
   split
   · rename_i hi;subst hi;rw [hb] at e;cases e
   · exact e,fun _ _ e=>e⟩
theorem zfb.newM {G:Gh} {b:Nat} (hb:G.m b=Option.none) (v:Option MO):zfb G (G.setM b v) :=
 ⟨fun _ _ e=>e,fun i u e=>by
   simp only [Gh.setM_m,upd]
   split
   · rename_i hi;subst hi;rw [hb] at e;cases e
   · exact e⟩
section
variable {α β:Type} [DecidableEq α] {ks:List Kd} {emb:α→D} {vf:β→D}
def zl9 (ks:List Kd) (emb:α→D) (vf:β→D) (r:Nat) (m:List (α×β)):As:=fun G=>zdu ks emb vf G r m
theorem Sep.map {r:Nat} {m:List (α×β)} {R:List As} {G:Gh} (h:Sep (zl9 ks emb vf r m::R) G):zdu ks emb vf G r m:=by
 obtain ⟨G1,h1,h2⟩:=h.head
 obtain ⟨k1,es,cl,k2,k3⟩:=h2
 exact ⟨k1,es,cl,h1.m _ _ k2,k3⟩
theorem Sep.objm {r:Nat} {m:List (α×β)} {R:List As} {G:Gh} (h:Sep (zl9 ks emb vf r m::R) G):∃ o,Sep (zmr r o::R) G:=by
 obtain ⟨G1,G2,h1,h2,h3,h4,h5⟩:=h
 obtain ⟨k1,es,cl,k2,k3⟩:=h4
 exact ⟨_,G1,G2,h1,h2,h3,k2,h5⟩
theorem Sep.mapO {r:Nat} {o:MO} {m:List (α×β)} {R:List As} {G:Gh} (h:Sep (zmr r o::R) G) (hm:zdu ks emb vf G r m):Sep (zl9 ks emb vf r m::R) G:=by
 have ho:=h.getM
 obtain ⟨k1,es,cl,k2,k3⟩:=hm
 rw [ho] at k2
 cases k2
 exact h.imp fun G1 e=>⟨k1,es,cl,e,k3⟩
theorem Sep.mapSet {r:Nat} {m m':List (α×β)} {R:List As} {G:Gh} {M:MO} (h:Sep (zl9 ks emb vf r m::R) G) (hm:zdu ks emb vf (G.setM r (some M)) r m'):Sep (zl9 ks emb vf r m'::R) (G.setM r (some M)):=by
 obtain ⟨o,ho⟩:=h.objm
 exact Sep.mapO ho.setM hm
theorem Sep.mapNew {r:Nat} {R:List As} {G:Gh} (he:zpj ks emb) (hr:G.m r=none) (h:Sep R G):Sep (zl9 ks emb vf r []::R) (G.setM r (some (.map [] 0))) :=
 Sep.mapO (h.newM hr) (zdu.new he)
end
def zt (P:Program) (f:FuncId) (xs:List D) (pre:List As) (Q:AV→List As→Prop):Prop :=
 ∀ (R:List As) (G:Gh) (σ:List Hp),Sep (pre++R) G→zam P f (xs.map .d) σ G fun r σ' G'=>σ'=σ∧∃ post,Q r post∧Sep (post++R) G'
def zkg (P:Program) (f:FuncId) (xs:List D) (pre:List As) (Q:AV→Prop):Prop :=
 ∀ (R:List As) (G:Gh) (σ:List Hp),Sep (pre++R) G→zam P f (xs.map .d) σ G fun r σ' G'=>σ'=σ∧G'=G∧Q r
theorem zkg.s {P:Program} {f:FuncId} {xs:List D} {pre:List As} {Q:AV→Prop} (h:zkg P f xs pre Q):zt P f xs pre fun r post=>post=pre∧Q r :=
 fun R G σ hs=>(h R G σ hs).mono fun _ _ _ ⟨h1,h2,h3⟩=>⟨h1,pre,⟨rfl,h3⟩,by rw [h2];exact hs⟩
def zsr (P:Program) (f:FuncId) (xs:List D) (G:Gh) (Q:AV→Prop):Prop:=∀ σ,zam P f (xs.map .d) σ G fun r σ' G'=>σ'=σ∧G'=G∧Q r
theorem zkg.q {P:Program} {f:FuncId} {xs:List D} {pre R:List As} {Q:AV→Prop} {G:Gh} (h:zkg P f xs pre Q) (hs:Sep (pre++R) G):zsr P f xs G Q:=fun σ=>h R G σ hs
theorem za2.q {P:Program} {f:FuncId} {xs:List D} {Q:AV→Prop} (h:za2 P f xs Q) (G:Gh):zsr P f xs G Q:=fun σ=>h.quiet σ G
theorem za2.r {P:Program} {f:FuncId} {xs:List D} {Q:AV→Prop} (h:za2 P f xs Q) (pre:List As):zkg P f xs pre Q:=fun _ G σ _=>h.quiet σ G
section
variable {P:Program} {ρ:Env} {L:Hp} {σ:List Hp} {G:Gh} {K:St→Prop}
theorem z8a {d:Option Nat} {f:AO} {args:List AO} {q:Nat} {g:FuncId} {xs:List D} {Q:AV→Prop} {h:zk K}
 (hc:zsr P g xs G Q) (ht:target (ev ρ f)=some (g,[])∧zq ρ args=some xs) (hK:∀ r,Q r→K (put ρ d r,L,σ,G)):wC P d f args q ρ L σ G h :=
 zqo hc ht.1 ht.2 hK
theorem z8b {d:Option Nat} {f:AO} {args:List AO} {g:FuncId} {xs:List D} {pre R:List As} {Q:AV→List As→Prop} {h:zk K}
 (hc:zt P g xs pre Q) (hs:Sep (pre++R) G) (ht:target (ev ρ f)=some (g,[])∧zq ρ args=some xs)
 (hK:∀ r post G',Q r post→Sep (post++R) G'→K (put ρ d r,L,σ,G')):wC P d f args 0 ρ L σ G h :=
 z6c (cs:=[]) (Q:=fun r G'=>∃ post,Q r post∧Sep (post++R) G') (by simpa using hc R G (L::σ) hs) (by simpa using ht.1) ht.2 fun r G' ⟨post,h1,h2⟩=>hK r post G' h1 h2
theorem z4d {d:Option Nat} {f:AO} {args:List AO} {g:FuncId} {xs:List D} {pre R:List As} {Q:AV→List As→Prop} {q:Nat} {h:zk K}
 (hc:zt P g xs pre Q) (hs:Sep (pre++R) G) (hq:q=0∨q=2) (ht:target (ev ρ f)=some (g,[])∧zq ρ args=some xs)
 (hK:∀ r post G',Q r post→Sep (post++R) G'→K (put ρ d r,L,σ,G')):wC P d f args q ρ L σ G h:=by
 rcases hq with rfl|rfl
 · exact z8b hc hs ht hK
 · show zcv P d f args 2 ρ L σ G K
   unfold zcv
   rw [ht.1]
   refine ⟨[],rfl,?_⟩
   rw [ht.2]
   simp only [List.append_nil]
   exact (hc R G [] hs).mono fun r lv G' ⟨h1,post,h2,h3⟩=>⟨h1,fun e=>(by cases e),hK r post G' h2 h3⟩
end
theorem zj {P:Program} {gs:List Nat} {f:FuncId} {nt:Nat} {res:List zft} {c:ACode} {xs:List D} {pre:List As} {Q:AV→List As→Prop} (hm:P.follows .mixedOrders=true) (hf:zi P gs f=some ⟨nt,res,c⟩)
 (h:∀ (R:List As) (G:Gh) (σ:List Hp),Sep (pre++R) G→W P c (zk.mk (a:=zvs res fun r σ' G'=>σ'=σ∧∃ post,Q r post∧Sep (post++R) G')) (E (zpi 0 (xs.map .d)),HB [],σ,G)):zt P f xs pre Q :=
 fun R G σ hs=>zbv hm hf (h R G σ hs)
theorem zgq {P:Program} {gs:List Nat} {f:FuncId} {nt:Nat} {res:List zft} {c:ACode} {xs:List D} {pre:List As} {Q:AV→Prop} (hm:P.follows .mixedOrders=true) (hf:zi P gs f=some ⟨nt,res,c⟩)
 (h:∀ (R:List As) (G:Gh) (σ:List Hp),Sep (pre++R) G→W P c (zk.mk (a:=zvs res fun r σ' G'=>σ'=σ∧G'=G∧Q r)) (E (zpi 0 (xs.map .d)),HB [],σ,G)):zkg P f xs pre Q :=
 fun R G σ hs=>zbv hm hf (h R G σ hs)
end Go.E2
namespace Go.E2
@[go_sem] theorem Gh.set_set (G:Gh) (b:Nat) (v w:Option (List D)):(G.set b v).set b w=G.set b w:=by
  refine Gh.ext ?_ rfl
  funext i
  simp only [Gh.set_c,upd]
  split<;>rfl
@[go_sem] theorem Gh.setM_setM (G:Gh) (b:Nat) (v w:Option MO):(G.setM b v).setM b w=G.setM b w:=by
  refine Gh.ext rfl ?_
  funext i
  simp only [Gh.setM_m,upd]
  split<;>rfl
def zss (v:Option AV) (vs:Option (List D)):Option (List D):=match v,vs with|some v,some vs=>(match v.data with|some x=>some (x::vs)|none=>none)|_,_=>none
def z10 (v:AV):Option AV:=match v with|.d x=>some (.d x)|.own sz es=>some (.own sz es)|_=>none
def zst (agg:Bool) (n:Nat) (lv:List Hp) (G:Gh) (v:AV):Option AV:=match v with
 | .ptr k s g off=>zba agg n (blk lv k s g) off
 | .d (.gp b off)=>zba agg n (G b) off
 | _=>none
@[go_sem] theorem z4e (x:D) (vs:List D):zss (some (.d x)) (some vs)=some (x::vs):=rfl
@[go_sem] theorem zzg (sz:Nat) (es:List D) (vs:List D):zss (some (.own sz es)) (some vs)=some (.list es::vs):=rfl
@[go_sem] theorem z60 (x:D):z10 (.d x)=some (.d x):=rfl
@[go_sem] theorem z11 (sz:Nat) (es:List D):z10 (.own sz es)=some (.own sz es):=rfl
@[go_sem] theorem zzh (agg:Bool) (n k s g off:Nat) (lv:List Hp) (G:Gh):zst agg n lv G (.ptr k s g off)=zba agg n (blk lv k s g) off:=rfl
@[go_sem] theorem z12 (agg:Bool) (n b off:Nat) (lv:List Hp) (G:Gh):zst agg n lv G (.d (.gp b off))=zba agg n (G b) off:=rfl
@[go_sem] theorem zxv (ρ:Env) (lv:List Hp) (G:Gh) (t:Nat):zeb ρ lv G (.tmp t)=z10 (ρ t):=by
  simp only [zeb,z10];cases ρ t<;>rfl
@[go_sem] theorem zvu (ρ:Env) (lv:List Hp) (G:Gh) (t n:Nat) (agg:Bool):zeb ρ lv G (.cell t agg n)=zst agg n lv G (ρ t):=by
  simp only [zeb,zst,zba];cases ρ t with
  | d x=>cases x<;>rfl
  | _=>rfl
@[go_sem] theorem zxw (ρ:Env) (lv:List Hp) (G:Gh):zcs ρ lv G []=some []:=rfl
@[go_sem] theorem zvv (ρ:Env) (lv:List Hp) (G:Gh) (r:zft) (rs:List zft):zcs ρ lv G (r::rs)=zss (zeb ρ lv G r) (zcs ρ lv G rs):=by
  simp only [zcs,zss]
  cases zeb ρ lv G r with
  | none=>rfl
  | some v=>cases zcs ρ lv G rs with
    | none=>rfl
    | some vs=>cases v.data<;>rfl
@[go_sem] theorem z4f (ρ:Env) (lv:List Hp) (G:Gh) (r:zft):fin [r] ρ lv G=zeb ρ lv G r:=rfl
@[go_sem] theorem z4g (ρ:Env) (lv:List Hp) (G:Gh):fin [] ρ lv G=some (.tup []):=rfl
@[go_sem] theorem z4h (ρ:Env) (lv:List Hp) (G:Gh) (r r':zft) (rs:List zft):fin (r::r'::rs) ρ lv G=(zcs ρ lv G (r::r'::rs)).map .tup:=rfl
def SlA (sz:Nat) (x:D) (es:List D):As:=fun G=>GV sz G x es
theorem GV.sub {sz:Nat} {G G':Gh} {x:D} {es:List D} (h:GV sz G x es) (hs:zfb G G'):GV sz G' x es:=by
 cases h with
 | nil=>exact .nil
 | row b cap es cs hb hr=>exact .row b cap es cs (hs.c _ _ hb) hr
theorem Sep.gv {sz:Nat} {x:D} {es:List D} {R:List As} {G:Gh} (h:Sep (SlA sz x es::R) G):GV sz G x es:=by
 obtain ⟨G1,h1,h2⟩:=h.head
 exact h2.sub h1
theorem Sep.grow {sz sz':Nat} {x x':D} {es es':List D} {R:List As} {G G':Gh} (h:Sep (SlA sz x es::R) G) (ht:GTo x x' G G') (hv:GV sz' G' x' es'):Sep (SlA sz' x' es'::R) G':=by
 obtain ⟨G1,G2,h1,h2,h3,h4,h5⟩:=h
 have hx:∀ b c,G2.c b=some c→∀ o n k,x≠.gs b o n k:=by
  rintro b c hb o n k rfl
  cases h4 with
  | row b cap es cs hb1 hr=>have:=h3.c b;rw [hb,hb1] at this;simp at this
 have hs2:zfb G2 G':=⟨fun b c hb=>ht.fr b c (h2.c _ _ hb) (hx b c hb),fun b o hb=>by rw [ht.m];exact h2.m _ _ hb⟩
 cases hv with
 | nil=>exact ⟨noGh,G2,⟨fun _ _ e=>(by cases e),fun _ _ e=>(by cases e)⟩,hs2,⟨fun _=>.inl rfl,fun _=>.inl rfl⟩,GV.nil,h5⟩
 | row b cap es' cs hb hr =>
  have hn:G2.c b=none:=by
   cases e:G2.c b with
   | none=>rfl
   | some c=>exact absurd rfl (ht.sep b c (h2.c _ _ e) (hx b c e) 0 es'.length cap)
  refine ⟨noGh.set b (some cs),G2,⟨fun i v e=>?_,fun _ _ e=>(by cases e)⟩,hs2,⟨fun i=>?_,fun _=>.inl rfl⟩,GV.row b cap es' cs (by simp [upd]) hr,h5⟩
  · simp only [Gh.set_c,upd] at e
    split at e
    · rename_i hi;subst hi;rw [hb];exact e
    · cases e
  · simp only [Gh.set_c,upd]
    split
    · rename_i hi;subst hi;exact .inr hn
    · exact .inl rfl
theorem Sep.slNil {sz:Nat} {R:List As} {G:Gh} (h:Sep R G):Sep (SlA sz .nilS []::R) G :=
 ⟨noGh,G,⟨fun _ _ e=>(by cases e),fun _ _ e=>(by cases e)⟩,.refl _,⟨fun _=>.inl rfl,fun _=>.inl rfl⟩,.nil,h⟩
section
variable {α β:Type} [DecidableEq α]
theorem zqi {m:List (α×β)} {a:α} {v:β} (h:zcy m a=some v):m.Perm ((a,v)::mdel m a):=by
 induction m with
 | nil=>simp [zcy] at h
 | cons p m ih =>
  simp only [zcy] at h
  simp only [mdel]
  split at h
  · rename_i e;cases h;rw [if_pos e];obtain ⟨p1,p2⟩:=p;simp only at e;subst e;exact .refl _
  · rename_i e;rw [if_neg e];exact ((ih h).cons p).trans (.swap _ _ _)
theorem zqj {m:List (α×β)} (a:α) (v:β):(zio m a v).Perm ((a,v)::mdel m a):=by
 induction m with
 | nil=>exact .refl _
 | cons p m ih =>
  simp only [zio,mdel]
  split
  · exact .refl _
  · exact (ih.cons p).trans (.swap _ _ _)
theorem zik {m:List (α×β)} {a:α} (h:zcy m a=none):mdel m a=m:=by
 induction m with
 | nil=>rfl
 | cons p m ih =>
  simp only [zcy] at h
  simp only [mdel]
  split at h
  · cases h
  · rename_i e;rw [if_neg e,ih h]
theorem zkh {m:List (α×β)} (hn:(m.map (·.1)).Nodup) {a:α} {p:α×β}:p∈mdel m a↔p∈m∧p.1≠a:=by
 induction m with
 | nil=>simp [mdel]
 | cons q m ih =>
  simp only [List.map_cons,List.nodup_cons] at hn
  simp only [mdel]
  split
  · rename_i e
    constructor
    · intro hp
      refine ⟨List.mem_cons_of_mem _ hp,fun e2=>hn.1 ?_⟩
      rw [e,← e2];exact List.mem_map.2 ⟨p,hp,rfl⟩
    · rintro ⟨hp,hne⟩
      rcases List.mem_cons.1 hp with rfl|hp
      · exact absurd e hne
      · exact hp
  · rename_i e
    rw [List.mem_cons,List.mem_cons,ih hn.2]
    constructor
    · rintro (rfl|⟨h1,h2⟩)
      · exact ⟨.inl rfl,e⟩
      · exact ⟨.inr h1,h2⟩
    · rintro ⟨rfl|h1,h2⟩
      · exact .inl rfl
      · exact .inr ⟨h1,h2⟩
end
section
variable {α β:Type} [DecidableEq α] {ks:List Kd} {emb:α→D} {vf:β→D} {G:Gh} {r it:Nat} {m:List (α×β)} {sn:List α}
def zfv (ks:List Kd) (emb:α→D) (vf:β→D) (G:Gh) (r it:Nat) (m:List (α×β)) (sn:List α):Prop :=
 zpj ks emb∧∃ es clock since seen last,G.m r=some (.map es clock)∧zb2 emb vf es m∧(∀ e∈es,e.b<clock)∧(es.map (·.b)).Nodup∧(m.map (·.1)).Nodup ∧
  G.m it=some (.iter (some r) since seen last)∧(∀ e∈es,e.b<since)∧since≤last∧last≤clock∧∀ e∈es,∀ a,e.k=emb a→(e.b∈seen↔a∈sn)
theorem zpj.inj (h:zpj ks emb) {a b:α} (e:emb a=emb b):a=b:=by
 have:=h.eq a b
 rw [e,h.eq b b] at this
 simpa using this
theorem zfv.toMap (h:zfv ks emb vf G r it m sn):zdu ks emb vf G r m:=by
 obtain ⟨h1,es,cl,_,_,_,h2,h3,h4,h5,h6,_⟩:=h
 exact ⟨h1,es,cl,h2,h3,h4,h5,h6⟩
theorem zfv.of {G':Gh} (h:zfv ks emb vf G r it m sn) (e1:G'.m r=G.m r) (e2:G'.m it=G.m it):zfv ks emb vf G' r it m sn:=by
 obtain ⟨h1,es,cl,s,sn',la,h2,h3,h4,h5,h6,h7,h8⟩:=h
 exact ⟨h1,es,cl,s,sn',la,by rw [e1,h2],h3,h4,h5,h6,by rw [e2,h7],h8⟩
theorem zfv.set (h:zfv ks emb vf G r it m sn) {b:Nat} {v:Option (List D)}:zfv ks emb vf (G.set b v) r it m sn:=h.of rfl rfl
theorem zfv.ne (h:zfv ks emb vf G r it m sn):it≠r:=by
 obtain ⟨_,_,_,_,_,_,h2,_,_,_,_,h7,_⟩:=h
 rintro rfl;rw [h2] at h7;cases h7
theorem zfv.nodup (h:zfv ks emb vf G r it m sn):(m.map (·.1)).Nodup:=h.toMap.nodup
omit [DecidableEq α] in
theorem zsu {es:List ME} {m:List (α×β)} (h:zb2 emb vf es m) {e:ME} (he:e∈es):∃ p∈m,e.k=emb p.1∧e.v=vf p.2:=by
 have:(e.k,e.v)∈m.map fun p=>(emb p.1,vf p.2):=by rw [← h];exact List.mem_map.2 ⟨e,he,rfl⟩
 obtain ⟨p,hp,e2⟩:=List.mem_map.1 this
 simp only [Prod.mk.injEq] at e2
 exact ⟨p,hp,e2.1.symm,e2.2.symm⟩
omit [DecidableEq α] in
theorem zqk {es:List ME} {m:List (α×β)} (h:zb2 emb vf es m) {p:α×β} (hp:p∈m):∃ e∈es,e.k=emb p.1∧e.v=vf p.2:=by
 have:(emb p.1,vf p.2)∈es.map fun e=>(e.k,e.v):=by rw [h];exact List.mem_map.2 ⟨p,hp,rfl⟩
 obtain ⟨e,he,e2⟩:=List.mem_map.1 this
 simp only [Prod.mk.injEq] at e2
 exact ⟨e,he,e2.1,e2.2⟩
variable {R:AV→Gh→Prop} {hd:zk R}
theorem zms (h:zdu ks emb vf G r m) (hk:∀ it X,G.m it=none→zfv ks emb vf (G.setM it (some X)) r it m []→R (.d (.gp it 0)) (G.setM it (some X))):wGn .rng [.mref r] G hd:=by
 obtain ⟨h1,es,cl,h2,h3,h4,h5,h6⟩:=h
 simp only [wGn,gnW,h2]
 intro it hit
 have hne:r≠it:=by rintro rfl;rw [h2] at hit;cases hit
 refine hk it _ hit ⟨h1,es,cl,cl,[],cl,?_,h3,h4,h5,h6,by simp [upd],h4,Nat.le_refl _,Nat.le_refl _,by simp⟩
 rw [Gh.setM_m,zdl hne,h2]
theorem zmt (h:zfv ks emb vf G r it m sn) (h0:(∀ p∈m,p.1∈sn)→R (.tup [.bool false]) G)
 (h1:∀ a v X,(a,v)∈m→a ∉ sn→zfv ks emb vf (G.setM it (some X)) r it m (sn++[a])→gdD .entry [.gp it 0] (G.setM it (some X))=some (.tup [emb a,vf v],G.setM it (some X))→R (.tup [.bool true,emb a,vf v]) (G.setM it (some X))):wGn .nxt [.gp it 0] G hd:=by
 have hne:=h.ne
 obtain ⟨k1,es,cl,since,seen,last,k2,k3,k4,k5,k6,k7,k8,k9,k10,k11⟩:=h
 simp only [wGn,gnW,k7,k2]
 refine ⟨⟨k8,k9⟩,fun ha=>h0 fun p hp=>?_,fun e he hns=>?_⟩
 · obtain ⟨e,he,e1,_⟩:=zqk k3 hp
   exact (k11 e he p.1 e1).1 (ha e he)
 · obtain ⟨⟨a,v⟩,hp,e1,e2⟩:=zsu k3 he
   simp only at e1 e2
   rw [e1,e2]
   refine h1 a v _ hp (fun hs=>hns ((k11 e he a e1).2 hs)) ⟨k1,es,cl,since,seen++[e.b],cl,?_,k3,k4,k5,k6,by simp [upd],k8,by omega,Nat.le_refl _,fun e' he' a' ea'=>?_⟩ ?_
   · rw [Gh.setM_m,zdl hne.symm,k2]
   · rw [List.mem_append,List.mem_append,k11 e' he' a' ea',List.mem_singleton,List.mem_singleton]
     constructor
     · rintro (h|h)
       · exact .inl h
       · right
         have:e'=e:=nodup_map_inj k5 he' he h
         subst this
         rw [e1] at ea'
         exact (k1.inj ea').symm
     · rintro (h|h)
       · exact .inl h
       · right
         subst h
         have:e'=e:=nodup_keys k1 k3 k6 he' he (by rw [ea',e1])
         rw [this]
   · have hf:es.find? (fun x=>x.b == e.b)=some e:=find_born k5 he
     simp only [gdD,Gh.setM_m,zim,List.getLast?_concat,zdl hne.symm,k2,if_true,hf,Option.map_some,e1,e2]
where
 nodup_map_inj {es:List ME} (hn:(es.map (·.b)).Nodup) {x y:ME} (hx:x∈es) (hy:y∈es) (e:x.b=y.b):x=y:=by
  obtain ⟨i,hi,rfl⟩:=List.getElem_of_mem hx
  obtain ⟨j,hj,rfl⟩:=List.getElem_of_mem hy
  have:=(List.getElem_inj (h₀:=by simpa using hi) (h₁:=by simpa using hj) hn).1 (by simpa using e)
  subst this;rfl
 nodup_keys {es:List ME} {m:List (α×β)} (k1:zpj ks emb) (k3:zb2 emb vf es m) (hn:(m.map (·.1)).Nodup) {x y:ME} (hx:x∈es) (hy:y∈es) (e:x.k=y.k):x=y:=by
  obtain ⟨i,hi,rfl⟩:=List.getElem_of_mem hx
  obtain ⟨j,hj,rfl⟩:=List.getElem_of_mem hy
  have hl:es.length=m.length:=by have:=congrArg List.length k3;simpa using this
  have ei:es[i].k=emb (m[i]'(by omega)).1:=by
   have:=congrArg (fun l=>l[i]?) k3
   simp [hi,show i<m.length from by omega] at this;exact this.1
  have ej:es[j].k=emb (m[j]'(by omega)).1:=by
   have:=congrArg (fun l=>l[j]?) k3
   simp [hj,show j<m.length from by omega] at this;exact this.1
  have hk:=k1.inj (ei.symm.trans (e.trans ej))
  have:=(List.getElem_inj (xs:=m.map (·.1)) (i:=i) (j:=j) (h₀:=by simp;omega) (h₁:=by simp;omega) hn).1 (by simpa using hk)
  subst this;rfl
 find_born {es:List ME} (hn:(es.map (·.b)).Nodup) {e:ME} (he:e∈es):es.find? (fun x=>x.b == e.b)=some e:=by
  cases hf:es.find? (fun x=>x.b == e.b) with
  | none=>rw [List.find?_eq_none] at hf;exact absurd (by simp) (hf e he)
  | some y =>
   have h1:=List.find?_some hf
   have h2:=List.mem_of_find?_eq_some hf
   rw [nodup_map_inj hn h2 he (by simpa using h1)]
theorem zfv.delete (h:zfv ks emb vf G r it m sn) (a:α):∃ M,gdD (.mdel ks) [.mref r,emb a] G=some (.tup [],G.setM r (some M))∧zfv ks emb vf (G.setM r (some M)) r it (mdel m a) sn:=by
 have hne:=h.ne
 obtain ⟨k1,es,cl,since,seen,last,k2,k3,k4,k5,k6,k7,k8,k9,k10,k11⟩:=h
 have hmp:zec G (.mref r)=some (es,cl):=by simp only [zec,k2]
 rcases ze1 k1 a 0 k3 with ⟨e1,e2⟩|⟨j,v,hj,e1,e2,_,e4⟩
 · refine ⟨.map es cl,by simp only [gdD,hmp,k1.keyOk a,e2],k1,es,cl,since,seen,last,by simp [upd],by rw [zik e1];exact k3,k4,k5,by rw [zik e1];exact k6,by rw [Gh.setM_m,zdl hne,k7],k8,k9,k10,k11⟩
 · refine ⟨.map (es.eraseIdx j) cl,by simp only [gdD,hmp,k1.keyOk a,e2,Nat.zero_add],k1,es.eraseIdx j,cl,since,seen,last,by simp [upd],e4,fun e he=>k4 e (List.mem_of_mem_eraseIdx he),?_,zgx k6 a,by rw [Gh.setM_m,zdl hne,k7],fun e he=>k8 e (List.mem_of_mem_eraseIdx he),k9,k10,fun e he=>k11 e (List.mem_of_mem_eraseIdx he)⟩
   exact k5.sublist ((List.eraseIdx_sublist es j).map _)
def zmu (ks:List Kd) (emb:α→D) (vf:β→D) (r it:Nat) (m:List (α×β)) (sn:List α):As:=fun G=>zfv ks emb vf G r it m sn
theorem zfv.subr {G G':Gh} (h:zfv ks emb vf G r it m sn) (hs:zfb G G'):zfv ks emb vf G' r it m sn:=by
 obtain ⟨h1,es,cl,s,sn',la,h2,h3,h4,h5,h6,h7,h8⟩:=h
 exact ⟨h1,es,cl,s,sn',la,hs.m _ _ h2,h3,h4,h5,h6,hs.m _ _ h7,h8⟩
theorem Sep.rngl {Rs:List As} (h:Sep (zmu ks emb vf r it m sn::Rs) G):zfv ks emb vf G r it m sn:=by
 obtain ⟨G1,h1,h2⟩:=h.head
 exact zfv.subr h2 h1
theorem Sep.rngNew {Rs:List As} {X:MO} (h:Sep (zl9 ks emb vf r m::Rs) G) (hit:G.m it=none) (hr:zfv ks emb vf (G.setM it (some X)) r it m sn):Sep (zmu ks emb vf r it m sn::Rs) (G.setM it (some X)):=by
 obtain ⟨G1,G2,h1,h2,h3,h4,h5⟩:=h
 have hn2:=h2.noneM hit
 have hne:=hr.ne
 refine ⟨G1.setM it (some X),G2,⟨h1.c,fun i v e=>?_⟩,h2.trans (.newM hit _),⟨h3.c,fun i=>?_⟩,hr.of ?_ ?_,h5⟩
 · simp only [Gh.setM_m,upd] at e ⊢
   split
   · rename_i hi;rw [if_pos hi] at e;exact e
   · rename_i hi;rw [if_neg hi] at e;exact h1.m _ _ e
 · simp only [Gh.setM_m,upd]
   split
   · rename_i hi;subst hi;exact .inr hn2
   · exact h3.m i
 · obtain ⟨_,es,cl,k2,_⟩:=h4
   rw [Gh.setM_m,Gh.setM_m,zdl hne.symm,zdl hne.symm,k2,h1.m _ _ k2]
 · rw [Gh.setM_m,Gh.setM_m,zim,zim]
theorem Sep.rngSet {Rs:List As} {X:MO} {i:Nat} {m':List (α×β)} {sn':List α} (hi:i=r∨i=it) (h:Sep (zmu ks emb vf r it m sn::Rs) G) (hr:zfv ks emb vf (G.setM i (some X)) r it m' sn'):Sep (zmu ks emb vf r it m' sn'::Rs) (G.setM i (some X)):=by
 obtain ⟨G1,G2,h1,h2,h3,h4,h5⟩:=h
 have ex:∀ j,j=r∨j=it→∃ o,G1.m j=some o:=by
  obtain ⟨_,es,cl,s,sn',la,k2,_,_,_,_,k7,_⟩:=h4
  rintro j (rfl|rfl)
  · exact ⟨_,k2⟩
  · exact ⟨_,k7⟩
 obtain ⟨o,ho⟩:=ex i hi
 have hn:G2.m i=none:=(h3.m i).resolve_left (by rw [ho];simp)
 have same:∀ j,j=r∨j=it→(G1.setM i (some X)).m j=(G.setM i (some X)).m j:=by
  intro j hj
  obtain ⟨o,ho⟩:=ex j hj
  simp only [Gh.setM_m,upd]
  split
  · rfl
  · rw [ho,h1.m _ _ ho]
 refine ⟨G1.setM i (some X),G2,⟨h1.c,fun j v e=>?_⟩,⟨h2.c,fun j v e=>?_⟩,⟨h3.c,fun j=>?_⟩,hr.of (same r (.inl rfl)) (same it (.inr rfl)),h5⟩
 · simp only [Gh.setM_m,upd] at e ⊢
   split
   · rename_i hi;rw [if_pos hi] at e;exact e
   · rename_i hi;rw [if_neg hi] at e;exact h1.m _ _ e
 · simp only [Gh.setM_m,upd]
   split
   · rename_i hi;subst hi;rw [hn] at e;cases e
   · exact h2.m _ _ e
 · simp only [Gh.setM_m,upd]
   split
   · rename_i hi;subst hi;exact .inr hn
   · exact h3.m j
theorem Sep.rngEnd {Rs:List As} (h:Sep (zmu ks emb vf r it m sn::Rs) G):Sep (zl9 ks emb vf r m::Rs) G:=h.imp fun _ hr=>hr.toMap
end
end Go.E2
namespace Go.E2
def wK (ls:List RL) (ρ:Env) (σ:List Hp) (G:Gh) (st:St) {p:Prop} (_:zk p):Prop:=zho ls ρ σ G st∧p
def vMl (vs:Option (List D)) (ks:List Kd) (z:D) (ok:Bool) (G:Gh):Option AV:=match vs with|some vs=>(gdD (.mlook ks z ok) vs G).map (·.1)|none=>none
@[go_sem] theorem z13 (vs:List D) (ks:List Kd) (z:D) (ok:Bool) (G:Gh):vMl (some vs) ks z ok G=(gdD (.mlook ks z ok) vs G).map (·.1):=rfl
@[go_sem] theorem z61 (agg:Bool) (n:Nat) (x:AO) (ρ:Env) (σ:List Hp) (G:Gh):(RL.ld agg n x).val ρ σ G=zgs agg n .foreign (zmd::σ) G (ev ρ x):=rfl
@[go_sem] theorem zzi (ks:List Kd) (z:D) (ok:Bool) (m k:AO) (ρ:Env) (σ:List Hp) (G:Gh):(RL.mlook ks z ok m k).val ρ σ G=vMl (zq ρ [m,k]) ks z ok G:=by
  simp only [RL.val,vMl]
  cases zq ρ [m,k]<;>rfl
@[go_sem] theorem z62 (ρ:Env) (σ:List Hp) (G:Gh) (st:St) {p:Prop} (h:zk p):wK [] ρ σ G st h=p:=by
  simp [wK,zho]
@[go_sem] theorem z4i (r:RL) (ls:List RL) (ρ:Env) (σ:List Hp) (G:Gh) (ρ':Env) (L':Hp) (σ':List Hp) (G':Gh) {p:Prop} (h:zk p):wK (r::ls) ρ σ G (ρ',L',σ',G') h=wP (r.val ρ' σ' G'=r.val ρ σ G) (zk.mk (a:=wK ls ρ σ G (ρ',L',σ',G') h)):=by
  simp only [wK,zho,wP,List.mem_cons,forall_eq_or_imp,and_assoc]
@[go_sem] theorem z4j (n b off len cap:Nat) (G:Gh) (h:n≤len):gdD (.s2a n) [.gs b off len cap] G=some (.d (.gp b off),G):=by simp only [gdD,h,if_true]
@[go_sem] theorem z14 (sz n b off:Nat) (k:IntKind) (l:Int) (G:Gh) (h0:0≤l) (h1:l<n):gdD (.arrS sz n true false false) [.gp b off,.int k l] G=some (.d (.gs b (off+l.toNat * sz) (n - l.toNat) (n - l.toNat)),G):=by
  have e:znf true 0 [.int k l]=some (l,[]):=rfl
  have e2:znf false n []=some ((n:Int),[]):=rfl
  simp only [gdD,e,e2]
  rw [if_pos ⟨h0,by omega,by omega,by omega⟩,if_neg (by omega)]
  simp
@[go_sem] theorem z15 (sz n b off:Nat) (k k':IntKind) (l h:Int) (G:Gh) (h0:0≤l) (h1:l<n) (h2:l≤h) (h3:h≤n):gdD (.arrS sz n true true false) [.gp b off,.int k l,.int k' h] G=some (.d (.gs b (off+l.toNat * sz) (h.toNat - l.toNat) (n - l.toNat)),G):=by
  have e:znf true 0 [.int k l,.int k' h]=some (l,[.int k' h]):=rfl
  have e2:znf true n [.int k' h]=some (h,[]):=rfl
  have e3:znf false n []=some ((n:Int),[]):=rfl
  simp only [gdD,e,e2,e3]
  rw [if_pos ⟨h0,h2,by omega,by omega⟩,if_neg (by omega)]
  simp
@[go_sem] theorem z16 (sz n b off:Nat) (k':IntKind) (h:Int) (G:Gh) (h0:0≤h) (h3:h≤n):gdD (.arrS sz n false true false) [.gp b off,.int k' h] G=some (.d (.gs b off h.toNat n),G):=by
  have e:znf false 0 [.int k' h]=some (((0:Nat):Int),[.int k' h]):=rfl
  have e2:znf true n [.int k' h]=some (h,[]):=rfl
  have e3:znf false n []=some ((n:Int),[]):=rfl
  simp only [gdD,e,e2,e3]
  rw [if_pos ⟨by omega,by omega,by omega,by omega⟩]
  simp
section
variable {P:Program} {os:List AI} {l:List (Nat×AV)} {L:Hp} {σ:List Hp} {G:Gh} {K:St→Prop}
theorem zeo {d:Option Nat} {ls:List RL} {op:AOp} (hn:∀ ls' op',op≠.kp ls' op'):z2 P (⟨d,.kp ls op,none⟩::os) (E l) L σ G K=z2 P [⟨d,op,none⟩] (E l) L σ G (fun st=>wK ls (E l) σ G st (zk.mk (a:=z2 P os st.1 st.2.1 st.2.2.1 st.2.2.2 K))):=by
 simp only [z2,z7,zai,wK,eq_iff_iff]
 cases op with
 | kp ls' op'=>exact absurd rfl (hn _ _)
 | _=>exact Iff.rfl
@[go_sem ↓] theorem zur {d:Option Nat} {ls:List RL} {f:AO} {as:List AO} {q:Nat}:z2 P (⟨d,.kp ls (.call f as q),none⟩::os) (E l) L σ G K=z2 P [⟨d,.call f as q,none⟩] (E l) L σ G (fun st=>wK ls (E l) σ G st (zk.mk (a:=z2 P os st.1 st.2.1 st.2.2.1 st.2.2.2 K))):=zeo (by intros;simp)
@[go_sem ↓] theorem zus {d:Option Nat} {ls:List RL} {a b:Nat} {z:List D} {x y:AO}:z2 P (⟨d,.kp ls (.appG a b z x y),none⟩::os) (E l) L σ G K=z2 P [⟨d,.appG a b z x y,none⟩] (E l) L σ G (fun st=>wK ls (E l) σ G st (zk.mk (a:=z2 P os st.1 st.2.1 st.2.2.1 st.2.2.2 K))):=zeo (by intros;simp)
@[go_sem ↓] theorem zut {d:Option Nat} {ls:List RL} {a b:Nat} {z:List D} {x y:AO}:z2 P (⟨d,.kp ls (.appZ a b z x y),none⟩::os) (E l) L σ G K=z2 P [⟨d,.appZ a b z x y,none⟩] (E l) L σ G (fun st=>wK ls (E l) σ G st (zk.mk (a:=z2 P os st.1 st.2.1 st.2.2.1 st.2.2.2 K))):=zeo (by intros;simp)
@[go_sem ↓] theorem zsv {d:Option Nat} {ls:List RL} {n:Nat} {a v:AO} {r:Root}:z2 P (⟨d,.kp ls (.store n a v r),none⟩::os) (E l) L σ G K=z2 P [⟨d,.store n a v r,none⟩] (E l) L σ G (fun st=>wK ls (E l) σ G st (zk.mk (a:=z2 P os st.1 st.2.1 st.2.2.1 st.2.2.2 K))):=zeo (by intros;simp)
@[go_sem ↓] theorem zuu {d:Option Nat} {ls:List RL} {n:Nat} {x y:AO}:z2 P (⟨d,.kp ls (.copy n x y),none⟩::os) (E l) L σ G K=z2 P [⟨d,.copy n x y,none⟩] (E l) L σ G (fun st=>wK ls (E l) σ G st (zk.mk (a:=z2 P os st.1 st.2.1 st.2.2.1 st.2.2.2 K))):=zeo (by intros;simp)
@[go_sem ↓] theorem zxx {d:Option Nat} {ls:List RL} {k:GD} {as:List AO}:z2 P (⟨d,.kp ls (.gd k as),none⟩::os) (E l) L σ G K=z2 P [⟨d,.gd k as,none⟩] (E l) L σ G (fun st=>wK ls (E l) σ G st (zk.mk (a:=z2 P os st.1 st.2.1 st.2.2.1 st.2.2.2 K))):=zeo (by intros;simp)
@[go_sem ↓] theorem zxy {d:Option Nat} {ls:List RL} {k:GN} {as:List AO}:z2 P (⟨d,.kp ls (.gn k as),none⟩::os) (E l) L σ G K=z2 P [⟨d,.gn k as,none⟩] (E l) L σ G (fun st=>wK ls (E l) σ G st (zk.mk (a:=z2 P os st.1 st.2.1 st.2.2.1 st.2.2.2 K))):=zeo (by intros;simp)
@[go_sem ↓] theorem zvw {d:Option Nat} {ls:List RL} {a n:Nat} {z:D} {ps:List (Nat×AO)}:z2 P (⟨d,.kp ls (.mkG a n z ps),none⟩::os) (E l) L σ G K=z2 P [⟨d,.mkG a n z ps,none⟩] (E l) L σ G (fun st=>wK ls (E l) σ G st (zk.mk (a:=z2 P os st.1 st.2.1 st.2.2.1 st.2.2.2 K))):=zeo (by intros;simp)
end
end Go.E2
namespace Go.E2
variable {P:Program} {K:St→Prop} {ρ:Env} {L:Hp} {σ:List Hp} {G:Gh}
theorem nn {a b:Prop} (x:a) (y:b):a∧b:=⟨x,y⟩
theorem goS {p q F:Prop} (f:F) (hq:q) (h:F→q→p:=by intro f hq;simp -dsimp (disch:=first|omega|(simp only [go_sem];omega)) only [go_sem,seval,Nat.reduceEqDiff,Nat.reduceLeDiff,f];exact hq):p:=h f hq
theorem goR {p q F:Prop} (f:F) (hq:q) (h:F→q→p:=by
 intro f hq
 repeat (first|(with_reducible first|refine W.seq ?_|refine W.block ?_|refine W.scope ?_)|((with_reducible first|refine W.reg ?_|refine W.skip ?_|refine W.exit ?_|refine W.ret ?_|refine W.ifc ?_);simp -dsimp (disch:=first|omega|(simp only [go_sem];omega)) only [go_sem,seval,Nat.reduceEqDiff,Nat.reduceLeDiff,f]))
 exact hq):p:=h f hq
theorem goM {d:Option Nat} {f:AO} {args:List AO} {g:FuncId} {xs:List D} {pre R:List As} {Q:AV→List As→Prop} {q:Nat} {h:zk K}
 (hc:zt P g xs pre Q) (hs:Sep (pre++R) G) (hK:∀ r post G',Q r post→Sep (post++R) G'→K (put ρ d r,L,σ,G')) (hq:q=0∨q=2:=by decide)
 (ht:target (ev ρ f)=some (g,[])∧zq ρ args=some xs:=by simp -dsimp (disch:=first|omega|(simp only [go_sem];omega)) only [go_sem,seval,Nat.reduceEqDiff,Nat.reduceLeDiff]<;>rfl):wC P d f args q ρ L σ G h:=z4d hc hs hq ht hK
theorem goQ {d:Option Nat} {f:AO} {args:List AO} {q:Nat} {g:FuncId} {xs:List D} {v:AV} {h:zk K}
 (hc:zsr P g xs G (·=v)) (hK:K (put ρ d v,L,σ,G)) (ht:target (ev ρ f)=some (g,[])∧zq ρ args=some xs:=by simp -dsimp (disch:=first|omega|(simp only [go_sem];omega)) only [go_sem,seval,Nat.reduceEqDiff,Nat.reduceLeDiff]<;>rfl):wC P d f args q ρ L σ G h:=z8a hc ht fun r e=>by rw [e];exact hK
theorem goC {d:Option Nat} {f:AO} {args:List AO} {q:Nat} {g:FuncId} {xs:List D} {v:AV} {h:zk K}
 (hc:za2 P g xs (·=v)) (hK:K (put ρ d v,L,σ,G)) (ht:target (ev ρ f)=some (g,[])∧zq ρ args=some xs:=by simp -dsimp (disch:=first|omega|(simp only [go_sem];omega)) only [go_sem,seval,Nat.reduceEqDiff,Nat.reduceLeDiff]<;>rfl):wC P d f args q ρ L σ G h:=z8u hc ht fun r e=>by rw [e];exact hK
theorem zgr {l l':List (Nat×AV)} {L:Hp} {σ:List Hp} {G:Gh} (h:∀ p∈l',VLe (E l p.1) p.2:=by
 simp -dsimp (disch:=first|omega|(simp only [go_sem];omega)) only [go_sem,seval,Nat.reduceEqDiff,Nat.reduceLeDiff]<;>((repeat' apply And.intro)<;>first|exact VLe.refl _|(apply zb1;omega)|(apply zb1;simp;done)|exact VLe.own _ _|exact VLe.nilown _|exact VLe.norm _)):zpk (E l,L,σ,G) (E l',L,σ,G):=zmv h
theorem zby {l l':List (Nat×AV)} {h h':List (Nat×Blk)} {σ:List Hp} {G:Gh} (hb:HB h=HB h') (he:∀ p∈l',VLe (E l p.1) p.2:=by
 simp -dsimp (disch:=first|omega|(simp only [go_sem];omega)) only [go_sem,seval,Nat.reduceEqDiff,Nat.reduceLeDiff]<;>((repeat' apply And.intro)<;>first|exact VLe.refl _|(apply zb1;omega)|(apply zb1;simp;done)|exact VLe.own _ _|exact VLe.nilown _|exact VLe.norm _)):zpk (E l,HB h,σ,G) (E l',HB h',σ,G):=z0n he hb
theorem goD {p:Prop} (h:p:=by simp -dsimp (disch:=first|omega|(simp only [go_sem];omega)) only [go_sem,seval,Nat.reduceEqDiff,Nat.reduceLeDiff]):p:=h
end Go.E2
namespace Go.E2
variable {P:Program} {K:St→Prop} {ρ:Env} {L:Hp} {σ:List Hp} {G:Gh}
structure Br (a b:Prop) (q1:a→Prop) (q2:b→Prop):Prop where
 l:∀ h,q1 h
 r:∀ h,q2 h
theorem wX {p:Prop} [Decidable p] {k1 k2:Prop} {q1:p→Prop} {q2:¬ p→Prop} {i1:zk k1} {i2:zk k2} (hq:Br p (¬ p) q1 q2) (h1:∀ h:p,p=True→q1 h→k1) (h2:∀ h:¬ p,p=False→q2 h→k2):wG (.d (.bool (decide p))) true i1 i2 :=
 zdt (fun h=>h1 h (eq_true h) (hq.l h)) (fun h=>h2 h (eq_false h) (hq.r h))
theorem wXF {p:Prop} [Decidable p] {k1 k2:Prop} {q1:¬ p→Prop} {q2:p→Prop} {i1:zk k1} {i2:zk k2} (hq:Br (¬ p) p q1 q2) (h1:∀ h:¬ p,p=False→q1 h→k1) (h2:∀ h:p,p=True→q2 h→k2):wG (.d (.bool (decide p))) false i1 i2 :=
 zwk (fun h=>h1 h (eq_false h) (hq.l h)) (fun h=>h2 h (eq_true h) (hq.r h))
theorem goX {p F:Prop} {q:F→Prop} (f:F) (hq:q f) (h:∀ f:F,q f→p:=by
 intro f hq
 repeat' (first
  | (with_reducible first|refine W.seq ?_|refine W.block ?_|refine W.scope ?_)
  | ((first
      | (with_reducible first|refine W.reg ?_|refine W.skip ?_|refine W.exit ?_|refine W.ret ?_|refine W.ifc ?_)
      | ((with_reducible first|apply wX hq|apply wXF hq)<;>(try (intro _ hG hq;show (_:Prop);(try simp -dsimp only [hG,decide_true,decide_false,not_true_eq_false,not_false_eq_true]);clear hG))))
     <;> (try simp -dsimp (disch:=first|omega|(simp only [go_sem];omega)) only [go_sem,seval,Nat.reduceEqDiff,Nat.reduceLeDiff,f]))
  | simp -dsimp (disch:=first|omega|(simp only [go_sem];omega)) only [go_sem,seval,Nat.reduceEqDiff,Nat.reduceLeDiff,f])
 all_goals exact hq):p:=h f hq
theorem zd5 {p F C1:Prop} {q:F→Prop} (f:F) (c1:C1) (hq:q f) (h:∀ f:F,C1→q f→p:=by
 intro f c1 hq
 repeat' (first
  | (with_reducible first|refine W.seq ?_|refine W.block ?_|refine W.scope ?_)
  | ((first
      | (with_reducible first|refine W.reg ?_|refine W.skip ?_|refine W.exit ?_|refine W.ret ?_|refine W.ifc ?_)
      | refine goC c1 ?_|refine goQ c1 ?_
      | ((with_reducible first|apply wX hq|apply wXF hq)<;>(try (intro _ hG hq;show (_:Prop);(try simp -dsimp only [hG,decide_true,decide_false,not_true_eq_false,not_false_eq_true]);clear hG))))
     <;> (try simp -dsimp (disch:=first|omega|(simp only [go_sem];omega)) only [go_sem,seval,Nat.reduceEqDiff,Nat.reduceLeDiff,f]))
  | simp -dsimp (disch:=first|omega|(simp only [go_sem];omega)) only [go_sem,seval,Nat.reduceEqDiff,Nat.reduceLeDiff,f])
 all_goals exact hq):p:=h f c1 hq
theorem zki {p F C1 C2:Prop} {q:F→Prop} (f:F) (c1:C1) (c2:C2) (hq:q f) (h:∀ f:F,C1→C2→q f→p:=by
 intro f c1 c2 hq
 repeat' (first
  | (with_reducible first|refine W.seq ?_|refine W.block ?_|refine W.scope ?_)
  | ((first
      | (with_reducible first|refine W.reg ?_|refine W.skip ?_|refine W.exit ?_|refine W.ret ?_|refine W.ifc ?_)
      | refine goC c1 ?_|refine goQ c1 ?_|refine goC c2 ?_|refine goQ c2 ?_
      | ((with_reducible first|apply wX hq|apply wXF hq)<;>(try (intro _ hG hq;show (_:Prop);(try simp -dsimp only [hG,decide_true,decide_false,not_true_eq_false,not_false_eq_true]);clear hG))))
     <;> (try simp -dsimp (disch:=first|omega|(simp only [go_sem];omega)) only [go_sem,seval,Nat.reduceEqDiff,Nat.reduceLeDiff,f]))
  | simp -dsimp (disch:=first|omega|(simp only [go_sem];omega)) only [go_sem,seval,Nat.reduceEqDiff,Nat.reduceLeDiff,f])
 all_goals exact hq):p:=h f c1 c2 hq
theorem z63 {p F C1 C2 C3:Prop} {q:F→Prop} (f:F) (c1:C1) (c2:C2) (c3:C3) (hq:q f) (h:∀ f:F,C1→C2→C3→q f→p:=by
 intro f c1 c2 c3 hq
 repeat' (first
  | (with_reducible first|refine W.seq ?_|refine W.block ?_|refine W.scope ?_)
  | ((first
      | (with_reducible first|refine W.reg ?_|refine W.skip ?_|refine W.exit ?_|refine W.ret ?_|refine W.ifc ?_)
      | refine goC c1 ?_|refine goQ c1 ?_|refine goC c2 ?_|refine goQ c2 ?_|refine goC c3 ?_|refine goQ c3 ?_
      | ((with_reducible first|apply wX hq|apply wXF hq)<;>(try (intro _ hG hq;show (_:Prop);(try simp -dsimp only [hG,decide_true,decide_false,not_true_eq_false,not_false_eq_true]);clear hG))))
     <;> (try simp -dsimp (disch:=first|omega|(simp only [go_sem];omega)) only [go_sem,seval,Nat.reduceEqDiff,Nat.reduceLeDiff,f]))
  | simp -dsimp (disch:=first|omega|(simp only [go_sem];omega)) only [go_sem,seval,Nat.reduceEqDiff,Nat.reduceLeDiff,f])
 all_goals exact hq):p:=h f c1 c2 c3 hq
end Go.E2
namespace Go.E2
@[go_sem] theorem z4k (f:FuncId) (ds:List D) (G:Gh):gdD (.bnd f) ds G=if ds.all D.one=true then some (.d (.bnd f ds),G) else none:=by simp only [gdD]
@[go_sem] theorem zxz (neg:Bool) (f:FuncId) (ds:List D) (G:Gh):gdD (.pnil 2 neg) [.bnd f ds] G=some (.d (.bool neg),G):=rfl
section
variable {P:Program} {K:St→Prop} {ρ:Env} {L:Hp} {σ:List Hp} {G:Gh} {d:Option Nat} {f:AO} {args:List AO} {q:Nat} {g:FuncId} {xs vs:List D}
end
end Go.E2
