/-
 Layer 22 (slots),continued: a slot.
 Conditions: of each contract as it says.
-/
import Derived.Test.YtlejjdbmmdghmaaF22q
set_option linter.unusedSimpArgs false
namespace Go.Proofs.Ytlejjdbmmdghmaa
open Go Go.E2 C22
set_option maxHeartbeats 1000000
theorem zs8 (l:List (Nat×AV)) (l':List (Nat×D)) (p q:Nat) (x y:D) (_hpq:p≠q) (h:∀ p∈l',E l p.1=.d p.2):∀ i,VLe (ze6 (zd3 (E l)) [p,q] [x,y] i) (E ((q,.d y)::(p,.d x)::l'.map fun p=>(p.1,.d p.2)) i):=by
 intro i
 have:=zst l l' h i
 simp only [ze6,upd,E]
 split
 · exact .refl _
 · split
   · exact .refl _
   · exact this
theorem Sep.dropM {r:Nat} {o:MO} {R:List As} {G:Gh} (h:Sep (zsn r o::R) G):Sep R (G.setM r none):=by
 obtain ⟨G1,G2,h1,h2,h3,h4,h5⟩:=h
 refine h5.mono ⟨h2.c,fun b v e=>?_⟩
 have hr:G2.m r=none:=(h3.m r).resolve_left (by unfold zsn at h4;rw [h4];simp)
 simp only [Gh.setM_m,upd]
 split
 · rename_i hb;subst hb;rw [hr] at e;cases e
 · exact h2.m _ _ e
theorem sp0 {a:As} {R L:List As} (h:R.Perm L):(a::R).Perm (a::L):=h.cons a
theorem sp1 {a A:As} {R L:List As} (h:(A::R).Perm L):(A::a::R).Perm (a::L):=((List.perm_middle (l₁:=[A]) (a:=a) (l₂:=R))).trans (h.cons a)
theorem sp2 {a A B:As} {R L:List As} (h:(A::B::R).Perm L):(A::B::a::R).Perm (a::L):=((List.perm_middle (l₁:=[A,B]) (a:=a) (l₂:=R))).trans (h.cons a)
theorem sp3 {a A B C:As} {R L:List As} (h:(A::B::C::R).Perm L):(A::B::C::a::R).Perm (a::L):=((List.perm_middle (l₁:=[A,B,C]) (a:=a) (l₂:=R))).trans (h.cons a)
theorem sp4 {a A B C D:As} {R L:List As} (h:(A::B::C::D::R).Perm L):(A::B::C::D::a::R).Perm (a::L):=((List.perm_middle (l₁:=[A,B,C,D]) (a:=a) (l₂:=R))).trans (h.cons a)
theorem sp5 {a A B C D E:As} {R L:List As} (h:(A::B::C::D::E::R).Perm L):(A::B::C::D::E::a::R).Perm (a::L):=((List.perm_middle (l₁:=[A,B,C,D,E]) (a:=a) (l₂:=R))).trans (h.cons a)
theorem sp6 {a A B C D E F:As} {R L:List As} (h:(A::B::C::D::E::F::R).Perm L):(A::B::C::D::E::F::a::R).Perm (a::L):=((List.perm_middle (l₁:=[A,B,C,D,E,F]) (a:=a) (l₂:=R))).trans (h.cons a)
theorem sp7 {a A B C D E F G:As} {R L:List As} (h:(A::B::C::D::E::F::G::R).Perm L):(A::B::C::D::E::F::G::a::R).Perm (a::L):=((List.perm_middle (l₁:=[A,B,C,D,E,F,G]) (a:=a) (l₂:=R))).trans (h.cons a)
theorem sp8 {a A B C D E F G H:As} {R L:List As} (h:(A::B::C::D::E::F::G::H::R).Perm L):(A::B::C::D::E::F::G::H::a::R).Perm (a::L):=((List.perm_middle (l₁:=[A,B,C,D,E,F,G,H]) (a:=a) (l₂:=R))).trans (h.cons a)
theorem sp9 {a A B C D E F G H I:As} {R L:List As} (h:(A::B::C::D::E::F::G::H::I::R).Perm L):(A::B::C::D::E::F::G::H::I::a::R).Perm (a::L):=((List.perm_middle (l₁:=[A,B,C,D,E,F,G,H,I]) (a:=a) (l₂:=R))).trans (h.cons a)
theorem sp10 {a A B C D E F G H I J:As} {R L:List As} (h:(A::B::C::D::E::F::G::H::I::J::R).Perm L):(A::B::C::D::E::F::G::H::I::J::a::R).Perm (a::L):=((List.perm_middle (l₁:=[A,B,C,D,E,F,G,H,I,J]) (a:=a) (l₂:=R))).trans (h.cons a)
theorem sp11 {a A B C D E F G H I J K:As} {R L:List As} (h:(A::B::C::D::E::F::G::H::I::J::K::R).Perm L):(A::B::C::D::E::F::G::H::I::J::K::a::R).Perm (a::L):=((List.perm_middle (l₁:=[A,B,C,D,E,F,G,H,I,J,K]) (a:=a) (l₂:=R))).trans (h.cons a)
theorem pp {l l':List As} (h:l.Perm l':=by
 repeat (first|exact List.Perm.refl _|with_reducible refine sp0 ?_|with_reducible refine sp1 ?_|with_reducible refine sp2 ?_|with_reducible refine sp3 ?_|with_reducible refine sp4 ?_|with_reducible refine sp5 ?_|with_reducible refine sp6 ?_|with_reducible refine sp7 ?_|with_reducible refine sp8 ?_|with_reducible refine sp9 ?_|with_reducible refine sp10 ?_|with_reducible refine sp11 ?_)):l.Perm l':=h
def zc:List D:=z0.1.map eB++[.int .i64 0,.bool false]
theorem zlq:zc.length=66:=rfl
theorem Row.sub2 {sz n cap:Nat} {es cs:List D} (h:Row sz n cap es cs) {i j k:Nat} (hi:i<es.length) (hj:j+k≤sz):zbg true k (some cs) (i * sz+j)=some (.d (.agg ((es[i].cells.drop j).take k))):=Row.sub h hi hj
def zo3 (d:Dk) (first i:Int):Nat→List Fnd
 | 0=>[]
 | 1=>[(readC d (first+2 * i)).1]
 | _=>[(readC d (first+2 * i)).1,(readC d (first+2 * i+1)).1]
def fndE (d:Dk) (first i:Int):Nat→Prop
 | 0=>True
 | 1=>(readC d (first+2 * i)).2=0
 | _=>(readC d (first+2 * i)).2=0∧(readC d (first+2 * i+1)).2=0
theorem zrf (p:Nat) (d:Dk) (X:As) (hX:∀ R G,Sep (X::R) G→Sep (zp p d::R) G) (first n i:Int) (h0:0≤first) (h1:0≤i) (h2:first+2 * i+1≤1000000) :
 zy Try.prog f_zz41 [eP p first n,.int .i64 i] [X] (fun r post=>r=.tup [eF (slotR d first i).1,eF (slotR d first i).2.1,.int .i64 (slotR d first i).2.2]∧post=[X]):=by
 refine zg fol zz41_cp fun R G σ hs=>?_
 have ez:z0.1.map eB++[.int .i64 0,.bool false]=zc:=rfl
 refine goS trivial ?_
 refine goR ez ?_
 refine zam fun g4 hg4=>?_
 try simp -dsimp (disch:=first|omega|(simp only [go_sem];omega)) only [go_sem,seval,Nat.reduceEqDiff,Nat.reduceLeDiff,ez]
 have hs4:=Sep.new (cs:=zc) hg4 hs
 generalize G.set g4 (some zc)=G4 at hs4 ⊢
 try simp -dsimp (disch:=first|omega|(simp only [go_sem];omega)) only [go_sem,seval,Nat.reduceEqDiff,Nat.reduceLeDiff]
 try (repeat (first|(with_reducible first|refine W.seq ?_|refine W.block ?_|refine W.scope ?_)|((with_reducible first|refine W.reg ?_|refine W.skip ?_|refine W.exit ?_|refine W.ret ?_|refine W.ifc ?_);simp -dsimp (disch:=first|omega|(simp only [go_sem];omega)) only [go_sem,seval,Nat.reduceEqDiff,Nat.reduceLeDiff,ez])))
 refine zam fun g5 hg5=>?_
 have hs5:=Sep.new (cs:=zc) hg5 hs4
 generalize G4.set g5 (some zc)=G5 at hs5 ⊢
 try simp -dsimp (disch:=first|omega|(simp only [go_sem];omega)) only [go_sem,seval,Nat.reduceEqDiff,Nat.reduceLeDiff]
 refine goR trivial ?_
 refine zam fun g6 hg6=>?_
 have hs6:=Sep.new (cs:=[.int .i64 0]) hg6 hs5
 generalize G5.set g6 (some [.int .i64 0])=G6 at hs6 ⊢
 try simp -dsimp (disch:=first|omega|(simp only [go_sem];omega)) only [go_sem,seval,Nat.reduceEqDiff,Nat.reduceLeDiff]
 refine goR trivial ?_
 refine zam fun g7 hg7=>?_
 have hs7:=Sep.new (cs:=[.nilS]) hg7 hs6
 generalize G6.set g7 (some [.nilS])=G7 at hs7 ⊢
 refine goS trivial ?_
 refine goR trivial ?_
 (refine goM (zvp p first n i) ((show Sep ([]++_) G7 from hs7)) ?_)
 rintro _ _ G8 ⟨b1,b2,rfl,rfl⟩ hs8
 have hs8:Sep (ze b2 [.int .i64 i]::ze b1 [.gp p 0,.int .i64 first,.int .i64 n]::ze g7 [.nilS]::ze g6 [.int .i64 0]::ze g5 zc::ze g4 zc::X::R) G8:=hs8
 refine goS trivial ?_
 refine goR trivial ?_
 refine W.weaken (zuk (l':=[(12,.d (.clo f_zz17 [.gp b1 0,.gp b2 0])),(7,.d (.gp g7 0)),(6,.d (.gp g6 0)),(5,.d (.gp g5 0)),(4,.d (.gp g4 0))]) (by (simp -dsimp (disch:=first|omega|(simp only [go_sem];omega)) only [go_sem,seval,Nat.reduceEqDiff,Nat.reduceLeDiff]<;>((repeat' apply And.intro)<;>first|exact VLe.refl _|(apply zcz;omega)|(apply zcz;simp;done)|exact VLe.own _ _|exact VLe.nilown _|exact VLe.norm _)))) ?_
 refine W.rangeF (caps:=[.gp b1 0,.gp b2 0]) (zhx zz17_cp) goD fun l hlm=>?_
 have hs9:=Sep.newM (o:=.loop Try.prog (E [(12,.d (.clo f_zz17 [.gp b1 0,.gp b2 0])),(7,.d (.gp g7 0)),(6,.d (.gp g6 0)),(5,.d (.gp g5 0)),(4,.d (.gp g4 0))]) [13,14] zbd zbe) hlm hs8
 refine (zs7 p d first n i h0 h1 h2 b1 b2 l
  (fun k G'=>fndE d first i k∧∃ x,Sep (zsn l (.loop Try.prog (E [(12,.d (.clo f_zz17 [.gp b1 0,.gp b2 0])),(7,.d (.gp g7 0)),(6,.d (.gp g6 0)),(5,.d (.gp g5 0)),(4,.d (.gp g4 0))]) [13,14] zbd zbe) ::
    X::ze b2 [.int .i64 i]::ze b1 [.gp p 0,.int .i64 first,.int .i64 n]::SlA 66 x ((zo3 d first i k).map eF)::ze g7 [x]::ze g6 [.int .i64 0]::ze g5 zc::ze g4 zc::R) G')
  (fun G'=>∃ e,slotR d first i=(zF,zF,e)∧Sep (zsn l (.done .ret)::ze g6 [.int .i64 e]::ze g5 zc::ze g4 zc::X::R) G') _ _ ?_ ?_ ?_).mono ?_
 · refine ⟨trivial,.nilS,?_⟩
   have e1:=Sep.slNil (sz:=66) hs9
   exact e1.perm pp
 · rintro k G' ⟨-,x,h⟩
   exact ⟨_,hX _ _ h.tail⟩
 · rintro k G' hk ⟨hfe,x,h⟩ σ'
   have hsd:=Sep.dropM h
   have hml:(G'.setM l none).m l=none:=by simp [upd]
   obtain ⟨f,hf⟩:∃ f,f=(readC d (first+2 * i+k)).1:=⟨_,rfl⟩
   obtain ⟨er,her⟩:∃ er,er=(readC d (first+2 * i+k)).2:=⟨_,rfl⟩
   rw [← hf,← her]
   refine zss fol h.getM rfl (zs8 _ [(7,.gp g7 0),(6,.gp g6 0),(5,.gp g5 0),(4,.gp g4 0)] 13 14 (eF f) (.int .i64 er) (by decide) (by simp [E])) ?_
   generalize G'.setM l none=G9 at hsd hml ⊢
   have c7:=hsd.tail.tail.tail.tail.get
   have hq:Sep (ze g4 zc::ze g5 zc::ze g6 [.int .i64 0]::X::ze b2 [.int .i64 i]::ze b1 [.gp p 0,.int .i64 first,.int .i64 n]::SlA 66 x ((zo3 d first i k).map eF)::ze g7 [x]::R) G9:=hsd.perm pp
   have c4:=hq.get
   have c5:=hq.tail.get
   have c6:=hq.tail.tail.get
   by_cases he:er=0
   · subst he
     refine goS c7 ?_
     refine goR c7 ?_
     have hr:Sep (SlA 66 x ((zo3 d first i k).map eF)::ze g7 [x]::X::ze b2 [.int .i64 i]::ze b1 [.gp p 0,.int .i64 first,.int .i64 n]::ze g6 [.int .i64 0]::ze g5 zc::ze g4 zc::R) G9:=hsd.perm pp
     have hfl:((zo3 d first i k).map eF).length≤2:=by
      rcases (by omega:k=0∨k=1) with rfl|rfl<;>simp [zo3]
     refine za0 (es2:=[eF f]) (m:=1) hr.gv (zav (es:=[eF f]) (zzr [f])) rfl (zzr [f]) rfl (by rw [zo];omega) fun x' G2 hv2 hto=>?_
     have hr2:=Sep.grow hr hto hv2
     have c7':=hr2.tail.get
     have hm2:G2.m l=none:=by rw [hto.m];exact hml
     obtain ⟨bx,capx,csx,hxe,_,_⟩:=hv2.inv (by simp)
     generalize ((zo3 d first i k).map eF++[eF f]).length=nx at hxe
     subst hxe
     refine goS c7' ?_
     refine goR c7' ?_
     have hr3:=Sep.newM (o:=.loop Try.prog (E [(12,.d (.clo f_zz17 [.gp b1 0,.gp b2 0])),(7,.d (.gp g7 0)),(6,.d (.gp g6 0)),(5,.d (.gp g5 0)),(4,.d (.gp g4 0))]) [13,14] zbd zbe) (r:=l) (by simpa using hm2) (hr2.swap.set (cs':=[.gs bx 0 nx capx]))
     have hfn:(zo3 d first i k).map eF++[eF f]=(zo3 d first i (k+1)).map eF∧fndE d first i (k+1):=by
      rcases (by omega:k=0∨k=1) with rfl|rfl
      · have e1:first+2 * i+((0:Nat):Int)=first+2 * i:=by omega
        rw [e1] at hf her
        exact ⟨by rw [hf];rfl,her.symm⟩
      · have e1:first+2 * i+((1:Nat):Int)=first+2 * i+1:=by omega
        rw [e1] at hf her
        exact ⟨by rw [hf];rfl,hfe,her.symm⟩
     rw [hfn.1] at hr3
     exact fun _=>⟨rfl,.inl ⟨rfl,hfn.2,_,hr3.perm pp⟩⟩
   · have hA:=hq.set (cs':=zc)
     have hB:=hA.swap.set (cs':=zc)
     have hC:=hB.f3.set (cs':=[.int .i64 er])
     have c5':=hA.tail.get
     have c6':=hB.tail.tail.get
     have hdz:List.drop 66 zc=[]:=rfl
     simp only [Gh.set_c] at c5' c6'
     refine goS (nn he (nn c4 (nn c5' (nn c6' (nn zlq (nn ez hdz)))))) ?_
     have hone:zc.all D.one=true:=rfl
     refine goR (nn he (nn c4 (nn c5' (nn c6' (nn zlq (nn ez (nn hdz hone))))))) ?_
     have hD:=Sep.newM (o:=.done .ret) (r:=l) (by simpa using hml) hC
     have hE:Sep (ze b2 [.int .i64 i]::ze b1 [.gp p 0,.int .i64 first,.int .i64 n]::SlA 66 x ((zo3 d first i k).map eF)::ze g7 [x]::zsn l (.done .ret)::ze g6 [.int .i64 er]::ze g5 zc::ze g4 zc::X::R) _:=hD.perm pp
     refine fun _=>⟨rfl,.inr ⟨rfl,er,?_,hE.tail.tail.tail.tail⟩⟩
     unfold slotR
     rcases (by omega:k=0∨k=1) with rfl|rfl
     · have e1:first+2 * i+((0:Nat):Int)=first+2 * i:=by omega
       rw [e1] at her
       rw [if_pos (by rw [← her];exact he),← her]
     · have e1:first+2 * i+((1:Nat):Int)=first+2 * i+1:=by omega
       rw [e1] at her
       have hfe':(readC d (first+2 * i)).2=0:=hfe
       rw [if_neg (by rw [hfe'];simp),if_pos (by rw [← her];exact he),← her]
 · rintro r lv G' ⟨rfl,(⟨⟨hf0,hf1⟩,x,h⟩|⟨e,hsl,h⟩)⟩
   · refine ⟨rfl,.inl ⟨h.getM,?_⟩⟩
     have hsd:=Sep.dropM h
     generalize G'.setM l none=G9 at hsd ⊢
     have c7:=hsd.tail.tail.tail.tail.get
     obtain ⟨f0,hf0'⟩:∃ f,f=(readC d (first+2 * i)).1:=⟨_,rfl⟩
     obtain ⟨f1,hf1'⟩:∃ f,f=(readC d (first+2 * i+1)).1:=⟨_,rfl⟩
     have hv:GV 66 G9 x [eF f0,eF f1]:=by rw [hf0',hf1'];exact hsd.tail.tail.tail.gv
     obtain ⟨b,cap,cs,hxe,hb,hrow⟩:=hv.inv (by simp)
     subst hxe
     have e66:∀ f:Fnd,(eF f).cells[65]?=some (.bool f.good):=fun f=>by rw [zi7,List.getElem?_append_right (by rw [List.length_append,zaj];exact Nat.le_refl _),List.length_append,zaj];rfl
     have e64:∀ f:Fnd,((eF f).cells.drop 0).take 64=f.s.1.map eB:=fun f=>by rw [List.drop_zero,zi7,List.append_assoc,List.take_append_of_le_length (by rw [zaj];exact Nat.le_refl _),List.take_of_length_le (by rw [zaj];exact Nat.le_refl _)]
     have l1:=hrow.fld (i:=1) (j:=65) (by simp) (by omega)
     have l0:=hrow.fld (i:=0) (j:=65) (by simp) (by omega)
     have s1:=Row.sub2 hrow (i:=1) (j:=0) (k:=64) (by simp) (by omega)
     have s0:=Row.sub2 hrow (i:=0) (j:=0) (k:=64) (by simp) (by omega)
     have w1:=hrow.idx (i:=1) (by simp)
     have w0:=hrow.idx (i:=0) (by simp)
     simp only [List.getElem_cons_zero,List.getElem_cons_succ,e66,e64,Option.map_some,Nat.reduceMul,Nat.reduceAdd] at l1 l0 s1 s0 w1 w0
     have hsl:slotR d first i=if f1.good=true∧(f0.good=false∨zch f0.s 0<zch f1.s 0) then (f1,f0,0) else (f0,f1,0):=by
      unfold slotR
      rw [if_neg (by rw [hf0];simp),if_neg (by rw [hf1];simp),← hf0',← hf1']
     have hcl:132≤cs.length:=hrow.ncs
     have n1:66≤cs.length:=by omega
     have n2:64≤cs.length:=by omega
     have g0:=hrow.get (i:=0) (by simp)
     have g1:=hrow.get (i:=1) (by simp)
     simp only [List.getElem_cons_zero,List.getElem_cons_succ,Nat.zero_mul,Nat.one_mul,List.drop_zero,zi7] at g0 g1
     have g2:List.take 64 cs=f0.s.1.map eB:=by
      have:=congrArg (List.take 64) g0
      rw [List.take_take,List.append_assoc,List.take_append_of_le_length (by rw [zaj];exact Nat.le_refl _),List.take_of_length_le (l:=f0.s.1.map eB) (by rw [zaj];exact Nat.le_refl _)] at this
      exact this
     have hq0:Sep (ze g4 zc::ze g5 zc::ze g6 [.int .i64 0]::X::ze b2 [.int .i64 i]::ze b1 [.gp p 0,.int .i64 first,.int .i64 n]::SlA 66 (.gs b 0 2 cap) ((zo3 d first i 2).map eF)::ze g7 [.gs b 0 2 cap]::R) G9:=hsd.perm pp
     clear hsd hf0' hf1'
     have n3:66≤cs.length - 66:=by omega
     have n4:64≤cs.length - 66:=by omega
     have g3:List.take 64 (List.drop 66 cs)=f1.s.1.map eB:=by
      have:=congrArg (List.take 64) g1
      rw [List.take_take,List.append_assoc,List.take_append_of_le_length (by rw [zaj];exact Nat.le_refl _),List.take_of_length_le (l:=f1.s.1.map eB) (by rw [zaj];exact Nat.le_refl _)] at this
      exact this
     have c4:=hq0.get
     have hdz:List.drop 66 zc=[]:=rfl
     have k0:=zf9 f0
     have k1:=zf9 f1
     have z1:(f1.s.1.map eB++[D.int .i64 f1.at']++[D.bool f1.good]).all D.one=true:=by rw [List.all_append,List.all_append,zlw];rfl
     have z0':(f0.s.1.map eB++[D.int .i64 f0.at']++[D.bool f0.good]).all D.one=true:=by rw [List.all_append,List.all_append,zlw];rfl
     have t0:=List.take_of_length_le (Nat.le_of_eq k0)
     have t1:=List.take_of_length_le (Nat.le_of_eq k1)
     have hA:=hq0.set (cs':=f0.s.1.map eB++[D.int .i64 f0.at']++[D.bool f0.good])
     have hB:=hA.swap.set (cs':=f1.s.1.map eB++[D.int .i64 f1.at']++[D.bool f1.good])
     have hC:=hB.f3.set (cs':=[.int .i64 0])
     have hA':=hq0.set (cs':=f1.s.1.map eB++[D.int .i64 f1.at']++[D.bool f1.good])
     have hB':=hA'.swap.set (cs':=f0.s.1.map eB++[D.int .i64 f0.at']++[D.bool f0.good])
     have hC':=hB'.f3.set (cs':=[.int .i64 0])
     have c5:=hq0.tail.get
     have c6:=hq0.tail.tail.get
     have u45:=zew (Sep.ne hq0)
     have u46:=zew (Sep.ne (b:=g6) (hq0.perm (l':=ze g4 zc::ze g6 [.int .i64 0]::ze g5 zc::X::ze b2 [.int .i64 i]::ze b1 [.gp p 0,.int .i64 first,.int .i64 n]::SlA 66 (.gs b 0 2 cap) ((zo3 d first i 2).map eF)::ze g7 [.gs b 0 2 cap]::R) pp))
     have u56:=zew (Sep.ne hq0.tail)
     have u54:=zew (Sep.ne hq0).symm
     have u65:=zew (Sep.ne hq0.tail).symm
     have u64:=zew (Sep.ne (b:=g6) (hq0.perm (l':=ze g4 zc::ze g6 [.int .i64 0]::ze g5 zc::X::ze b2 [.int .i64 i]::ze b1 [.gp p 0,.int .i64 first,.int .i64 n]::SlA 66 (.gs b 0 2 cap) ((zo3 d first i 2).map eF)::ze g7 [.gs b 0 2 cap]::R) pp)).symm
     have hq1:Sep (ze g4 zc::ze g7 [.gs b 0 2 cap]::ze g5 zc::ze g6 [.int .i64 0]::X::ze b2 [.int .i64 i]::ze b1 [.gp p 0,.int .i64 first,.int .i64 n]::SlA 66 (.gs b 0 2 cap) ((zo3 d first i 2).map eF)::R) G9:=hq0.perm pp
     have hq2:Sep (ze g4 zc::SlA 66 (.gs b 0 2 cap) ((zo3 d first i 2).map eF)::ze g7 [.gs b 0 2 cap]::ze g5 zc::ze g6 [.int .i64 0]::X::ze b2 [.int .i64 i]::ze b1 [.gp p 0,.int .i64 first,.int .i64 n]::R) G9:=hq0.perm pp
     have u47:=zew (Sep.ne hq1)
     have u4b:=zew (Sep.neS hq2)
     have u57:=zew (Sep.ne hq1.tail.swap)
     have u5b:=zew (Sep.neS (hq2.tail.perm (l':=ze g5 zc::SlA 66 (.gs b 0 2 cap) ((zo3 d first i 2).map eF)::ze g7 [.gs b 0 2 cap]::ze g6 [.int .i64 0]::X::ze b2 [.int .i64 i]::ze b1 [.gp p 0,.int .i64 first,.int .i64 n]::R) pp))
     have u67:=zew (Sep.ne hq1.tail.f3)
     have u6b:=zew (Sep.neS (hq2.tail.perm (l':=ze g6 [.int .i64 0]::SlA 66 (.gs b 0 2 cap) ((zo3 d first i 2).map eF)::ze g7 [.gs b 0 2 cap]::ze g5 zc::X::ze b2 [.int .i64 i]::ze b1 [.gp p 0,.int .i64 first,.int .i64 n]::R) pp))
     cases hg1:f1.good
     · rw [hg1] at l1 hsl
       refine goS (nn c7 (nn hb l1)) ?_
       refine goR (nn c7 (nn hb (nn l1 (nn n1 (nn n2 (nn n3 (nn n4 (nn g0 (nn g1 (nn g2 (nn g3 (nn c4 (nn zlq (nn hdz (nn c5 (nn c6 (nn u45 (nn u46 (nn u56 (nn u47 (nn u4b (nn u57 (nn u5b (nn u67 (nn u6b (nn k0 (nn k1 (nn z1 z0')))))))))))))))))))))))))))) ?_
       (apply Fin.eq;(focus (simp -dsimp (disch:=first|omega|(simp only [go_sem];omega)) only [go_sem,seval,Nat.reduceEqDiff,Nat.reduceLeDiff,u45,u46,u56,u54,u65,u64,k0,k1,z1,z0',t0,t1]<;>rfl)))
       refine ⟨rfl,_,⟨by rw [hsl,if_neg (by simp)];rfl,rfl⟩,hC.tail.tail.tail.cons fun _ h=>h.tail.tail.tail.tail⟩
     · rw [hg1] at l1 hsl
       cases hg0:f0.good
       · rw [hg0] at l0 hsl
         refine goS (nn c7 (nn hb (nn l1 l0))) ?_
         refine goR (nn c7 (nn hb (nn l1 (nn l0 (nn n1 (nn n2 (nn n3 (nn n4 (nn g0 (nn g1 (nn g2 (nn g3 (nn c4 (nn zlq (nn hdz (nn c5 (nn c6 (nn u45 (nn u46 (nn u56 (nn u47 (nn u4b (nn u57 (nn u5b (nn u67 (nn u6b (nn k0 (nn k1 (nn z1 z0'))))))))))))))))))))))))))))) ?_
         (apply Fin.eq;(focus (simp -dsimp (disch:=first|omega|(simp only [go_sem];omega)) only [go_sem,seval,Nat.reduceEqDiff,Nat.reduceLeDiff,u45,u46,u56,u54,u65,u64,k0,k1,z1,z0',t0,t1]<;>rfl)))
         refine ⟨rfl,_,⟨by rw [hsl,if_pos (by simp)];rfl,rfl⟩,hC'.tail.tail.tail.cons fun _ h=>h.tail.tail.tail.tail⟩
       · rw [hg0] at l0 hsl
         by_cases hnum:zch f0.s 0<zch f1.s 0
         · have e1:((zch f0.s 0:Int)<zch f1.s 0)=True:=eq_true (by omega)
           refine goS (nn c7 (nn hb (nn l1 l0))) ?_
           (refine znq (nn c7 (nn hb (nn l1 (nn l0 (nn n1 (nn n2 (nn n3 (nn n4 (nn g0 (nn g1 (nn g2 (nn g3 (nn e1 (nn c4 (nn zlq (nn hdz (nn c5 (nn c6 (nn u45 (nn u46 (nn u56 (nn u47 (nn u4b (nn u57 (nn u5b (nn u67 (nn u6b (nn k0 (nn k1 (nn z1 z0')))))))))))))))))))))))))))))) (zdp f1.s 0 (by omega)) (zdp f0.s 0 (by omega)) ?_;(repeat' (with_reducible apply Br.mk<;>intro _)))
           (apply Fin.eq;(focus (simp -dsimp (disch:=first|omega|(simp only [go_sem];omega)) only [go_sem,seval,Nat.reduceEqDiff,Nat.reduceLeDiff,u45,u46,u56,u54,u65,u64,k0,k1,z1,z0',t0,t1]<;>rfl)))
           refine ⟨rfl,_,⟨by rw [hsl,if_pos (by simp [hnum])];rfl,rfl⟩,hC'.tail.tail.tail.cons fun _ h=>h.tail.tail.tail.tail⟩
         · have e1:((zch f0.s 0:Int)<zch f1.s 0)=False:=eq_false (by omega)
           refine goS (nn c7 (nn hb (nn l1 l0))) ?_
           (refine znq (nn c7 (nn hb (nn l1 (nn l0 (nn n1 (nn n2 (nn n3 (nn n4 (nn g0 (nn g1 (nn g2 (nn g3 (nn e1 (nn c4 (nn zlq (nn hdz (nn c5 (nn c6 (nn u45 (nn u46 (nn u56 (nn u47 (nn u4b (nn u57 (nn u5b (nn u67 (nn u6b (nn k0 (nn k1 (nn z1 z0')))))))))))))))))))))))))))))) (zdp f1.s 0 (by omega)) (zdp f0.s 0 (by omega)) ?_;(repeat' (with_reducible apply Br.mk<;>intro _)))
           (apply Fin.eq;(focus (simp -dsimp (disch:=first|omega|(simp only [go_sem];omega)) only [go_sem,seval,Nat.reduceEqDiff,Nat.reduceLeDiff,u45,u46,u56,u54,u65,u64,k0,k1,z1,z0',t0,t1]<;>rfl)))
           refine ⟨rfl,_,⟨by rw [hsl,if_neg (by simp [hnum])];rfl,rfl⟩,hC.tail.tail.tail.cons fun _ h=>h.tail.tail.tail.tail⟩
   · refine ⟨rfl,.inr ⟨.ret,h.getM,by simp,?_⟩⟩
     have hsd:=Sep.dropM h
     generalize G'.setM l none=G9 at hsd ⊢
     have c6:=hsd.get
     have c5:=hsd.tail.get
     have c4:=hsd.tail.tail.get
     refine goS (nn c4 (nn c5 c6)) ?_
     (apply Fin.eq;(focus (simp -dsimp (disch:=first|omega|(simp only [go_sem];omega)) only [go_sem,seval,Nat.reduceEqDiff,Nat.reduceLeDiff,c4,c5,c6]<;>rfl)))
     refine ⟨rfl,_,⟨?_,rfl⟩,hsd.tail.tail.tail⟩
     rw [hsl];rfl
theorem zvq (p:Nat) (d:Dk) (first n i:Int) (h0:0≤first) (h1:0≤i) (h2:first+2 * i+1≤1000000) :
 zy Try.prog f_zz41 [eP p first n,.int .i64 i] [zp p d] (fun r post=>r=.tup [eF (slotR d first i).1,eF (slotR d first i).2.1,.int .i64 (slotR d first i).2.2]∧post=[zp p d]) :=
 zrf p d (zp p d) (fun _ _ h=>h) first n i h0 h1 h2
end Go.Proofs.Ytlejjdbmmdghmaa
namespace Go.Proofs.Ytlejjdbmmdghmaa
open Go Go.E2 C22
set_option maxHeartbeats 1000000
theorem zeb (p:Nat) (d:Dk) (first n a:Int) (s:Sec) (hn:d.steps≤999999999) :
 zy Try.prog f_zz32 [eP p first n,.int .i64 a,eS s] [zp p d] (fun r post=>r=.d (.int .i64 (writeR d a s).2)∧post=[zp p (writeR d a s).1]):=by
 refine zg fol zz32_cp fun R G σ hs=>?_
 have hok:Okd d:=by obtain ⟨_,_,_,_,h⟩:=zbi.open hs;exact h.ok
 have hup:=(z1d hok (by omega) a s).2.2
 refine goS trivial ?_
 refine goR trivial ?_
 (refine goM (zrw p d a s (by omega)) (hs) ?_)
 rintro _ _ G2 ⟨rfl,rfl⟩ hs2
 by_cases hw:(wr d a s).2=0
 · have hr:writeR d a s=sy (wr d a s).1:=by unfold writeR;rw [if_neg (by rw [hw];simp)]
   refine goS hw ?_
   refine goR hw ?_
   (refine goM (zvk p (wr d a s).1 (by omega)) (hs2) ?_)
   rintro _ _ G3 ⟨rfl,rfl⟩ hs3
   refine goS trivial ?_
   refine goR trivial ?_
   exact Fin.eq rfl ⟨rfl,_,⟨by rw [hr],by rw [hr]⟩,hs3⟩
 · have hr:writeR d a s=wr d a s:=by unfold writeR;rw [if_pos hw]
   refine goS hw ?_
   refine goR hw ?_
   exact Fin.eq rfl ⟨rfl,_,⟨by rw [hr],by rw [hr]⟩,hs2⟩
theorem zvr (p:Nat) (d:Dk) (first n:Int) (b o:Fnd) (hn:d.steps≤999999999) :
 zy Try.prog f_zz40 [eP p first n,eF b,eF o] [zp p d] (fun r post=>r=.d (.int .i64 (healR d b o).2)∧post=[zp p (healR d b o).1]):=by
 refine zg fol zz40_cp fun R G σ hs=>?_
 have k65:∀ f:Fnd,(List.drop 65 (f.s.1.map eB++[D.int .i64 f.at']++[D.bool f.good])).head?=some (.bool f.good):=fun f=>by
  rw [List.drop_left' (by rw [List.length_append,zaj];rfl)];rfl
 have k64:∀ f:Fnd,(List.drop 64 (f.s.1.map eB++[D.int .i64 f.at']++[D.bool f.good])).head?=some (.int .i64 f.at'):=fun f=>by
  rw [List.append_assoc,List.drop_left' (by rw [zaj])];rfl
 have kb65:=k65 b
 have ko65:=k65 o
 have ko64:=k64 o
 have kbt:List.take 64 (b.s.1.map eB++[D.int .i64 b.at']++[D.bool b.good])=b.s.1.map eB:=by
  rw [List.append_assoc,List.take_append_of_le_length (by rw [zaj];exact Nat.le_refl _),List.take_of_length_le (by rw [zaj];exact Nat.le_refl _)]
 have kot:List.take 64 (o.s.1.map eB++[D.int .i64 o.at']++[D.bool o.good])=o.s.1.map eB:=by
  rw [List.append_assoc,List.take_append_of_le_length (by rw [zaj];exact Nat.le_refl _),List.take_of_length_le (by rw [zaj];exact Nat.le_refl _)]
 have hb:(healR d b o=(d,0)∧(b.good=false∨o.good=true∧o.s=b.s))∨(healR d b o=writeR d o.at' b.s∧b.good=true∧(o.good=false∨¬ o.s=b.s)):=by
  unfold healR
  split
  · rename_i h;exact .inl ⟨rfl,h⟩
  · rename_i h
    refine .inr ⟨rfl,?_,?_⟩
    · cases hg:b.good
      · exact absurd (.inl hg) h
      · rfl
    · cases hg:o.good
      · exact .inl rfl
      · exact .inr fun e=>h (.inr ⟨hg,e⟩)
 have kl1:=zf9 b
 have kl2:=zf9 o
 rcases hb with ⟨hr,hc⟩|⟨hr,hbg,hc⟩
 · rw [hr]
   cases hbg:b.good
   · rw [hbg] at kb65
     refine goS trivial ?_
     refine goR (nn kb65 (nn ko65 (nn ko64 (nn kbt (nn kot (nn kl1 (nn kl2 hbg))))))) ?_
     exact Fin.eq rfl ⟨rfl,_,⟨rfl,rfl⟩,hs⟩
   · rw [hbg] at hc kb65
     obtain ⟨hog,hos⟩:o.good=true∧o.s=b.s:=by simpa using hc
     rw [hog] at ko65
     refine goS trivial ?_
     refine goR (nn kb65 (nn ko65 (nn ko64 (nn kbt (nn kot (nn kl1 (nn kl2 (nn hbg (nn hog hos))))))))) ?_
     exact Fin.eq rfl ⟨rfl,_,⟨rfl,rfl⟩,hs⟩
 · rw [hr]
   rw [hbg] at kb65
   cases hog:o.good
   · rw [hog] at ko65
     refine goS trivial ?_
     refine goR (nn kb65 (nn ko65 (nn ko64 (nn kbt (nn kot (nn kl1 (nn kl2 (nn hbg hog)))))))) ?_
     (refine goM (zeb p d first n o.at' b.s hn) (hs) ?_)
     rintro _ _ G2 ⟨rfl,rfl⟩ hs2
     refine goS trivial ?_
     refine goR trivial ?_
     exact Fin.eq rfl ⟨rfl,_,⟨rfl,rfl⟩,hs2⟩
   · rw [hog] at ko65
     have hos:(o.s=b.s)=False:=eq_false (by rw [hog] at hc;simpa using hc)
     refine goS trivial ?_
     refine goR (nn kb65 (nn ko65 (nn ko64 (nn kbt (nn kot (nn kl1 (nn kl2 (nn hbg (nn hog hos))))))))) ?_
     (refine goM (zeb p d first n o.at' b.s hn) (hs) ?_)
     rintro _ _ G2 ⟨rfl,rfl⟩ hs2
     refine goS trivial ?_
     refine goR trivial ?_
     exact Fin.eq rfl ⟨rfl,_,⟨rfl,rfl⟩,hs2⟩
theorem zoe (p:Nat) (d:Dk) (first n:Int) (hn:d.steps≤900000000) :
 zy Try.prog f_zz57 [.gp p 0,.int .i64 first,.int .i64 n] [zp p d] (fun r post=>r=.d (.int .i64 (fmtR d first n).2)∧post=[zp p (fmtR d first n).1]):=by
 refine zg fol zz57_cp fun R G σ hs=>?_
 have hok:Okd d:=by obtain ⟨_,_,_,_,h⟩:=zbi.open hs;exact h.ok
 have hmost:=hok.most
 have bad:zbx d first n=false→fmtR d first n=(d,1):=fun h=>by unfold fmtR;rw [if_pos h]
 by_cases p1:n<1
 · rw [bad (by unfold zbx;simp [p1])]
   refine goS p1 ?_
   refine goR p1 ?_
   exact Fin.eq rfl ⟨rfl,_,⟨rfl,rfl⟩,hs⟩
 by_cases p2:first<0
 · rw [bad (by unfold zbx;simp [p2])]
   refine goS (nn p1 p2) ?_
   refine goR (nn p1 p2) ?_
   exact Fin.eq rfl ⟨rfl,_,⟨rfl,rfl⟩,hs⟩
 by_cases p3:(d.cs.length:Int)<first
 · rw [bad (by unfold zbx;simp [p3])]
   refine goS (nn p1 (nn p2 p3)) ?_
   (refine zb1 (nn p1 (nn p2 p3)) ((zid p d).q hs) ?_;(repeat' (with_reducible apply Br.mk<;>intro _)))
   exact Fin.eq rfl ⟨rfl,_,⟨rfl,rfl⟩,hs⟩
 have ht:((d.cs.length:Int) - first).tdiv 2=((d.cs.length:Int) - first) / 2:=Int.tdiv_eq_ediv_of_nonneg (by omega)
 by_cases p4:((d.cs.length:Int) - first) / 2<n
 · rw [bad (by unfold zbx;simp [p4])]
   refine goS (nn p1 (nn p2 (nn p3 (nn p4 ht)))) ?_
   (refine zb1 (nn p1 (nn p2 (nn p3 (nn p4 ht)))) ((zid p d).q hs) ?_;(repeat' (with_reducible apply Br.mk<;>intro _)))
   exact Fin.eq rfl ⟨rfl,_,⟨rfl,rfl⟩,hs⟩
 have hp:zbx d first n=true:=by unfold zbx;simp [p1,p2,p3,p4]
 obtain ⟨q1,q2,q3⟩:=zgo hp
 obtain ⟨m,rfl⟩:∃ m:Nat,n=m:=⟨n.toNat,by omega⟩
 refine goS (nn p1 (nn p2 (nn p3 (nn p4 ht)))) ?_
 (refine zb1 (nn p1 (nn p2 (nn p3 (nn p4 ht)))) ((zid p d).q hs) ?_;(repeat' (with_reducible apply Br.mk<;>intro _)))
 refine W.loop (fun q st=>∃ (k:Nat) (G:Gh),k≤2 * m∧q=2 * m - k∧(fmtL d first k).2=0∧Sep (zp p (fmtL d first k).1::R) G ∧
  st=(E [(0,.d (.gp p 0)),(1,.d (.int .i64 first)),(31,.d (.int .i64 (2 * (m:Int)))),(32,.d (.int .i64 k))],HB [],σ,G))
  ⟨_,_,zb7,0,G,by omega,rfl,rfl,hs,rfl⟩ ?_
 rintro q st ⟨k,G1,hk,rfl,hf,hs1,rfl⟩
 refine goR trivial ?_
 refine zns (fun h1=>?_) (fun h1=>?_)
 · have hk':k<2 * m:=by omega
   have hup:=(zp2 hok first k (by omega)).2.2
   (refine zb1 trivial (zml 1 (by omega) (by omega) [] (by simp)) ?_;(repeat' (with_reducible apply Br.mk<;>intro _)))
   (refine goM (zrw p (fmtL d first k).1 (first+k) (mk1 1 []) (by omega)) (hs1) ?_)
   rintro _ _ G2 ⟨rfl,rfl⟩ hs2
   have hstep:fmtL d first (k+1)=wr (fmtL d first k).1 (first+k) (mk1 1 []):=by
    rw [fmtL,if_neg (by rw [hf];simp)]
   rw [← hstep] at hs2 ⊢
   by_cases he:(fmtL d first (k+1)).2=0
   · refine goS he ?_
     refine goR he ?_
     refine ⟨_,_,?_,zb7,k+1,G2,by omega,rfl,he,hs2,rfl⟩
     omega
   · have hfin:∀ j,k+1≤j→fmtL d first j=fmtL d first (k+1):=by
      intro j hj
      induction j with
      | zero=>omega
      | succ j ih =>
       rcases Nat.lt_or_ge k j with h|h
       · rw [fmtL,if_pos (by rw [ih (by omega)];exact he),ih (by omega)]
       · have:j=k:=by omega
         rw [this]
     have hr:fmtR d first m=fmtL d first (k+1):=by
      unfold fmtR
      rw [if_neg (by rw [hp];simp),Int.toNat_natCast,hfin _ (by omega),if_pos he]
     rw [hr]
     refine goS he ?_
     refine goR he ?_
     exact Fin.eq rfl ⟨rfl,_,⟨rfl,rfl⟩,hs2⟩
 · obtain rfl:k=2 * m:=by omega
   have hup:=(zp2 hok first (2 * m) (by omega)).2.2
   have hr:fmtR d first m=sy (fmtL d first (2 * m)).1:=by
    unfold fmtR
    rw [if_neg (by rw [hp];simp),Int.toNat_natCast,if_neg (by rw [hf];simp)]
   rw [hr]
   refine goR trivial ?_
   (refine goM (zvk p (fmtL d first (2 * m)).1 (by omega)) (hs1) ?_)
   rintro _ _ G2 ⟨rfl,rfl⟩ hs2
   refine goS trivial ?_
   refine goR trivial ?_
   exact Fin.eq rfl ⟨rfl,_,⟨rfl,rfl⟩,hs2⟩
end Go.Proofs.Ytlejjdbmmdghmaa
