/-
 Layer 52 (house),continued: an entry put.
 Conditions: of each contract as it says.
-/
import Derived.Test.YtailhmffljoojaaK9
set_option linter.unusedSimpArgs false
namespace Go.Proofs.Ytailhmffljoojaa
open Go Go.E2 C22 C52
set_option maxHeartbeats 2000000
def isO (o:Option En) (r:Rf):Bool:=match o with|none=>false|some e=>decide (e.r=r)
def z1i (a:Ask):Prop:=¬ Tms a∨a.tag<0∨2147483647≤a.tag∨a.b.length<1∨432<a.b.length
instance (a:Ask):Decidable (z1i a):=by unfold z1i;exact inferInstance
def ze7 (n:Nat) (o:Option En) (tick:Int) (a:Ask):Int :=
 if z1i a then 1 else if a.til<tick then 18 else if isO o a.r=true then 9 else if n<tO o+zu a.b.length then 13 else 0
def enA (a:Ask):En:=⟨a.r,a.keep,a.til,a.tag,a.b⟩
def atL (t k:Nat):List D:=(List.range k).map fun j:Nat=>D.int .i64 ((t+j:Nat):Int)
theorem ztr (k:Nat):atL 0 k=aL k:=by simp [atL,aL]
theorem zm9 (t k:Nat):(atL t k).length=k:=by simp [atL]
theorem zts (t k:Nat):atL t (k+1)=atL t k++[.int .i64 ((t+k:Nat):Int)]:=by simp [atL,List.range_succ]
theorem z1j {sz:Nat} {G:Gh} {x:D} {es:List D} (h:GV sz G x es):x.one=true:=by rcases h.shape with rfl|⟨b,n,c,rfl⟩<;>rfl
theorem zgv (l:List (Nat×AV)) (l':List (Nat×D)) (p:Nat) (x:D) (h:∀ p∈l',E l p.1=.d p.2):∀ i,VLe (zc8 (zcq (E l)) [p] [x] i) (E ((p,.d x)::l'.map fun p=>(p.1,.d p.2)) i):=by
 intro i
 have:=zgu l l' h i
 simp only [zc8,upd,E]
 split
 · exact .refl _
 · exact this
theorem z6n {mr:Nat} {G:Gh} {R:List As} {o:Option En} {x:D} (hx:x.one=true) (h:Sep (MpA mr (mO o x)::R) G) (r:Rf):∃ zs:List D,gdD (.mlook [.i,.i,.i,.i] (.agg (zr 8 (.int .i64 0)++[.nilS])) true) [.mref mr,eRf r] G=some (.tup [.agg zs,.bool (isO o r)],G)∧zs.length=9∧zs.all D.one=true:=by
 cases o with
 | none=>exact ⟨_,zt2 h r,rfl,rfl⟩
 | some e =>
  by_cases hr:e.r=r
  · subst hr
    have e1:isO (some e) e.r=true:=by simp [isO]
    rw [e1]
    exact ⟨_,zt3 h,rfl,by simp [D.one] at hx ⊢;exact hx⟩
  · have e1:isO (some e) r=false:=by simp [isO,hr]
    rw [e1]
    exact ⟨_,zog h hr,rfl,rfl⟩
theorem zw8 (hb n:Nat) (m:Int) (o:Option En) (tick:Int) (a:Ask) (u v:List D) (h1:1≤n) (hn:n≤250) (hm:m≤10000000) (hp:Pos a.r) (h0:ze7 n o tick a=0→o=none) :
 zt Try.prog f_zz36 [.gp hb 0,.int .i64 tick,eA a u v] [HsA hb n m o] (fun r post=>r=.d (eSy (ze7 n o tick a) [])∧post=[HsA hb n (m+100) (if ze7 n o tick a=0 then some (enA a) else o)]):=by
 refine zj fol zz36_cp fun R G σ hs=>?_
 obtain ⟨q,mr,x,c,hct,h2⟩:=Sep.hs hs
 have hc:=Sep.get (b:=hb) (cs:=[.gp q 0,.int .i64 n,.mref mr]) h2
 obtain ⟨zs,hl,hz1,hz2⟩:=z6n (z1j (Sep.gv h2.tail.tail.tail)) (h2.tail.tail) a.r
 have ht:=zod a u v
 have hmono:=Sep.hs_mono (k:=m+100) (by omega) hs
 have hne1:∀ k:Int,ze7 n o tick a=k→k≠0→(if ze7 n o tick a=0 then some (enA a) else o)=o:=fun k h h'=>by rw [h,if_neg h']
 by_cases c0:Tms a
 case neg =>
  have hE:ze7 n o tick a=1:=by unfold ze7;rw [if_pos (.inl c0)]
  rw [hne1 1 hE (by omega),hE]
  rw [decide_eq_false c0] at ht
  refine goS (nn hz1 hz2) ?_
  (refine zki (nn hc (nn hl (nn hz1 hz2))) (zak 1) (ht) ?_;(repeat' (with_reducible apply Br.mk<;>intro _)))
  exact Fin.eq rfl ⟨rfl,_,⟨rfl,rfl⟩,hmono⟩
 rw [decide_eq_true c0] at ht
 by_cases c1:a.tag<0
 · have hE:ze7 n o tick a=1:=by unfold ze7;rw [if_pos (.inr (.inl c1))]
   rw [hne1 1 hE (by omega),hE]
   refine goS (nn hz1 hz2) ?_
   (refine zki (nn hc (nn hl (nn hz1 (nn hz2 c1)))) (zak 1) (ht) ?_;(repeat' (with_reducible apply Br.mk<;>intro _)))
   exact Fin.eq rfl ⟨rfl,_,⟨rfl,rfl⟩,hmono⟩
 have c1':(a.tag<0)=False:=eq_false c1
 by_cases c2:2147483647≤a.tag
 · have hE:ze7 n o tick a=1:=by unfold ze7;rw [if_pos (.inr (.inr (.inl c2)))]
   rw [hne1 1 hE (by omega),hE]
   refine goS (nn hz1 hz2) ?_
   (refine zki (nn hc (nn hl (nn hz1 (nn hz2 (nn c1' c2))))) (zak 1) (ht) ?_;(repeat' (with_reducible apply Br.mk<;>intro _)))
   exact Fin.eq rfl ⟨rfl,_,⟨rfl,rfl⟩,hmono⟩
 have c2':(2147483647≤a.tag)=False:=eq_false c2
 by_cases c3:a.b.length<1
 · have hE:ze7 n o tick a=1:=by unfold ze7;rw [if_pos (.inr (.inr (.inr (.inl c3))))]
   rw [hne1 1 hE (by omega),hE]
   have c3':((a.b.length:Int)<1)=True:=eq_true (by omega)
   refine goS (nn hz1 hz2) ?_
   (refine zki (nn hc (nn hl (nn hz1 (nn hz2 (nn c1' (nn c2' c3')))))) (zak 1) (ht) ?_;(repeat' (with_reducible apply Br.mk<;>intro _)))
   exact Fin.eq rfl ⟨rfl,_,⟨rfl,rfl⟩,hmono⟩
 have c3':((a.b.length:Int)<1)=False:=eq_false (by omega)
 by_cases c4:432<a.b.length
 · have hE:ze7 n o tick a=1:=by unfold ze7;rw [if_pos (.inr (.inr (.inr (.inr c4))))]
   rw [hne1 1 hE (by omega),hE]
   have c4':(432<(a.b.length:Int))=True:=eq_true (by omega)
   refine goS (nn hz1 hz2) ?_
   (refine zki (nn hc (nn hl (nn hz1 (nn hz2 (nn c1' (nn c2' (nn c3' c4'))))))) (zak 1) (ht) ?_;(repeat' (with_reducible apply Br.mk<;>intro _)))
   exact Fin.eq rfl ⟨rfl,_,⟨rfl,rfl⟩,hmono⟩
 have c4':(432<(a.b.length:Int))=False:=eq_false (by omega)
 have hbad:¬ z1i a:=by unfold z1i;rintro (h|h|h|h|h)<;>first|exact h c0|omega
 by_cases c5:a.til<tick
 · have hE:ze7 n o tick a=18:=by unfold ze7;rw [if_neg hbad,if_pos c5]
   rw [hne1 18 hE (by omega),hE]
   refine goS (nn hz1 hz2) ?_
   (refine zki (nn hc (nn hl (nn hz1 (nn hz2 (nn c1' (nn c2' (nn c3' (nn c4' c5)))))))) (zak 18) (ht) ?_;(repeat' (with_reducible apply Br.mk<;>intro _)))
   exact Fin.eq rfl ⟨rfl,_,⟨rfl,rfl⟩,hmono⟩
 have c5':(a.til<tick)=False:=eq_false c5
 cases c6:isO o a.r with
 | true =>
  rw [c6] at hl
  have hE:ze7 n o tick a=9:=by unfold ze7;rw [if_neg hbad,if_neg c5,if_pos c6]
  rw [hne1 9 hE (by omega),hE]
  refine goS (nn hz1 hz2) ?_
  (refine zki (nn hc (nn hl (nn hz1 (nn hz2 (nn c1' (nn c2' (nn c3' (nn c4' c5')))))))) (zak 9) (ht) ?_;(repeat' (with_reducible apply Br.mk<;>intro _)))
  exact Fin.eq rfl ⟨rfl,_,⟨rfl,rfl⟩,hmono⟩
 | false =>
 rw [c6] at hl
 have hE:ze7 n o tick a=if n<tO o+zu a.b.length then 13 else 0:=by unfold ze7;rw [if_neg hbad,if_neg c5,if_neg (by rw [c6];simp)]
 have hdv:((a.b.length:Int)+54 - 1).tdiv 54=(((a.b.length+53) / 54:Nat):Int):=by rw [Int.tdiv_eq_ediv_of_nonneg (by omega)];omega
 refine goS (nn hz1 hz2) ?_
 (refine zd5 (nn hc (nn hl (nn hz1 (nn hz2 (nn c1' (nn c2' (nn c3' (nn c4' (nn c5' hdv))))))))) (ht) ?_;(repeat' (with_reducible apply Br.mk<;>intro _)))
 refine zat fun g9 hg9=>?_
 obtain ⟨Wn,hW⟩:∃ Wn,Wn=zu a.b.length:=⟨_,rfl⟩
 have hW2:(1:Int)+(((a.b.length+53) / 54:Nat):Int)=(Wn:Int):=by rw [hW];unfold zu;omega
 have h3:=Sep.new (cs:=[.int .i64 0]) hg9 h2
 refine goS hW2 ?_
 refine goR hW2 ?_
 have h4:=h3.set (cs':=[.int .i64 Wn])
 rw [Gh.set_set] at h4
 generalize G.set g9 (some [D.int .i64 (Wn:Int)])=G2 at h4 ⊢
 refine goR trivial ?_
 refine zat fun g10 hg10=>?_
 have h5:=Sep.new (cs:=zr 8 (.int .i64 0)++[.nilS]) hg10 h4
 refine goS trivial ?_
 refine goR trivial ?_
 have h6:=h5.set (cs':=[.int .i64 a.r.k,.int .i64 a.r.o,.int .i64 a.r.n,.int .i64 a.r.p,.int .i64 a.keep,.int .i64 a.til,.int .i64 a.tag,.int .i64 a.b.length,.nilS])
 rw [Gh.set_set] at h6
 generalize G2.set g10 (some [.int .i64 a.r.k,.int .i64 a.r.o,.int .i64 a.r.n,.int .i64 a.r.p,.int .i64 a.keep,.int .i64 a.til,.int .i64 a.tag,.int .i64 a.b.length,.nilS])=G3 at h6 ⊢
 have h7:Sep (HmA hb q mr n::MpA mr (mO o x)::SlA 1 x (aL (tO o))::ze g10 [.int .i64 a.r.k,.int .i64 a.r.o,.int .i64 a.r.n,.int .i64 a.r.p,.int .i64 a.keep,.int .i64 a.til,.int .i64 a.tag,.int .i64 a.b.length,.nilS]::ze g9 [.int .i64 Wn]::zaw q m c::R) G3:=h6.perm pp
 (refine goM (zrq hb n q mr hn o x (zmc.took hct) (fun e he=>by subst he;have:=zks hct.1;show 0<zu e.b.length;omega)) (h7) ?_)
 rintro _ _ G4 ⟨b1,rfl,rfl⟩ h8
 have h8:Sep (HmA hb q mr n::MpA mr (mO o x)::SlA 1 x (aL (tO o))::FrA b1 n (tO o)::ze g10 [.int .i64 a.r.k,.int .i64 a.r.o,.int .i64 a.r.n,.int .i64 a.r.p,.int .i64 a.keep,.int .i64 a.til,.int .i64 a.tag,.int .i64 a.b.length,.nilS]::ze g9 [.int .i64 Wn]::zaw q m c::R) G4:=h8
 have h9:Sep (FrA b1 n (tO o)::HmA hb q mr n::MpA mr (mO o x)::SlA 1 x (aL (tO o))::ze g10 [.int .i64 a.r.k,.int .i64 a.r.o,.int .i64 a.r.n,.int .i64 a.r.p,.int .i64 a.keep,.int .i64 a.til,.int .i64 a.tag,.int .i64 a.b.length,.nilS]::ze g9 [.int .i64 Wn]::zaw q m c::R) G4:=h8.perm pp
 obtain ⟨u1,cap1,h10⟩:=Sep.fr h9
 refine goS trivial ?_
 refine goR trivial ?_
 refine W.weaken (zmv (l':=[(0,.d (.gp hb 0)),(5,.ptr 0 5 1 0),(6,.ptr 0 6 1 0),(9,.d (.gp g9 0)),(10,.d (.gp g10 0)),(85,.d (.clo f_zz15 [.gp b1 0]))]) (by (simp -dsimp (disch:=first|omega|(simp only [go_sem];omega)) only [go_sem,seval,Nat.reduceEqDiff,Nat.reduceLeDiff]<;>((repeat' apply And.intro)<;>first|exact VLe.refl _|(apply zb1;omega)|(apply zb1;simp;done)|exact VLe.own _ _|exact VLe.nilown _|exact VLe.norm _)))) ?_
 refine W.rangeF (caps:=[.gp b1 0]) (zcc zz15_cp) goD fun l hlm=>?_
 have h11:=Sep.newM (o:=(.loop Try.prog (E [(0,.d (.gp hb 0)),(5,.ptr 0 5 1 0),(6,.ptr 0 6 1 0),(9,.d (.gp g9 0)),(10,.d (.gp g10 0)),(85,.d (.clo f_zz15 [.gp b1 0]))]) [86] zaq zar)) hlm h10
 have htk:=zmc.took hct
 generalize hT:tO o=T at *
 refine (zoe b1 u1 n T cap1 hn h1 htk l
  (fun i G'=>∃ x',Sep (zmr l (.loop Try.prog (E [(0,.d (.gp hb 0)),(5,.ptr 0 5 1 0),(6,.ptr 0 6 1 0),(9,.d (.gp g9 0)),(10,.d (.gp g10 0)),(85,.d (.clo f_zz15 [.gp b1 0]))]) [86] zaq zar)::ze b1 [.gs u1 0 n cap1]::SlA 1 (.gs u1 0 n cap1) (uL n T)::SlA 1 x' (atL T (min (i - T) Wn))::ze g10 [.int .i64 a.r.k,.int .i64 a.r.o,.int .i64 a.r.n,.int .i64 a.r.p,.int .i64 a.keep,.int .i64 a.til,.int .i64 a.tag,.int .i64 a.b.length,x']::ze g9 [.int .i64 Wn]::HmA hb q mr n::MpA mr (mO o x)::SlA 1 x (aL T)::zaw q m c::R) G') _ _ ?_ ?_ ?_ ?_).mono ?_
 · refine ⟨.nilS,?_⟩
   have e1:=Sep.slNil (sz:=1) h11
   have e2:atL T (min (0 - T) Wn)=[]:=by rw [Nat.zero_sub,Nat.zero_min];rfl
   rw [e2]
   exact e1.perm pp
 · rintro i G' ⟨x',h⟩
   exact ⟨_,h.tail⟩
 · rintro i G' hi ⟨x',h⟩
   refine ⟨x',?_⟩
   have e2:i+1 - T=i - T:=by omega
   rw [e2];exact h
 · rintro i G' hi1 hi2 ⟨x',h⟩ σ'
   have hsd:=Sep.dropM h
   have hml:(G'.setM l none).m l=none:=by simp [upd]
   refine zgt fol h.getM rfl (zgv _ [(0,.gp hb 0),(9,.gp g9 0),(10,.gp g10 0)] 86 (.int .i64 i) (by simp [E])) ?_
   generalize G'.setM l none=G9 at hsd hml ⊢
   have hq:Sep (ze g10 [.int .i64 a.r.k,.int .i64 a.r.o,.int .i64 a.r.n,.int .i64 a.r.p,.int .i64 a.keep,.int .i64 a.til,.int .i64 a.tag,.int .i64 a.b.length,x']::ze g9 [.int .i64 Wn]::ze b1 [.gs u1 0 n cap1]::SlA 1 (.gs u1 0 n cap1) (uL n T)::SlA 1 x' (atL T (min (i - T) Wn))::HmA hb q mr n::MpA mr (mO o x)::SlA 1 x (aL T)::zaw q m c::R) G9:=hsd.perm pp
   have c10:=hq.get
   have c9:=hq.tail.get
   have hgv:=Sep.gv hq.tail.tail.tail.tail
   have hln:=hgv.len
   rw [zm9] at hln
   by_cases hlt:i - T<Wn
   · have e1:min (i - T) Wn=i - T:=by omega
     have e2:min (i+1 - T) Wn=(i - T)+1:=by omega
     have e3:i=T+(i - T):=by omega
     rw [e1] at hln hgv hq
     rw [e2]
     have hlt':(((i - T:Nat):Int)<(Wn:Int))=True:=eq_true (by omega)
     refine goS trivial ?_
     refine goR (nn c10 (nn c9 (nn hln hlt'))) ?_
     have hr:Sep (SlA 1 x' (atL T (i - T))::ze g10 [.int .i64 a.r.k,.int .i64 a.r.o,.int .i64 a.r.n,.int .i64 a.r.p,.int .i64 a.keep,.int .i64 a.til,.int .i64 a.tag,.int .i64 a.b.length,x']::ze g9 [.int .i64 Wn]::ze b1 [.gs u1 0 n cap1]::SlA 1 (.gs u1 0 n cap1) (uL n T)::HmA hb q mr n::MpA mr (mO o x)::SlA 1 x (aL T)::zaw q m c::R) G9:=hq.perm pp
     refine zcg (es2:=[.int .i64 (i:Int)]) (m:=1) hgv (zcb (es:=[.int .i64 (i:Int)]) rfl) rfl rfl rfl (by rw [zm9,z8];omega) fun x2 G2 hv2 hto=>?_
     have hr2:=Sep.grow hr hto hv2
     have hal:atL T (i - T)++[.int .i64 (i:Int)]=atL T (i - T+1):=by rw [zts,← e3]
     rw [hal] at hr2
     have hm2:G2.m l=none:=by rw [hto.m];exact hml
     have c10':=hr2.tail.get
     obtain ⟨bx2,cap2,cs2,hxe,_,_⟩:=hv2.inv (by simp)
     generalize (atL T (i - T)++[D.int .i64 (i:Int)]).length=nx at hxe
     subst hxe
     refine goS c10' ?_
     refine goR c10' ?_
     have hr3:=Sep.newM (o:=(.loop Try.prog (E [(0,.d (.gp hb 0)),(5,.ptr 0 5 1 0),(6,.ptr 0 6 1 0),(9,.d (.gp g9 0)),(10,.d (.gp g10 0)),(85,.d (.clo f_zz15 [.gp b1 0]))]) [86] zaq zar)) (r:=l) (by simpa using hm2) (hr2.swap.set (cs':=[.int .i64 a.r.k,.int .i64 a.r.o,.int .i64 a.r.n,.int .i64 a.r.p,.int .i64 a.keep,.int .i64 a.til,.int .i64 a.tag,.int .i64 a.b.length,.gs bx2 0 nx cap2]))
     exact fun _=>⟨rfl,rfl,_,hr3.perm pp⟩
   · have e1:min (i - T) Wn=Wn:=by omega
     have e2:min (i+1 - T) Wn=Wn:=by omega
     rw [e1] at hln hgv hq
     rw [e2]
     have hlt':((Wn:Int)<(Wn:Int))=False:=eq_false (by omega)
     refine goS trivial ?_
     refine goR (nn c10 (nn c9 (nn hln hlt'))) ?_
     have hr3:=Sep.newM (o:=(.loop Try.prog (E [(0,.d (.gp hb 0)),(5,.ptr 0 5 1 0),(6,.ptr 0 6 1 0),(9,.d (.gp g9 0)),(10,.d (.gp g10 0)),(85,.d (.clo f_zz15 [.gp b1 0]))]) [86] zaq zar)) (r:=l) hml hq
     exact fun _=>⟨rfl,rfl,_,hr3.perm pp⟩
 · rintro r σ' G' ⟨rfl,x',hJ⟩
   refine ⟨rfl,.inl ⟨hJ.getM,?_⟩⟩
   have hsd:=Sep.dropM hJ
   generalize G'.setM l none=G9 at hsd ⊢
   have hq:Sep (ze g10 [.int .i64 a.r.k,.int .i64 a.r.o,.int .i64 a.r.n,.int .i64 a.r.p,.int .i64 a.keep,.int .i64 a.til,.int .i64 a.tag,.int .i64 a.b.length,x']::ze g9 [.int .i64 Wn]::SlA 1 x' (atL T (min (n - T) Wn))::HmA hb q mr n::zaw q m c::MpA mr (mO o x)::SlA 1 x (aL T)::ze b1 [.gs u1 0 n cap1]::SlA 1 (.gs u1 0 n cap1) (uL n T)::R) G9:=hsd.perm pp
   have c10:=hq.get
   have c9:=hq.tail.get
   have hgv:=Sep.gv hq.tail.tail
   have hln:=hgv.len
   rw [zm9] at hln
   by_cases hfull:n<T+Wn
   · have e1:min (n - T) Wn=n - T:=by omega
     rw [e1] at hln
     have hE':ze7 n o tick a=13:=by rw [hE,if_pos (by omega)]
     rw [hne1 13 hE' (by omega),hE']
     have hlt':(((n - T:Nat):Int)<(Wn:Int))=True:=eq_true (by omega)
     have h12:Sep (HsA hb n m o::R) G9:=by
      subst hT
      exact (Sep.of_hs hct hq.tail.tail.tail).cons fun _ h=>h.tail.tail
     refine goS trivial ?_
     refine goR (nn c10 (nn c9 (nn hln hlt'))) ?_
     refine goC (zak 13) ?_
     refine goS trivial ?_
     refine goR trivial ?_
     exact Fin.eq rfl ⟨rfl,_,⟨rfl,rfl⟩,Sep.hs_mono (by omega) h12⟩
   have hE':ze7 n o tick a=0:=by rw [hE,if_neg (by omega)]
   obtain rfl:=h0 hE'
   have hT0:T=0:=by rw [← hT];rfl
   subst hT0
   have hcn:c=List.replicate n []:=hct
   have e1:min (n - 0) Wn=Wn:=by omega
   rw [e1] at hln hgv hq
   rw [ztr] at hgv hq
   have hw2:2≤Wn:=by rw [hW];exact zks (by omega)
   have hw9:Wn≤9:=by rw [hW];exact zrt (by omega)
   have hWe:Wn=(a.b.length+53) / 54+1:=hW
   have hne:aL Wn≠[]:=by
    intro h
    have:=congrArg List.length h
    rw [zbb] at this
    simp at this
    omega
   obtain ⟨bx,cap,cs0,hx',_,hrow0⟩:=hgv.inv hne
   rw [zbb] at hx' hrow0
   subst hx'
   have hfit:=hrow0.fit
   have hlt':((Wn:Int)<(Wn:Int))=False:=eq_false (by omega)
   have hc1:(cap=1)=False:=eq_false (by omega)
   rw [hE',if_pos rfl]
   rw [hcn,← zr5 a.b h1] at hq
   have hs0:Sep (zaw q (m+6 * ((0:Nat):Int)) (zkx n a.b 0)::ze g10 [.int .i64 a.r.k,.int .i64 a.r.o,.int .i64 a.r.n,.int .i64 a.r.p,.int .i64 a.keep,.int .i64 a.til,.int .i64 a.tag,.int .i64 a.b.length,.gs bx 0 Wn cap]::SlA 1 (.gs bx 0 Wn cap) (aL Wn)::HmA hb q mr n::MpA mr []::R) G9:=by
    have hq:Sep (ze g10 [.int .i64 a.r.k,.int .i64 a.r.o,.int .i64 a.r.n,.int .i64 a.r.p,.int .i64 a.keep,.int .i64 a.til,.int .i64 a.tag,.int .i64 a.b.length,.gs bx 0 Wn cap]::ze g9 [.int .i64 Wn]::SlA 1 (.gs bx 0 Wn cap) (aL Wn)::HmA hb q mr n::zaw q m (zkx n a.b 0)::MpA mr []::SlA 1 x (aL 0)::ze b1 [.gs u1 0 n cap1]::SlA 1 (.gs u1 0 n cap1) (uL n 0)::R) G9:=hq
    have h13:Sep (zaw q m (zkx n a.b 0)::ze g10 [.int .i64 a.r.k,.int .i64 a.r.o,.int .i64 a.r.n,.int .i64 a.r.p,.int .i64 a.keep,.int .i64 a.til,.int .i64 a.tag,.int .i64 a.b.length,.gs bx 0 Wn cap]::SlA 1 (.gs bx 0 Wn cap) (aL Wn)::HmA hb q mr n::MpA mr []::ze g9 [.int .i64 Wn]::SlA 1 x (aL 0)::ze b1 [.gs u1 0 n cap1]::SlA 1 (.gs u1 0 n cap1) (uL n 0)::R) G9:=hq.perm pp
    exact (Sep.slt_mono (by omega) h13).cons fun _ h=>h.cons fun _ h=>h.cons fun _ h=>h.cons fun _ h=>h.cons fun _ h=>h.tail.tail.tail.tail
   clear hq hJ hsd
   refine goS trivial ?_
   refine goR (nn c10 (nn c9 (nn hln (nn hlt' hc1)))) ?_
   have hwn:Wn≤n:=by omega
   refine W.loop (fun z st=>∃ (k:Nat) (G:Gh) (b5 b7:Blk),k≤Wn - 1∧z=Wn - k ∧
    Sep (zaw q (m+6 * (k:Int)) (zkx n a.b k)::ze g10 [.int .i64 a.r.k,.int .i64 a.r.o,.int .i64 a.r.n,.int .i64 a.r.p,.int .i64 a.keep,.int .i64 a.til,.int .i64 a.tag,.int .i64 a.b.length,.gs bx 0 Wn cap]::SlA 1 (.gs bx 0 Wn cap) (aL Wn)::HmA hb q mr n::MpA mr []::R) G ∧
    st=(E [(0,.d (.gp hb 0)),(6,.ptr 0 6 1 0),(10,.d (.gp g10 0)),(12,.d (.str (a.b.drop (54 * k)))),(108,.d (.gs bx 1 (Wn - 1) (cap - 1))),(109,.d (.int .i64 ((Wn - 1:Nat):Int))),(110,.d (.int .i64 k))],HB [(5,b5),(6,⟨1,some [.int .i64 0,.str [],.nilS,.int .i64 0]⟩),(7,b7)],σ,G))
    ⟨_,_,zby rfl,0,G9,_,_,by omega,rfl,hs0,rfl⟩ ?_
   clear hs0 c10 c9 hgv hln hrow0 hl hc hmono h2 hs ht
   rintro z st ⟨k,G1,b5,b7,hk,rfl,hs1,rfl⟩
   refine goR trivial ?_
   refine zdt (fun h4=>?_) (fun h4=>?_)
   · have hk':k+1<Wn:=by omega
     obtain ⟨bx',cap',cs',hx',hbx',hrow'⟩:=(Sep.gv hs1.tail.tail).inv hne
     rw [zbb] at hx' hrow'
     cases hx'
     have hread:=zew hrow' hk'
     have hread2:(cs'.drop (1+k * 1)).head?=some (.int .i64 ((k+1:Nat):Int)):=by rw [show 1+k * 1=(k+1) * 1 by omega];exact hread
     have hch:=Sep.get (b:=hb) (cs:=[.gp q 0,.int .i64 n,.mref mr]) hs1.tail.tail.tail
     have hrl:(a.b.drop (54 * k)).length≤432:=by rw [List.length_drop];omega
     obtain ⟨n5,hn1,hn2,hn3,hn4⟩:∃ n5:Nat,min ((a.b.drop (54 * k)).length:Int) 54=(n5:Int)∧n5≤(a.b.drop (54 * k)).length∧(a.b.drop (54 * k)).take n5=(a.b.drop (54 * k)).take 54∧(a.b.drop (54 * k)).drop n5=a.b.drop (54 * (k+1)):=by
      refine ⟨min (a.b.drop (54 * k)).length 54,by omega,by omega,?_,?_⟩
      · rcases Nat.le_total (a.b.drop (54 * k)).length 54 with h|h
        · rw [Nat.min_eq_left h,List.take_of_length_le (Nat.le_refl _),List.take_of_length_le h]
        · rw [Nat.min_eq_right h]
      · rcases Nat.le_total (a.b.drop (54 * k)).length 54 with h|h
        · rw [Nat.min_eq_left h,List.drop_of_length_le (Nat.le_refl _),List.drop_of_length_le (by rw [List.length_drop] at h;omega)]
        · rw [Nat.min_eq_right h,List.drop_drop];congr 1
     have hpl:((C52.part a.b k).length≤55):=by unfold C52.part;rw [List.length_cons,List.length_take];omega
     have hpe:C52.part a.b k=2::(a.b.drop (54 * k)).take n5:=by rw [hn3];rfl
     have hpu:=zr6 (n:=n) a.b (k:=k) (by omega)
     have hpn:=zh0 (n:=n) a.b (k:=k) (by omega)
     generalize C52.part a.b k=pk at *
     generalize a.b.drop (54 * k)=rest at *
     refine goR (nn hbx' (nn hread2 (nn hch hn1))) ?_
     (refine goM (zm8 q (m+6 * (k:Int)) (zkx n a.b k) (by omega) (k+1) (by omega) (2::List.take n5 rest) (by simp) (by rw [← hpe];exact hpl)) (hs1) ?_)
     rintro _ _ G2 ⟨rfl,rfl⟩ hs2
     rw [← hpe,hpu] at hs2
     have hs3:=Sep.slt_mono (k:=m+6 * ((k+1:Nat):Int)) (by omega) hs2
     refine goS trivial ?_
     refine goR trivial ?_
     rw [hn4]
     exact zgg.mk ⟨Wn - (k+1),_,by omega,zby rfl,k+1,_,_,_,by omega,rfl,hs3,rfl⟩
   · obtain rfl:k=Wn - 1:=by omega
     have hkw:Wn - 1=(a.b.length+53) / 54:=by omega
     rw [hkw] at hs1
     have hsm:Sml (enA a):=by
      obtain ⟨t1,t2,t3⟩:=c0
      exact ⟨hp,⟨t1,by show a.keep≤1000000;omega⟩,⟨by show 0≤a.til;omega,t3⟩,⟨by show 0≤a.tag;omega,by show a.tag<2147483647;omega⟩,by show a.b.length≤432;omega⟩
     have hput:∀ h:Str,h≠[]→zmc n (some (enA a)) ((zkx n a.b ((a.b.length+53) / 54)).set 0 h):=fun h hh=>⟨by show 1≤a.b.length;omega,by show a.b.length≤432;omega,by show zu a.b.length≤n;omega,h,hh,rfl⟩
     have hpl:=zh0 (n:=n) a.b (k:=(a.b.length+53) / 54) (by omega)
     generalize zkx n a.b ((a.b.length+53) / 54)=cc at *
     obtain ⟨bx',cap',cs',hx',hbx',hrow'⟩:=(Sep.gv hs1.tail.tail).inv hne
     rw [zbb] at hx' hrow'
     cases hx'
     have hread:cs'.head?=some (.int .i64 0):=by have:=zew hrow' (k:=0) (by omega);simpa using this
     have hch:=Sep.get (b:=hb) (cs:=[.gp q 0,.int .i64 n,.mref mr]) hs1.tail.tail.tail
     have hcg:=hs1.tail.get
     have hlt0:(0:Int)<(Wn:Int):=by omega
     refine goR (nn hch (nn hcg (nn hbx' (nn hread hlt0)))) ?_
     have h3:Sep (SlA 1 (.gs bx 0 Wn cap) (aL Wn)::HmA hb q mr n::ze g10 [.int .i64 a.r.k,.int .i64 a.r.o,.int .i64 a.r.n,.int .i64 a.r.p,.int .i64 a.keep,.int .i64 a.til,.int .i64 a.tag,.int .i64 a.b.length,.gs bx 0 Wn cap]::zaw q (m+6 * ((((a.b.length+53) / 54:Nat)):Int)) cc::MpA mr []::R) G1:=hs1.perm pp
     (refine goM (zl5 (enA a) (.gs bx 0 Wn cap) Wn hw9 hw2 hsm) (h3) ?_)
     rintro _ _ G2 ⟨h,hh,hhl,rfl,rfl⟩ h4
     have h4:Sep (SlA 1 (.gs bx 0 Wn cap) (aL Wn)::HmA hb q mr n::ze g10 [.int .i64 a.r.k,.int .i64 a.r.o,.int .i64 a.r.n,.int .i64 a.r.p,.int .i64 a.keep,.int .i64 a.til,.int .i64 a.tag,.int .i64 a.b.length,.gs bx 0 Wn cap]::zaw q (m+6 * ((((a.b.length+53) / 54:Nat)):Int)) cc::MpA mr []::R) G2:=h4
     have h5:Sep (zaw q (m+6 * ((((a.b.length+53) / 54:Nat)):Int)) cc::SlA 1 (.gs bx 0 Wn cap) (aL Wn)::HmA hb q mr n::ze g10 [.int .i64 a.r.k,.int .i64 a.r.o,.int .i64 a.r.n,.int .i64 a.r.p,.int .i64 a.keep,.int .i64 a.til,.int .i64 a.tag,.int .i64 a.b.length,.gs bx 0 Wn cap]::MpA mr []::R) G2:=h4.perm pp
     have hh1:1≤h.length:=List.length_pos_iff.2 hh
     have hc4:=Sep.get (b:=hb) (cs:=[.gp q 0,.int .i64 n,.mref mr]) h4.tail
     have hg4:=h4.tail.tail.get
     obtain ⟨bx',cap',cs4,hx',hbx4,hrow4⟩:=(Sep.gv h4).inv hne
     rw [zbb] at hx' hrow4
     cases hx'
     have hread4:cs4.head?=some (.int .i64 0):=by have:=zew hrow4 (k:=0) (by omega);simpa using this
     refine goS trivial ?_
     refine zlh (by rw [hc4,hch]) ?_
     try simp -dsimp (disch:=first|omega|(simp only [go_sem];omega)) only [go_sem,seval,Nat.reduceEqDiff,Nat.reduceLeDiff]
     refine zlh (by rw [hg4,hcg]) ?_
     try simp -dsimp (disch:=first|omega|(simp only [go_sem];omega)) only [go_sem,seval,Nat.reduceEqDiff,Nat.reduceLeDiff]
     refine zlh (by rw [hbx4,hbx'];show Option.map AV.d cs4.head?=Option.map AV.d cs'.head?;rw [hread4,hread]) ?_
     refine goS trivial ?_
     (refine goM (zm8 q (m+6 * ((((a.b.length+53) / 54:Nat)):Int)) cc (by omega) 0 (by omega) h hh1 hhl) (h5) ?_)
     rintro _ _ G3 ⟨rfl,rfl⟩ h6
     have h6:Sep (zaw q (m+6 * ((((a.b.length+53) / 54:Nat)):Int)+6) (cc.set 0 h)::SlA 1 (.gs bx 0 Wn cap) (aL Wn)::HmA hb q mr n::ze g10 [.int .i64 a.r.k,.int .i64 a.r.o,.int .i64 a.r.n,.int .i64 a.r.p,.int .i64 a.keep,.int .i64 a.til,.int .i64 a.tag,.int .i64 a.b.length,.gs bx 0 Wn cap]::MpA mr []::R) G3:=h6
     have hc6:=Sep.get (b:=hb) (cs:=[.gp q 0,.int .i64 n,.mref mr]) h6.tail.tail
     have hg6:=h6.tail.tail.tail.get
     refine goS trivial ?_
     refine goR (nn hc6 hg6) ?_
     have h7:Sep (MpA mr []::zaw q (m+6 * ((((a.b.length+53) / 54:Nat)):Int)+6) (cc.set 0 h)::SlA 1 (.gs bx 0 Wn cap) (aL Wn)::HmA hb q mr n::ze g10 [.int .i64 a.r.k,.int .i64 a.r.o,.int .i64 a.r.n,.int .i64 a.r.p,.int .i64 a.keep,.int .i64 a.til,.int .i64 a.tag,.int .i64 a.b.length,.gs bx 0 Wn cap]::R) G3:=h6.perm pp
     refine zmy (emb:=eRf) (vf:=id) (Sep.map h7) a.r (eHd (enA a) (.gs bx 0 Wn cap)) fun M hM=>?_
     have h8:=Sep.mapSet h7 hM
     have hmp:zio [] a.r (eHd (enA a) (.gs bx 0 Wn cap))=[((enA a).r,eHd (enA a) (.gs bx 0 Wn cap))]:=rfl
     rw [hmp] at h8
     generalize G3.setM mr (some M)=G4 at h8 ⊢
     have h9':Sep (zaw q (m+6 * ((((a.b.length+53) / 54:Nat)):Int)+6) (cc.set 0 h)::HmA hb q mr n::MpA mr [((enA a).r,eHd (enA a) (.gs bx 0 Wn cap))]::SlA 1 (.gs bx 0 Wn cap) (aL Wn)::ze g10 [.int .i64 a.r.k,.int .i64 a.r.o,.int .i64 a.r.n,.int .i64 a.r.p,.int .i64 a.keep,.int .i64 a.til,.int .i64 a.tag,.int .i64 a.b.length,.gs bx 0 Wn cap]::R) G4:=h8.perm pp
     have h9'':=(Sep.slt_mono (k:=m+100) (by omega) h9').swap
     have hWe2:Wn=zu (enA a).b.length:=hW
     rw [hWe2] at h9''
     have h10:=Sep.of_hs1 (e:=enA a) (hput h hh) h9''
     have h11:Sep (HsA hb n (m+100) (some (enA a))::R) G4:=h10.cons fun _ h=>h.tail
     refine goS trivial ?_
     refine goR trivial ?_
     exact Fin.eq rfl ⟨rfl,_,⟨rfl,rfl⟩,h11⟩
end Go.Proofs.Ytailhmffljoojaa
