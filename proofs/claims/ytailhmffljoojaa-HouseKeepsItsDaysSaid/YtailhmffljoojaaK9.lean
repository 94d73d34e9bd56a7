/-
 Layer 52 (house),continued: bytes zco out,an entry dropped,an entry held longer.
 Conditions: of each contract as it says.
-/
import Derived.Test.YtailhmffljoojaaK4
import Derived.Test.YtailhmffljoojaaK5
set_option linter.unusedSimpArgs false
namespace Go.Proofs.Ytailhmffljoojaa
open Go Go.E2 C22 C52
set_option maxHeartbeats 1000000
theorem zt2 {mr:Nat} {G:Gh} {R:List As} (h:Sep (MpA mr []::R) G) (r:Rf):gdD (.mlook [.i,.i,.i,.i] (.agg (zr 8 (.int .i64 0)++[.nilS])) true) [.mref mr,eRf r] G=some (.tup [.agg (zr 8 (.int .i64 0)++[.nilS]),.bool false],G) :=
 (Sep.map h).look2 _ r
theorem zt3 {mr:Nat} {G:Gh} {R:List As} {e:En} {x:D} (h:Sep (MpA mr [(e.r,eHd e x)]::R) G):gdD (.mlook [.i,.i,.i,.i] (.agg (zr 8 (.int .i64 0)++[.nilS])) true) [.mref mr,eRf e.r] G=some (.tup [eHd e x,.bool true],G):=by
 have:=(Sep.map h).look2 (.agg (zr 8 (.int .i64 0)++[.nilS])) e.r
 simpa [zcy] using this
theorem zog {mr:Nat} {G:Gh} {R:List As} {e:En} {x:D} (h:Sep (MpA mr [(e.r,eHd e x)]::R) G) {r:Rf} (hr:e.r≠r):gdD (.mlook [.i,.i,.i,.i] (.agg (zr 8 (.int .i64 0)++[.nilS])) true) [.mref mr,eRf r] G=some (.tup [.agg (zr 8 (.int .i64 0)++[.nilS]),.bool false],G):=by
 have:=(Sep.map h).look2 (.agg (zr 8 (.int .i64 0)++[.nilS])) r
 simpa [zcy,hr] using this
def zgh (o:Option En) (a:Ask):Int×Str :=
 if a.frm<0∨a.cnt<0 then (1,[]) else
 match o with
 | none=>(8,[])
 | some e=>if e.r≠a.r then (8,[]) else if (e.b.length:Int)<a.frm∨(e.b.length:Int) - a.frm<a.cnt then (3,[]) else (0,(e.b.drop a.frm.toNat).take a.cnt.toNat)
theorem z1p (hb n:Nat) (m:Int) (o:Option En) (tick:Int) (a:Ask) (u v:List D) (h1:1≤n) (hn:n≤250) (hm:m≤10000000) :
 zt Try.prog f_zz35 [.gp hb 0,.int .i64 tick,eA a u v] [HsA hb n m o] (fun r post=>r=.d (eSy (zgh o a).1 (zgh o a).2)∧post=[HsA hb n m o]):=by
 refine zj fol zz35_cp fun R G σ hs=>?_
 by_cases g0:a.frm<0∨a.cnt<0
 · have hg:zgh o a=(1,[]):=by unfold zgh;rw [if_pos g0]
   rw [hg]
   refine goS trivial ?_
   (refine zd5 trivial (zak 1) ?_;(repeat' (with_reducible apply Br.mk<;>intro _)))
   all_goals first|exact Fin.eq rfl ⟨rfl,_,⟨rfl,rfl⟩,hs⟩|(exfalso;omega)
 have g1:(a.frm<0)=False:=eq_false (by omega)
 have g2:(a.cnt<0)=False:=eq_false (by omega)
 cases o with
 | none =>
  have hg:zgh none a=(8,[]):=by unfold zgh;rw [if_neg g0]
  rw [hg]
  obtain ⟨q,mr,h2⟩:=Sep.hs0 hs
  have hc:=Sep.get (b:=hb) (cs:=[.gp q 0,.int .i64 n,.mref mr]) h2
  have hl:=zt2 (h2.tail.tail) a.r
  refine goS trivial ?_
  (refine zd5 (nn g1 (nn g2 (nn hc hl))) (zak 8) ?_;(repeat' (with_reducible apply Br.mk<;>intro _)))
  exact Fin.eq rfl ⟨rfl,_,⟨rfl,rfl⟩,hs⟩
 | some e =>
  obtain ⟨q,mr,bx,cap,c,hct,h2⟩:=Sep.hs1 hs
  have hc:=Sep.get (b:=hb) (cs:=[.gp q 0,.int .i64 n,.mref mr]) h2
  have hcl:=hct.len
  by_cases hr:e.r=a.r
  · have hl:=zt3 (h2.tail.tail)
    rw [hr] at hl
    by_cases g3:(e.b.length:Int)<a.frm∨(e.b.length:Int) - a.frm<a.cnt
    · have hg:zgh (some e) a=(3,[]):=by unfold zgh;simp only;rw [if_neg g0,if_neg (by simpa using hr),if_pos g3]
      rw [hg]
      by_cases g4:(e.b.length:Int)<a.frm
      · refine goS trivial ?_
        (refine zd5 (nn g1 (nn g2 (nn hc (nn hl g4)))) (zak 3) ?_;(repeat' (with_reducible apply Br.mk<;>intro _)))
        exact Fin.eq rfl ⟨rfl,_,⟨rfl,rfl⟩,hs⟩
      · have h432:=hct.2.1
        have g4':((e.b.length:Int)<a.frm)=False:=eq_false g4
        have g5:((e.b.length:Int) - a.frm<a.cnt)=True:=eq_true (by omega)
        refine goS trivial ?_
        (refine zd5 (nn g1 (nn g2 (nn hc (nn hl (nn g4' g5))))) (zak 3) ?_;(repeat' (with_reducible apply Br.mk<;>intro _)))
        exact Fin.eq rfl ⟨rfl,_,⟨rfl,rfl⟩,hs⟩
    · have hg:zgh (some e) a=(0,(e.b.drop a.frm.toNat).take a.cnt.toNat):=by unfold zgh;simp only;rw [if_neg g0,if_neg (by simpa using hr),if_neg g3]
      rw [hg]
      have g4:((e.b.length:Int)<a.frm)=False:=eq_false (by omega)
      have g5:((e.b.length:Int) - a.frm<a.cnt)=False:=eq_false (by omega)
      have h432:=hct.2.1
      have g6:a.frm≤e.b.length:=by omega
      have g7:a.cnt≤e.b.length - a.frm:=by omega
      have g8:0≤a.frm:=by omega
      have g9:0≤a.cnt:=by omega
      clear g0 g3
      refine goS trivial ?_
      (refine goX (nn g1 (nn g2 (nn hc (nn hl (nn g4 g5))))) ?_;(repeat' (with_reducible apply Br.mk<;>intro _)))
      have h3:Sep (HmA hb q mr n::zaw q m c::SlA 1 (.gs bx 0 (zu e.b.length) cap) (aL (zu e.b.length))::MpA mr [(e.r,eHd e (.gs bx 0 (zu e.b.length) cap))]::R) G:=h2.perm pp
      (refine goM (zxc hb q mr n bx cap m e c hct (by omega) hn) (h3) ?_)
      rintro _ _ G2 ⟨rfl,rfl⟩ h4
      have h4:Sep (HmA hb q mr n::zaw q m c::SlA 1 (.gs bx 0 (zu e.b.length) cap) (aL (zu e.b.length))::MpA mr [(e.r,eHd e (.gs bx 0 (zu e.b.length) cap))]::R) G2:=h4
      have h5:Sep (HsA hb n m (some e)::R) G2:=Sep.of_hs1 hct (h4.perm pp)
      refine goS trivial ?_
      refine goR trivial ?_
      have hdt:(e.b.take (a.frm+a.cnt).toNat).drop a.frm.toNat=(e.b.drop a.frm.toNat).take a.cnt.toNat:=by
       rw [show (a.frm+a.cnt).toNat=a.frm.toNat+a.cnt.toNat by omega,List.drop_take,Nat.add_sub_cancel_left]
      rw [← hdt]
      exact Fin.eq rfl ⟨rfl,_,⟨rfl,rfl⟩,h5⟩
  · have hl:=zog (h2.tail.tail) hr
    have hg:zgh (some e) a=(8,[]):=by unfold zgh;simp only;rw [if_neg g0,if_pos hr]
    rw [hg]
    refine goS trivial ?_
    (refine zd5 (nn g1 (nn g2 (nn hc hl))) (zak 8) ?_;(repeat' (with_reducible apply Br.mk<;>intro _)))
    exact Fin.eq rfl ⟨rfl,_,⟨rfl,rfl⟩,hs⟩
def zed (o:Option En) (tick:Int) (a:Ask):Int×Option En :=
 match o with
 | none=>(8,none)
 | some e=>if e.r≠a.r then (8,some e) else if tick≤e.keep then (19,some e) else (0,none)
theorem zxh (hb n:Nat) (m:Int) (o:Option En) (tick:Int) (a:Ask) (u v:List D) (hn:n≤250) (hm:m≤10000000) :
 zt Try.prog f_zz26 [.gp hb 0,.int .i64 tick,eA a u v] [HsA hb n m o] (fun r post=>r=.d (eSy (zed o tick a).1 [])∧post=[HsA hb n (m+100) (zed o tick a).2]):=by
 refine zj fol zz26_cp fun R G σ hs=>?_
 cases o with
 | none =>
  obtain ⟨q,mr,h2⟩:=Sep.hs0 hs
  have hc:=Sep.get (b:=hb) (cs:=[.gp q 0,.int .i64 n,.mref mr]) h2
  have hl:=zt2 (h2.tail.tail) a.r
  refine goS trivial ?_
  (refine zd5 (nn hc hl) (zak 8) ?_;(repeat' (with_reducible apply Br.mk<;>intro _)))
  exact Fin.eq rfl ⟨rfl,_,⟨rfl,rfl⟩,Sep.hs_mono (by omega) hs⟩
 | some e =>
  obtain ⟨q,mr,bx,cap,c,hct,h2⟩:=Sep.hs1 hs
  have hc:=Sep.get (b:=hb) (cs:=[.gp q 0,.int .i64 n,.mref mr]) h2
  by_cases hr:e.r=a.r
  · have hl:=zt3 (h2.tail.tail)
    rw [hr] at hl
    by_cases g3:tick≤e.keep
    · have hg:zed (some e) tick a=(19,some e):=by unfold zed;simp only;rw [if_neg (by simpa using hr),if_pos g3]
      rw [hg]
      refine goS trivial ?_
      (refine zd5 (nn hc (nn hl g3)) (zak 19) ?_;(repeat' (with_reducible apply Br.mk<;>intro _)))
      exact Fin.eq rfl ⟨rfl,_,⟨rfl,rfl⟩,Sep.hs_mono (by omega) hs⟩
    · have hg:zed (some e) tick a=(0,none):=by unfold zed;simp only;rw [if_neg (by simpa using hr),if_neg g3]
      rw [hg]
      have g4:(tick≤e.keep)=False:=eq_false g3
      refine goS trivial ?_
      (refine goX (nn hc (nn hl g4)) ?_;(repeat' (with_reducible apply Br.mk<;>intro _)))
      (refine goM (zof hb q mr n bx cap m e c hct (by omega) hn) (h2) ?_)
      rintro _ _ G6 ⟨rfl,rfl⟩ h6
      have h6:Sep (HmA hb q mr n::zaw q (m+100) (List.replicate n [])::MpA mr []::R) G6:=h6
      have h7:Sep (HsA hb n (m+100) none::R) G6:=Sep.of_hs0 h6
      refine goS trivial ?_
      (refine zd5 trivial (zak 0) ?_;(repeat' (with_reducible apply Br.mk<;>intro _)))
      exact Fin.eq rfl ⟨rfl,_,⟨rfl,rfl⟩,h7⟩
  · have hl:=zog (h2.tail.tail) hr
    have hg:zed (some e) tick a=(8,some e):=by unfold zed;simp only;rw [if_pos hr]
    rw [hg]
    refine goS trivial ?_
    (refine zd5 (nn hc hl) (zak 8) ?_;(repeat' (with_reducible apply Br.mk<;>intro _)))
    exact Fin.eq rfl ⟨rfl,_,⟨rfl,rfl⟩,Sep.hs_mono (by omega) hs⟩
def zj4 (o:Option En) (a:Ask):Int×Option En :=
 if ¬ Tms a then (1,o) else
 match o with
 | none=>(8,none)
 | some e=>if e.r≠a.r then (8,some e) else if a.keep<e.keep∨a.til<e.til then (4,some e) else (0,some { e with keep:=a.keep,til:=a.til })
theorem zxi (hb n:Nat) (m:Int) (o:Option En) (tick:Int) (a:Ask) (u v:List D) (hn:n≤250) (hm:m≤10000000) (hsm:∀ e,o=some e→Sml e) :
 zt Try.prog f_zz28 [.gp hb 0,.int .i64 tick,eA a u v] [HsA hb n m o] (fun r post=>r=.d (eSy (zj4 o a).1 [])∧post=[HsA hb n (m+100) (zj4 o a).2]):=by
 refine zj fol zz28_cp fun R G σ hs=>?_
 have ht:=zod a u v
 cases o with
 | none =>
  obtain ⟨q,mr,h2⟩:=Sep.hs0 hs
  have hc:=Sep.get (b:=hb) (cs:=[.gp q 0,.int .i64 n,.mref mr]) h2
  have hl:=zt2 (h2.tail.tail) a.r
  by_cases g0:Tms a
  · have hg:zj4 none a=(8,none):=by unfold zj4;rw [if_neg (by simpa using g0)]
    rw [hg]
    rw [decide_eq_true g0] at ht
    refine goS trivial ?_
    (refine zki (nn hc hl) (zak 8) (ht) ?_;(repeat' (with_reducible apply Br.mk<;>intro _)))
    exact Fin.eq rfl ⟨rfl,_,⟨rfl,rfl⟩,Sep.hs_mono (by omega) hs⟩
  · have hg:zj4 none a=(1,none):=by unfold zj4;rw [if_pos g0]
    rw [hg]
    rw [decide_eq_false g0] at ht
    refine goS trivial ?_
    (refine zki (nn hc hl) (zak 1) (ht) ?_;(repeat' (with_reducible apply Br.mk<;>intro _)))
    exact Fin.eq rfl ⟨rfl,_,⟨rfl,rfl⟩,Sep.hs_mono (by omega) hs⟩
 | some e =>
  obtain ⟨q,mr,bx,cap,c,hct,h2⟩:=Sep.hs1 hs
  have hc:=Sep.get (b:=hb) (cs:=[.gp q 0,.int .i64 n,.mref mr]) h2
  have hsme:=hsm e rfl
  have hcl:=hct.len
  have h9:=zrt hct.2.1
  have h2w:=zks hct.1
  have htn:zu e.b.length≤n:=hct.2.2.1
  by_cases hr:e.r=a.r
  · have hl:=zt3 (h2.tail.tail)
    rw [hr] at hl
    by_cases g0:Tms a
    · rw [decide_eq_true g0] at ht
      by_cases g3:a.keep<e.keep∨a.til<e.til
      · have hg:zj4 (some e) a=(4,some e):=by unfold zj4;simp only;rw [if_neg (by simpa using g0),if_neg (by simpa using hr),if_pos g3]
        rw [hg]
        refine goS trivial ?_
        (refine zki (nn hc hl) (zak 4) (ht) ?_;(repeat' (with_reducible apply Br.mk<;>intro _)))
        all_goals first|exact Fin.eq rfl ⟨rfl,_,⟨rfl,rfl⟩,Sep.hs_mono (by omega) hs⟩|(exfalso;omega)
      · have hg:zj4 (some e) a=(0,some { e with keep:=a.keep,til:=a.til }):=by unfold zj4;simp only;rw [if_neg (by simpa using g0),if_neg (by simpa using hr),if_neg g3]
        rw [hg]
        have g4:(a.keep<e.keep)=False:=eq_false (by omega)
        have g5:(a.til<e.til)=False:=eq_false (by omega)
        obtain ⟨t1,t2,t3⟩:=g0
        obtain ⟨s1,s2,s3,s4,s5⟩:=hsme
        have hne:aL (zu e.b.length)≠[]:=by
         intro h
         have:=congrArg List.length h
         rw [zbb] at this
         simp at this
         omega
        obtain ⟨bx',cap',cs',hx',hbx',hrow'⟩:=(Sep.gv h2.tail.tail.tail).inv hne
        rw [zbb] at hx' hrow'
        cases hx'
        have hread:cs'.head?=some (.int .i64 0):=by have:=zew hrow' (k:=0) (by omega);simpa using this
        have hlt:(0:Int)<(zu e.b.length:Int):=by omega
        have hsm':Sml { e with keep:=a.keep,til:=a.til }:=⟨s1,⟨(show 0≤a.keep by omega),(show a.keep≤1000000 by omega)⟩,⟨(show 0≤a.til by omega),(show a.til≤1000000 by omega)⟩,s4,s5⟩
        have hct':=hct
        obtain ⟨k1,k2,k3,hx0,_,hceq⟩:=hct'
        have hput:∀ h:Str,h≠[]→zmc n (some { e with keep:=a.keep,til:=a.til }) (c.set 0 h):=fun h hh=>⟨k1,k2,k3,h,hh,by rw [hceq,List.set_set]⟩
        refine goS trivial ?_
        (refine zd5 (nn hc (nn hl (nn g4 (nn g5 (nn hbx' (nn hread hlt)))))) (ht) ?_;(repeat' (with_reducible apply Br.mk<;>intro _)))
        have h3:Sep (SlA 1 (.gs bx 0 (zu e.b.length) cap) (aL (zu e.b.length))::HmA hb q mr n::zaw q m c::MpA mr [(e.r,eHd e (.gs bx 0 (zu e.b.length) cap))]::R) G:=h2.perm pp
        (refine goM (zl5 { e with keep:=a.keep,til:=a.til } (.gs bx 0 (zu e.b.length) cap) (zu e.b.length) h9 h2w hsm') (h3) ?_)
        rintro _ _ G2 ⟨h,hh,hhl,rfl,rfl⟩ h4
        have h4:Sep (SlA 1 (.gs bx 0 (zu e.b.length) cap) (aL (zu e.b.length))::HmA hb q mr n::zaw q m c::MpA mr [(e.r,eHd e (.gs bx 0 (zu e.b.length) cap))]::R) G2:=h4
        have h5:Sep (zaw q m c::SlA 1 (.gs bx 0 (zu e.b.length) cap) (aL (zu e.b.length))::HmA hb q mr n::MpA mr [(e.r,eHd e (.gs bx 0 (zu e.b.length) cap))]::R) G2:=h4.perm pp
        have hh1:1≤h.length:=List.length_pos_iff.2 hh
        have hc4:=Sep.get (b:=hb) (cs:=[.gp q 0,.int .i64 n,.mref mr]) h4.tail
        obtain ⟨bx',cap',cs4,hx',hbx4,hrow4⟩:=(Sep.gv h4).inv hne
        rw [zbb] at hx' hrow4
        cases hx'
        have hread4:cs4.head?=some (.int .i64 0):=by have:=zew hrow4 (k:=0) (by omega);simpa using this
        refine goS trivial ?_
        refine zlh (by rw [hc4,hc]) ?_
        try simp -dsimp (disch:=first|omega|(simp only [go_sem];omega)) only [go_sem,seval,Nat.reduceEqDiff,Nat.reduceLeDiff]
        refine zlh (by rw [hbx4,hbx'];show Option.map AV.d cs4.head?=Option.map AV.d cs'.head?;rw [hread4,hread]) ?_
        refine goS trivial ?_
        (refine goM (zm8 q m c (by omega) 0 (by omega) h hh1 hhl) (h5) ?_)
        rintro _ _ G3 ⟨rfl,rfl⟩ h6
        have h6:Sep (zaw q (m+6) (c.set 0 h)::SlA 1 (.gs bx 0 (zu e.b.length) cap) (aL (zu e.b.length))::HmA hb q mr n::MpA mr [(e.r,eHd e (.gs bx 0 (zu e.b.length) cap))]::R) G3:=h6
        have hc6:=Sep.get (b:=hb) (cs:=[.gp q 0,.int .i64 n,.mref mr]) h6.tail.tail
        refine goS trivial ?_
        refine goR hc6 ?_
        have h7:Sep (MpA mr [(e.r,eHd e (.gs bx 0 (zu e.b.length) cap))]::zaw q (m+6) (c.set 0 h)::SlA 1 (.gs bx 0 (zu e.b.length) cap) (aL (zu e.b.length))::HmA hb q mr n::R) G3:=h6.perm pp
        refine zmy (emb:=eRf) (vf:=id) (Sep.map h7) e.r (eHd { e with keep:=a.keep,til:=a.til } (.gs bx 0 (zu e.b.length) cap)) fun M hM=>?_
        have h8:=Sep.mapSet h7 hM
        have hmp:zio [(e.r,eHd e (.gs bx 0 (zu e.b.length) cap))] e.r (eHd { e with keep:=a.keep,til:=a.til } (.gs bx 0 (zu e.b.length) cap))=[(e.r,eHd { e with keep:=a.keep,til:=a.til } (.gs bx 0 (zu e.b.length) cap))]:=by simp [zio]
        rw [hmp] at h8
        generalize G3.setM mr (some M)=G4 at h8 ⊢
        have h9':Sep (zaw q (m+6) (c.set 0 h)::HmA hb q mr n::MpA mr [(e.r,eHd { e with keep:=a.keep,til:=a.til } (.gs bx 0 (zu e.b.length) cap))]::SlA 1 (.gs bx 0 (zu e.b.length) cap) (aL (zu e.b.length))::R) G4:=h8.perm pp
        have h10:=Sep.of_hs1 (e:={ e with keep:=a.keep,til:=a.til }) (hput h hh) (Sep.slt_mono (k:=m+100) (by omega) h9').swap
        refine goS trivial ?_
        refine goR trivial ?_
        exact Fin.eq rfl ⟨rfl,_,⟨rfl,rfl⟩,h10⟩
    · have hg:zj4 (some e) a=(1,some e):=by unfold zj4;rw [if_pos g0]
      rw [hg]
      rw [decide_eq_false g0] at ht
      refine goS trivial ?_
      (refine zki (nn hc hl) (zak 1) (ht) ?_;(repeat' (with_reducible apply Br.mk<;>intro _)))
      exact Fin.eq rfl ⟨rfl,_,⟨rfl,rfl⟩,Sep.hs_mono (by omega) hs⟩
  · have hl:=zog (h2.tail.tail) hr
    by_cases g0:Tms a
    · have hg:zj4 (some e) a=(8,some e):=by unfold zj4;simp only;rw [if_neg (by simpa using g0),if_pos hr]
      rw [hg]
      rw [decide_eq_true g0] at ht
      refine goS trivial ?_
      (refine zki (nn hc hl) (zak 8) (ht) ?_;(repeat' (with_reducible apply Br.mk<;>intro _)))
      exact Fin.eq rfl ⟨rfl,_,⟨rfl,rfl⟩,Sep.hs_mono (by omega) hs⟩
    · have hg:zj4 (some e) a=(1,some e):=by unfold zj4;rw [if_pos g0]
      rw [hg]
      rw [decide_eq_false g0] at ht
      refine goS trivial ?_
      (refine zki (nn hc hl) (zak 1) (ht) ?_;(repeat' (with_reducible apply Br.mk<;>intro _)))
      exact Fin.eq rfl ⟨rfl,_,⟨rfl,rfl⟩,Sep.hs_mono (by omega) hs⟩
end Go.Proofs.Ytailhmffljoojaa
