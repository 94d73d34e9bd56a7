/-
 Layer 40 (txn),the law TxnRunsAsSpecified.
 Conditions: of each contract as it says.
-/
import Derived.Test.YtlejjdbmmdghmaaY5
import Derived.Test.YtlejjdbmmdghmaaX17
set_option linter.unusedSimpArgs false
namespace Go.Proofs.Ytlejjdbmmdghmaa
open Go Go.E2 C22 C40
set_option maxHeartbeats 4000000
structure Cl where
 kind:Int
 id:Int
 ps:List (List Tw)
abbrev eCl (c:Cl):D:=.agg [.int .i64 c.kind,.int .i64 c.id,.list (c.ps.map eL)]
theorem z1y (l:List Cl):(l.map eCl).all (zb 3)=true:=by
 rw [List.all_eq_true];intro x hx
 obtain ⟨y,_,rfl⟩:=List.mem_map.1 hx;rfl
abbrev LB (wb p0 p1 p2 kb a b sb sc:Nat) (m:Int) (dc:List Str) (S0 S1:SS) (r0 r1:RS) (R:List As):List As :=
 zi kb m dc::zj a 2 m S0::zj b 2 m S1::SlA 2 (gS sb sc) [eRS r0,eRS r1]::WoA wb p0 p1 p2 kb a b::R
structure LM (dc:List Str) (S0 S1:SS) (l:List Int) (r0 r1:RS):Prop where
 d:DMt dc (l,4)
 s0:Mt 2 S0 r0
 s1:Mt 2 S1 r1
theorem z1z (cs:List Cl) (hp:∀ c∈cs,c.ps.length≤9223372036854775807∧∀ l∈c.ps,l.length≤9223372036854775807) (hcl:cs.length≤9223372036854775807) :
 zy Try.prog f_zz5 [.list (cs.map eCl)] [] (fun r post=>r=.d (.bool true)∧post=[]):=by
 refine zg fol zz5_cp fun R G σ hs=>?_
 refine goS trivial ?_
 refine goR trivial ?_
 (refine goM (zrz) (hs) ?_)
 rintro _ _ G1 ⟨wb,p0,p1,p2,kb,a,b,rfl,rfl⟩ h1
 have h1:Sep (WoA wb p0 p1 p2 kb a b::zi kb 100 (rep 4)::zj a 2 100 sS0::zj b 2 100 sS0::R) G1:=h1
 by_cases c3:30<cs.length
 · have e3:(30<(cs.length:Int))=True:=eq_true (by omega)
   have h5:Sep ([]++R) G1:=h1.tail.tail.tail.tail
   refine goS trivial ?_
   (refine goX e3 ?_;(repeat' (with_reducible apply Br.mk<;>intro _)))
   (refine goM (zor) (h5) ?_)
   rintro _ _ G4 ⟨rfl,rfl⟩ h6
   refine goS trivial ?_
   (refine goX trivial ?_;(repeat' (with_reducible apply Br.mk<;>intro _)))
   exact Fin.eq rfl ⟨rfl,_,⟨rfl,rfl⟩,h6⟩
 have e3:(30<(cs.length:Int))=False:=eq_false (by omega)
 have hnew:=z1m 2 (by omega)
 refine goS trivial ?_
 (refine zb1 e3 (hnew) ?_;(repeat' (with_reducible apply Br.mk<;>intro _)))
 refine zam fun sb0 hsb=>?_
 have h2:Sep (SlA 2 (gS sb0 2) [eRS (List.replicate 2 (0,[]),[]),eRS (List.replicate 2 (0,[]),[])]::WoA wb p0 p1 p2 kb a b::zi kb 100 (rep 4)::zj a 2 100 sS0::zj b 2 100 sS0::R) (G1.set sb0 (some (zag [eRS (List.replicate 2 (0,[]),[]),eRS (List.replicate 2 (0,[]),[])]))) :=
  Sep.toSl (Sep.new hsb h1) (by
   have:=Row.mk' (sz:=2) (n:=2) (cap:=2) (es:=[eRS (List.replicate 2 (0,[]),[]),eRS (List.replicate 2 (0,[]),[])]) (rest:=[]) rfl rfl (by omega) (by simp [zag,D.cells])
   rw [List.append_nil] at this
   exact this)
 have hM0:LM (rep 4) sS0 sS0 [] (List.replicate 2 (0,[]),[]) (List.replicate 2 (0,[]),[]):=⟨DMt.start,Mt.fresh (by omega) (by omega),Mt.fresh (by omega) (by omega)⟩
 clear hs h1 hnew
 refine goS trivial ?_
 (refine goX trivial ?_;(repeat' (with_reducible apply Br.mk<;>intro _)))
 refine W.loop (fun z st=>∃ (j:Nat) (dc:List Str) (S0 S1:SS) (l:List Int) (r0 r1:RS) (sb sc:Nat) (is:Bool) (e:Int) (b7 b10 b11 b13:Blk) (k:Int) (G:Gh),z+j=cs.length∧LM dc S0 S1 l r0 r1∧0≤k∧k≤100+3000 * j∧Sep (LB wb p0 p1 p2 kb a b sb sc k dc S0 S1 r0 r1 R) G ∧
  st=(E [(3,.d (.gp wb 0)),(5,.ptr 0 5 1 0),(32,.d (.list (cs.map eCl))),(33,.d (.int .i64 (cs.length:Nat))),(34,.d (.int .i64 (j:Nat)))],HB [(5,⟨1,some [.list (l.map eI),.int .i64 4,gS sb sc,.bool is,.int .i64 e]⟩),(7,b7),(10,b10),(11,b11),(13,b13)],σ,G))
  ⟨cs.length,_,z5b (by (simp -dsimp (disch:=first|omega|(simp only [go_sem];omega)) only [go_sem,seval,Nat.reduceEqDiff,Nat.reduceLeDiff]<;>((repeat' apply And.intro)<;>first|exact VLe.refl _|(apply zcz;omega)|(apply zcz;simp;done)|exact VLe.own _ _|exact VLe.nilown _|exact VLe.norm _))) (ztk.pad (ztk.box 5 1 (zhc.cons (.inr rfl) (zhc.refl _)) (ztk.refl _)) [7,10,11,13] rfl),0,rep 4,sS0,sS0,[],_,_,sb0,2,false,0,_,_,_,_,100,_,Nat.add_zero _,hM0,by omega,by omega,h2.perm pp,rfl⟩ ?_
 rintro z st ⟨j,dc,S0,S1,l,r0,r1,sb,sc,is,e,b7,b10,b11,b13,k,G3,hz,hM,hk0,hk,h3,rfl⟩
 clear h2 hM0
 by_cases hjl:j<cs.length
 case neg =>
  have hxj:((j:Int)<(cs.length:Int))=False:=eq_false (by omega)
  have h5:Sep ([]++R) G3:=h3.tail.tail.tail.tail.tail
  (refine goX hxj ?_;(repeat' (with_reducible apply Br.mk<;>intro _)))
  (refine goM (zor) (h5) ?_)
  rintro _ _ G4 ⟨rfl,rfl⟩ h6
  refine goS trivial ?_
  (refine goX trivial ?_;(repeat' (with_reducible apply Br.mk<;>intro _)))
  exact Fin.eq rfl ⟨rfl,_,⟨rfl,rfl⟩,h6⟩
 have hjl':(j:Int)<(cs.length:Int):=by omega
 have hall:=z1y cs
 have hpp:=hp _ (List.getElem_mem hjl)
 generalize hcj:cs[j]=c at hpp
 obtain ⟨kind,id,ps⟩:=c
 obtain ⟨hp1,hp2⟩:=hpp
 simp only at hp1 hp2
 refine W.seq ?_
 refine W.reg ?_
 refine goS trivial ?_
 refine W.seq ?_
 refine W.ifc ?_
 refine goS hjl' ?_
 refine W.skip ?_
 refine goS trivial ?_
 refine W.seq ?_
 refine W.block ?_
 refine W.seq ?_
 refine W.reg ?_
 refine goS (nn hall hcj) ?_
 refine W.cut (fun st=>∃ (dc:List Str) (S0 S1:SS) (l:List Int) (r0 r1:RS) (sb sc:Nat) (is:Bool) (e:Int) (b10 b11 b13:Blk) (k:Int) (G:Gh),LM dc S0 S1 l r0 r1∧0≤k∧k≤100+3000 * ((j+1:Nat):Int)∧Sep (LB wb p0 p1 p2 kb a b sb sc k dc S0 S1 r0 r1 R) G ∧
  st=(E [(3,.d (.gp wb 0)),(5,.ptr 0 5 1 0),(7,.ptr 0 7 (b7.g+1) 0),(32,.d (.list (cs.map eCl))),(33,.d (.int .i64 (cs.length:Nat))),(34,.d (.int .i64 (j:Nat)))],HB [(5,⟨1,some [.list (l.map eI),.int .i64 4,gS sb sc,.bool is,.int .i64 e]⟩),(7,⟨b7.g+1,some [.int .i64 kind,.int .i64 id,.list (ps.map eL)]⟩),(10,b10),(11,b11),(13,b13)],σ,G)) ?_ ?_
 rotate_left
 · rintro st ⟨dc,S0,S1,l,r0,r1,sb,sc,is,e,b10,b11,b13,k,G4,hM,hk0,hk,h4,rfl⟩
   clear h3
   have hgw:G4.c wb=some [.gp p0 0,.gp p1 0,.gp p2 0,.gp kb 0,zau a b]:=Sep.get (b:=wb) (cs:=[.gp p0 0,.gp p1 0,.gp p2 0,.gp kb 0,zau a b]) h4.tail.tail.tail.tail
   have hout:=zef kb k dc (by omega) hM.d.ok id
   refine goR hgw ?_
   (refine goM (hout) (h4) ?_)
   rintro _ _ G5 ⟨rfl,rfl⟩ h5
   have h5:Sep (LB wb p0 p1 p2 kb a b sb sc k dc S0 S1 r0 r1 R) G5:=h5
   have hgw:G5.c wb=some [.gp p0 0,.gp p1 0,.gp p2 0,.gp kb 0,zau a b]:=Sep.get (b:=wb) (cs:=[.gp p0 0,.gp p1 0,.gp p2 0,.gp kb 0,zau a b]) h5.tail.tail.tail.tail
   have hhas:=zkk (l,4) id (by have:=hM.d.le;simp only at this ⊢;omega)
   obtain ⟨cs0,hbc,hrow⟩:=zby (h5.perm pp:Sep (SlA 2 (gS sb sc) [eRS r0,eRS r1]::zj a 2 k S0::zj b 2 k S1::zi kb k dc::WoA wb p0 p1 p2 kb a b::R) G5)
   obtain ⟨hc0,hc1⟩:=NowP.get0 hrow
   have hsame0:=zwl a 2 k S0 r0 hM.s0 (by omega)
   have hsame1:=zwl b 2 k S1 r1 hM.s1 (by omega)
   have h5a:Sep (zj a 2 k S0::zi kb k dc::zj b 2 k S1::SlA 2 (gS sb sc) [eRS r0,eRS r1]::WoA wb p0 p1 p2 kb a b::R) G5:=h5.perm pp
   have fin6:∀ {G6:Gh},Sep ([zj a 2 k S0]++(zi kb k dc::zj b 2 k S1::SlA 2 (gS sb sc) [eRS r0,eRS r1]::WoA wb p0 p1 p2 kb a b::R)) G6 →
    G6.c wb=some [.gp p0 0,.gp p1 0,.gp p2 0,.gp kb 0,zau a b]∧∃ cs6,G6.c sb=some cs6∧zbg true 2 (some cs6) 2=some (.d (eRS r1))∧4≤cs6.length ∧
    Sep (zj b 2 k S1::zj a 2 k S0::zi kb k dc::SlA 2 (gS sb sc) [eRS r0,eRS r1]::WoA wb p0 p1 p2 kb a b::R) G6:=fun {G6} h6=>by
    have h6:Sep (zj a 2 k S0::zi kb k dc::zj b 2 k S1::SlA 2 (gS sb sc) [eRS r0,eRS r1]::WoA wb p0 p1 p2 kb a b::R) G6:=h6
    obtain ⟨cs6,hb6,hr6⟩:=zby h6.tail.tail.tail
    obtain ⟨q1,q2⟩:=NowP.get1 hr6
    exact ⟨Sep.get (b:=wb) (cs:=[.gp p0 0,.gp p1 0,.gp p2 0,.gp kb 0,zau a b]) h6.tail.tail.tail.tail,cs6,hb6,q1,q2,h6.perm pp⟩
   have fin7:∀ {G7:Gh},Sep ([zj b 2 k S1]++(zj a 2 k S0::zi kb k dc::SlA 2 (gS sb sc) [eRS r0,eRS r1]::WoA wb p0 p1 p2 kb a b::R)) G7→Sep (LB wb p0 p1 p2 kb a b sb sc k dc S0 S1 r0 r1 R) G7:=fun {G7} h7=>by
    have h7:Sep (zj b 2 k S1::zj a 2 k S0::zi kb k dc::SlA 2 (gS sb sc) [eRS r0,eRS r1]::WoA wb p0 p1 p2 kb a b::R) G7:=h7
    exact h7.perm pp
   by_cases hid:zb8 id
   · have eo:zr6 id=0:=if_pos hid
     rw [eo,hM.d.out hid]
     simp only at hhas ⊢
     cases hd:decide (id∈l) with
     | true =>
      rw [hd] at hhas
      refine goS trivial ?_
      (refine zb1 (nn hgw (nn hbc (nn hc0 hc1))) (hhas) ?_;(repeat' (with_reducible apply Br.mk<;>intro _)))
      (refine goM (hsame0) (h5a) ?_)
      rintro _ _ G6 ⟨rfl,rfl⟩ h6
      obtain ⟨hgw6,cs6,hbc6,hc6,hl6,h6b⟩:=fin6 h6
      clear h5 h5a hgw hbc hrow hc0 hc1 h6
      refine goS trivial ?_
      (refine goX (nn hgw6 (nn hbc6 (nn hc6 hl6))) ?_;(repeat' (with_reducible apply Br.mk<;>intro _)))
      (refine goM (hsame1) (h6b) ?_)
      rintro _ _ G7 ⟨rfl,rfl⟩ h7
      have h7:=fin7 h7
      refine goS trivial ?_
      (refine goX trivial ?_;(repeat' (with_reducible apply Br.mk<;>intro _)))
      exact ⟨z - 1,_,by omega,zt rfl,j+1,dc,S0,S1,l,r0,r1,sb,sc,is,e,_,b10,b11,b13,k,G7,by omega,hM,hk0,hk,h7,rfl⟩
     | false =>
      rw [hd] at hhas
      refine goS trivial ?_
      (refine zb1 (nn hgw (nn hbc (nn hc0 hc1))) (hhas) ?_;(repeat' (with_reducible apply Br.mk<;>intro _)))
      (refine goM (hsame0) (h5a) ?_)
      rintro _ _ G6 ⟨rfl,rfl⟩ h6
      obtain ⟨hgw6,cs6,hbc6,hc6,hl6,h6b⟩:=fin6 h6
      clear h5 h5a hgw hbc hrow hc0 hc1 h6
      refine goS trivial ?_
      (refine goX (nn hgw6 (nn hbc6 (nn hc6 hl6))) ?_;(repeat' (with_reducible apply Br.mk<;>intro _)))
      (refine goM (hsame1) (h6b) ?_)
      rintro _ _ G7 ⟨rfl,rfl⟩ h7
      have h7:=fin7 h7
      refine goS trivial ?_
      (refine goX trivial ?_;(repeat' (with_reducible apply Br.mk<;>intro _)))
      exact ⟨z - 1,_,by omega,zt rfl,j+1,dc,S0,S1,l,r0,r1,sb,sc,is,e,_,b10,b11,b13,k,G7,by omega,hM,hk0,hk,h7,rfl⟩
   · have eo:zr6 id=1:=if_neg hid
     rw [eo]
     refine goS trivial ?_
     (refine goX (nn hgw (nn hbc (nn hc0 hc1))) ?_;(repeat' (with_reducible apply Br.mk<;>intro _)))
     (refine goM (hsame0) (h5a) ?_)
     rintro _ _ G6 ⟨rfl,rfl⟩ h6
     obtain ⟨hgw6,cs6,hbc6,hc6,hl6,h6b⟩:=fin6 h6
     clear h5 h5a hgw hbc hrow hc0 hc1 h6
     refine goS trivial ?_
     (refine goX (nn hgw6 (nn hbc6 (nn hc6 hl6))) ?_;(repeat' (with_reducible apply Br.mk<;>intro _)))
     (refine goM (hsame1) (h6b) ?_)
     rintro _ _ G7 ⟨rfl,rfl⟩ h7
     have h7:=fin7 h7
     refine goS trivial ?_
     (refine goX trivial ?_;(repeat' (with_reducible apply Br.mk<;>intro _)))
     exact ⟨z - 1,_,by omega,zt rfl,j+1,dc,S0,S1,l,r0,r1,sb,sc,is,e,_,b10,b11,b13,k,G7,by omega,hM,hk0,hk,h7,rfl⟩
 have hgw:G3.c wb=some [.gp p0 0,.gp p1 0,.gp p2 0,.gp kb 0,zau a b]:=Sep.get (b:=wb) (cs:=[.gp p0 0,.gp p1 0,.gp p2 0,.gp kb 0,zau a b]) h3.tail.tail.tail.tail
 have hll:l.length≤4:=hM.d.le
 by_cases k0:kind=0
 · subst k0
   by_cases hrun:ps.length≠2∨zc2 ps=false∨¬ zb8 id
   · have hq:=z1w kb a b id ps hp1 hrun
     have hr:=zyn (l,4) sb sc id ps hp1 (by simp only;omega) hrun
     (refine znq hgw (hq) (hr) ?_;(repeat' (with_reducible apply Br.mk<;>intro _)))
     exact ⟨_,zt rfl,dc,S0,S1,l,r0,r1,sb,sc,false,1,_,_,_,k,G3,hM,by omega,by omega,h3,rfl⟩
   · have h2:ps.length=2:=Classical.byContradiction fun h=>hrun (.inl h)
     have hso:zc2 ps=true:=by
      cases h:zc2 ps with
      | true=>rfl
      | false=>exact absurd (.inr (.inl h)) hrun
     have hid:zb8 id:=Classical.byContradiction fun h=>hrun (.inr (.inr h))
     obtain ⟨l0,l1,rfl⟩:∃ a b,ps=[a,b]:=by match ps,h2 with|[a,b],_=>exact ⟨a,b,rfl⟩
     have hl0:=hp2 l0 (by simp)
     have hl1:=hp2 l1 (by simp)
     have hq:=z1x kb a b k dc S0 S1 (by omega) hM.d.ok ⟨_,hM.s0.good⟩ ⟨_,hM.s1.good⟩ id l0 l1 hl0 hl1 hid hso
     have hr:=fun sb sc=>zyo sb sc (l,4) r0 r1 id l0 l1 (by simp only;omega) hM.s0.small hM.s1.small hl0 hl1 hid hso
     obtain ⟨q1,q2,q3,q4,q5⟩:=zy5 hM.d hM.s0 hM.s1 id l0 l1
     rw [q1,q2] at hq
     generalize zi1 (l,4) r0 r1 id l0 l1=RR at hq hr q4 q5
     generalize zit dc S0 S1 id l0 l1=PR at hq q3 q4 q5
     have h3a:Sep (zi kb k dc::zj a 2 k S0::zj b 2 k S1::SlA 2 (gS sb sc) [eRS r0,eRS r1]::WoA wb p0 p1 p2 kb a b::R) G3:=h3.perm pp
     (refine goX hgw ?_;(repeat' (with_reducible apply Br.mk<;>intro _)))
     (refine goM (hq) (h3a) ?_)
     rintro _ _ G4 ⟨rfl,rfl⟩ h4
     have h4:Sep (zi kb (k+1000) PR.dc::zj a 2 (k+1000) PR.s0::zj b 2 (k+1000) PR.s1::SlA 2 (gS sb sc) [eRS r0,eRS r1]::WoA wb p0 p1 p2 kb a b::R) G4:=h4
     have h4a:Sep (SlA 2 (gS sb sc) [eRS r0,eRS r1]::zi kb (k+1000) PR.dc::zj a 2 (k+1000) PR.s0::zj b 2 (k+1000) PR.s1::WoA wb p0 p1 p2 kb a b::R) G4:=h4.perm pp
     clear h3 h3a hgw h4
     refine goS trivial ?_
     (refine goX trivial ?_;(repeat' (with_reducible apply Br.mk<;>intro _)))
     (refine goM (hr sb sc) (h4a) ?_)
     rintro _ _ G5 ⟨sb',sc',rfl,rfl⟩ h5
     have h5:Sep (SlA 2 (gS sb' sc') [eRS RR.r0,eRS RR.r1]::zi kb (k+1000) PR.dc::zj a 2 (k+1000) PR.s0::zj b 2 (k+1000) PR.s1::WoA wb p0 p1 p2 kb a b::R) G5:=h5
     have h6:Sep (LB wb p0 p1 p2 kb a b sb' sc' (k+1000) PR.dc PR.s0 PR.s1 RR.r0 RR.r1 R) G5:=h5.perm pp
     have hM5:LM PR.dc PR.s0 PR.s1 l RR.r0 RR.r1:=⟨q3,q4,q5⟩
     refine goS trivial ?_
     (refine goX trivial ?_;(repeat' (with_reducible apply Br.mk<;>intro _)))
     exact ⟨_,zt rfl,PR.dc,PR.s0,PR.s1,l,RR.r0,RR.r1,sb',sc',RR.is,RR.e,_,_,_,k+1000,G5,hM5,by omega,by omega,h6,rfl⟩
 have k0':(kind=0)=False:=eq_false k0
 by_cases k1:kind=1
 · subst k1
   have hr:=ztd sb sc (l,4) r0 r1 (by simp only;omega) hM.s0.small hM.s1.small
   have hq:=z5z kb a b k dc S0 S1 (by omega) hM.d.ok ⟨_,hM.s0.good⟩ ⟨_,hM.s1.good⟩
   have q0:=Mt.set hM.d hM.s0
   have q1:=Mt.set hM.d hM.s1
   have hlen:=hM.d.len
   rw [hlen] at hq
   generalize zec (l,4) r0=t0 at hr q0
   generalize zec (l,4) r1=t1 at hr q1
   generalize zex dc S0=U0 at hq q0
   generalize zex dc S1=U1 at hq q1
   have h3a:Sep (SlA 2 (gS sb sc) [eRS r0,eRS r1]::zi kb k dc::zj a 2 k S0::zj b 2 k S1::WoA wb p0 p1 p2 kb a b::R) G3:=h3.perm pp
   clear h3 hgw
   (refine goX trivial ?_;(repeat' (with_reducible apply Br.mk<;>intro _)))
   (refine goM (hr) (h3a) ?_)
   rintro _ _ G4 ⟨sb',sc',rfl,rfl⟩ h4
   have h4:Sep (SlA 2 (gS sb' sc') [eRS t0,eRS t1]::zi kb k dc::zj a 2 k S0::zj b 2 k S1::WoA wb p0 p1 p2 kb a b::R) G4:=h4
   have hgw:G4.c wb=some [.gp p0 0,.gp p1 0,.gp p2 0,.gp kb 0,zau a b]:=Sep.get (b:=wb) (cs:=[.gp p0 0,.gp p1 0,.gp p2 0,.gp kb 0,zau a b]) h4.tail.tail.tail.tail
   have h4a:Sep (zi kb k dc::zj a 2 k S0::zj b 2 k S1::SlA 2 (gS sb' sc') [eRS t0,eRS t1]::WoA wb p0 p1 p2 kb a b::R) G4:=h4.perm pp
   clear h3a h4
   refine goS trivial ?_
   (refine goX hgw ?_;(repeat' (with_reducible apply Br.mk<;>intro _)))
   (refine goM (hq) (h4a) ?_)
   rintro _ _ G5 ⟨rfl,rfl⟩ h5
   have h5:Sep (zi kb (k+2000) (rep 4)::zj a 2 (k+2000) U0::zj b 2 (k+2000) U1::SlA 2 (gS sb' sc') [eRS t0,eRS t1]::WoA wb p0 p1 p2 kb a b::R) G5:=h5
   have h6:Sep (LB wb p0 p1 p2 kb a b sb' sc' (k+2000) (rep 4) U0 U1 t0 t1 R) G5:=h5.perm pp
   have hM5:LM (rep 4) U0 U1 [] t0 t1:=⟨DMt.start,q0,q1⟩
   refine goS trivial ?_
   (refine goX trivial ?_;(repeat' (with_reducible apply Br.mk<;>intro _)))
   exact ⟨_,zt rfl,(rep 4),U0,U1,[],t0,t1,sb',sc',false,0,_,_,_,(k+2000),G5,hM5,by omega,by omega,h6,rfl⟩
 have k1':(kind=1)=False:=eq_false k1
 by_cases k2:kind=2
 · subst k2
   have hr:=zv0 (l,4) id (by simp only;omega)
   have hq:=zkw kb k dc (by omega) hM.d.ok id
   have hE:=hM.d.recE id
   have hD:=hM.d.recd id
   rw [← hE] at hq
   clear hE
   generalize (zib (l,4) id).1=pe at hr hq
   generalize (zib (l,4) id).2=d2 at hr hD
   obtain ⟨l2,room⟩:=d2
   have hroom:room=4:=hD.room
   subst hroom
   generalize zho dc id=dc2 at hq hD
   have h3a:Sep (zi kb k dc::zj a 2 k S0::zj b 2 k S1::SlA 2 (gS sb sc) [eRS r0,eRS r1]::WoA wb p0 p1 p2 kb a b::R) G3:=h3.perm pp
   clear h3
   (refine zb1 hgw (hr) ?_;(repeat' (with_reducible apply Br.mk<;>intro _)))
   (refine goM (hq) (h3a) ?_)
   rintro _ _ G4 ⟨rfl,rfl⟩ h4
   have h4:Sep (zi kb (k+6) dc2::zj a 2 k S0::zj b 2 k S1::SlA 2 (gS sb sc) [eRS r0,eRS r1]::WoA wb p0 p1 p2 kb a b::R) G4:=h4
   have h5:Sep (LB wb p0 p1 p2 kb a b sb sc (k+6) dc2 S0 S1 r0 r1 R) G4:=by
    have h6:=Sep.sit_mono (show k≤k+6 by omega) (h4.perm pp:Sep (zj a 2 k S0::zi kb (k+6) dc2::zj b 2 k S1::SlA 2 (gS sb sc) [eRS r0,eRS r1]::WoA wb p0 p1 p2 kb a b::R) G4)
    have h7:=Sep.sit_mono (show k≤k+6 by omega) (h6.perm pp:Sep (zj b 2 k S1::zj a 2 (k+6) S0::zi kb (k+6) dc2::SlA 2 (gS sb sc) [eRS r0,eRS r1]::WoA wb p0 p1 p2 kb a b::R) G4)
    exact h7.perm pp
   have hM5:LM dc2 S0 S1 l2 r0 r1:=⟨hD,hM.s0,hM.s1⟩
   refine goS trivial ?_
   (refine goX trivial ?_;(repeat' (with_reducible apply Br.mk<;>intro _)))
   exact ⟨_,zt rfl,dc2,S0,S1,l2,r0,r1,sb,sc,is,e,_,_,_,(k+6),G4,hM5,by omega,by omega,h5,rfl⟩
 have k2':(kind=2)=False:=eq_false k2
 by_cases k3:kind=3
 · subst k3
   have hr:=z1l (l,4) id (by simp only;omega)
   have hq:=zox kb k dc (by omega) hM.d.ok id
   have hE:=hM.d.forE id
   have hD:=hM.d.for id
   rw [← hE] at hq
   clear hE
   generalize (zto (l,4) id).1=pe at hr hq
   generalize (zto (l,4) id).2=d2 at hr hD
   obtain ⟨l2,room⟩:=d2
   have hroom:room=4:=hD.room
   subst hroom
   generalize zqe dc id=dc2 at hq hD
   have h3a:Sep (zi kb k dc::zj a 2 k S0::zj b 2 k S1::SlA 2 (gS sb sc) [eRS r0,eRS r1]::WoA wb p0 p1 p2 kb a b::R) G3:=h3.perm pp
   clear h3
   (refine zb1 hgw (hr) ?_;(repeat' (with_reducible apply Br.mk<;>intro _)))
   (refine goM (hq) (h3a) ?_)
   rintro _ _ G4 ⟨rfl,rfl⟩ h4
   have h4:Sep (zi kb (k+6) dc2::zj a 2 k S0::zj b 2 k S1::SlA 2 (gS sb sc) [eRS r0,eRS r1]::WoA wb p0 p1 p2 kb a b::R) G4:=h4
   have h5:Sep (LB wb p0 p1 p2 kb a b sb sc (k+6) dc2 S0 S1 r0 r1 R) G4:=by
    have h6:=Sep.sit_mono (show k≤k+6 by omega) (h4.perm pp:Sep (zj a 2 k S0::zi kb (k+6) dc2::zj b 2 k S1::SlA 2 (gS sb sc) [eRS r0,eRS r1]::WoA wb p0 p1 p2 kb a b::R) G4)
    have h7:=Sep.sit_mono (show k≤k+6 by omega) (h6.perm pp:Sep (zj b 2 k S1::zj a 2 (k+6) S0::zi kb (k+6) dc2::SlA 2 (gS sb sc) [eRS r0,eRS r1]::WoA wb p0 p1 p2 kb a b::R) G4)
    exact h7.perm pp
   have hM5:LM dc2 S0 S1 l2 r0 r1:=⟨hD,hM.s0,hM.s1⟩
   refine goS trivial ?_
   (refine goX trivial ?_;(repeat' (with_reducible apply Br.mk<;>intro _)))
   exact ⟨_,zt rfl,dc2,S0,S1,l2,r0,r1,sb,sc,is,e,_,_,_,(k+6),G4,hM5,by omega,by omega,h5,rfl⟩
 have k3':(kind=3)=False:=eq_false k3
 by_cases k4:kind=4
 · subst k4
   cases ps with
   | nil =>
    (refine goX trivial ?_;(repeat' (with_reducible apply Br.mk<;>intro _)))
    exact ⟨_,zt rfl,dc,S0,S1,l,r0,r1,sb,sc,is,e,_,_,_,k,G3,hM,by omega,by omega,h3,rfl⟩
   | cons l0 ps =>
    have hl0:=hp2 l0 (by simp)
    have e0:((0:Int)<((ps.length+1:Nat):Int))=True:=eq_true (by omega)
    have hv0:zcn 1 (some (.list (eL l0::ps.map eL))) (.d (.int .i64 0))=some (.cptr [eL l0]):=by
     have:=zry (l0::ps)
     simp only [List.map_cons] at this ⊢
     simp [zcn,this]
     rfl
    have hr:=zmq r0 id l0 hl0 (by have:=hM.s0.small.p;omega) hM.s0.small.pl
    have hq:=zkq (sb:=a) (m:=k) (s:=S0) ⟨_,hM.s0.good⟩ (by omega) id l0 hl0
    have hE:=hM.s0.prepE id l0
    have hP:=hM.s0.prep id l0
    rw [← hE] at hq
    clear hE
    generalize (zet r0 id l0).1=pe at hr hq
    generalize (zet r0 id l0).2=rn at hr hP
    generalize prepS 2 id l0 S0=Un at hq hP
    have h3a:Sep (SlA 2 (gS sb sc) [eRS r0,eRS r1]::zj a 2 k S0::zi kb k dc::zj b 2 k S1::WoA wb p0 p1 p2 kb a b::R) G3:=h3.perm pp
    clear h3
    obtain ⟨cs0,hbc,hrow⟩:=zby h3a
    obtain ⟨hc0,hc1⟩:=NowP.get0 hrow
    (refine zb1 (nn hgw (nn hbc (nn hc0 (nn hc1 (nn hv0 e0))))) (hr) ?_;(repeat' (with_reducible apply Br.mk<;>intro _)))
    refine zam fun b0 hb0=>?_
    have h00:Sep (SlA 2 (.gs b0 0 0 0) []::SlA 2 (gS sb sc) [eRS r0,eRS r1]::zj a 2 k S0::zi kb k dc::zj b 2 k S1::WoA wb p0 p1 p2 kb a b::R) (G3.set b0 (some (zag []))):=Sep.toSl (Sep.new hb0 h3a) (Row.mk' (sz:=2) (n:=0) (cap:=0) (es:=[]) (rest:=[]) rfl rfl (by omega) (by simp [zag]))
    have hv9:=h00.tail.gv.view
    clear h3a hgw hbc hrow hc0 hc1 hb0
    refine goS trivial ?_
    (refine goX trivial ?_;(repeat' (with_reducible apply Br.mk<;>intro _)))
    refine za0 (es2:=[eRS r0,eRS r1]) (m:=2) h00.gv hv9 rfl rfl rfl (by rw [zo];decide) fun x G hv hto=>?_
    have hN9:=h00.grow hto hv
    obtain ⟨bn,cap,csn,rfl,_,_⟩:=hv.inv (by simp)
    have hN0:Sep (SlA 2 (gS bn cap) [eRS r0,eRS r1]::SlA 2 (gS sb sc) [eRS r0,eRS r1]::zj a 2 k S0::zi kb k dc::zj b 2 k S1::WoA wb p0 p1 p2 kb a b::R) G:=hN9
    clear hN9 hv hto hv9 h00
    have hl2:([]++[eRS r0,eRS r1]:List D).length=2:=rfl
    rw [hl2]
    obtain ⟨cs1,hbc,hrow⟩:=zby hN0
    obtain ⟨hc0,hc1⟩:=NowP.get0 hrow
    have zey:=zi9 hN0 hrow rn
    refine goS trivial ?_
    have hG4:Sep (SlA 2 (gS bn cap) [eRS rn,eRS r1]::SlA 2 (gS sb sc) [eRS r0,eRS r1]::zj a 2 k S0::zi kb k dc::zj b 2 k S1::WoA wb p0 p1 p2 kb a b::R) (G.set bn (some (.list (rn.1.map eVl)::.list (rn.2.map ePr)::List.drop 2 cs1))):=zey
    have hgw:upd G.c bn (some (.list (rn.1.map eVl)::.list (rn.2.map ePr)::List.drop 2 cs1)) wb=some [.gp p0 0,.gp p1 0,.gp p2 0,.gp kb 0,zau a b]:=Sep.get (b:=wb) (cs:=[.gp p0 0,.gp p1 0,.gp p2 0,.gp kb 0,zau a b]) hG4.tail.tail.tail.tail.tail
    have hG4a:Sep (zj a 2 k S0::zi kb k dc::zj b 2 k S1::SlA 2 (gS bn cap) [eRS rn,eRS r1]::WoA wb p0 p1 p2 kb a b::R) (G.set bn (some (.list (rn.1.map eVl)::.list (rn.2.map ePr)::List.drop 2 cs1))):=(hG4.swap.tail.perm pp:Sep (zj a 2 k S0::zi kb k dc::zj b 2 k S1::SlA 2 (gS bn cap) [eRS rn,eRS r1]::WoA wb p0 p1 p2 kb a b::R) _)
    (refine goX (nn hbc (nn hc0 (nn hc1 (nn hgw hv0)))) ?_;(repeat' (with_reducible apply Br.mk<;>intro _)))
    (refine goM (hq) (hG4a) ?_)
    rintro _ _ G5 ⟨rfl,rfl⟩ h5
    have h5:Sep (zj a 2 (k+200) Un::zi kb k dc::zj b 2 k S1::SlA 2 (gS bn cap) [eRS rn,eRS r1]::WoA wb p0 p1 p2 kb a b::R) G5:=h5
    have h8:Sep (LB wb p0 p1 p2 kb a b bn cap (k+200) dc Un S1 rn r1 R) G5:=by
     have h6:=Sep.desk_mono (show k≤k+200 by omega) (h5.perm pp:Sep (zi kb k dc::zj a 2 (k+200) Un::zj b 2 k S1::SlA 2 (gS bn cap) [eRS rn,eRS r1]::WoA wb p0 p1 p2 kb a b::R) G5)
     have h7:=Sep.sit_mono (show k≤k+200 by omega) (h6.perm pp:Sep (zj b 2 k S1::zj a 2 (k+200) Un::zi kb (k+200) dc::SlA 2 (gS bn cap) [eRS rn,eRS r1]::WoA wb p0 p1 p2 kb a b::R) G5)
     exact h7.perm pp
    have hM5:LM dc Un S1 l rn r1:=⟨hM.d,hP,hM.s1⟩
    refine goS trivial ?_
    (refine goX trivial ?_;(repeat' (with_reducible apply Br.mk<;>intro _)))
    exact ⟨_,zt rfl,dc,Un,S1,l,rn,r1,bn,cap,is,e,_,_,_,(k+200),G5,hM5,by omega,by omega,h8,rfl⟩
 have k4':(kind=4)=False:=eq_false k4
 by_cases k5:kind=5
 · subst k5
   cases ps with
   | nil =>
    (refine goX trivial ?_;(repeat' (with_reducible apply Br.mk<;>intro _)))
    exact ⟨_,zt rfl,dc,S0,S1,l,r0,r1,sb,sc,is,e,_,_,_,k,G3,hM,by omega,by omega,h3,rfl⟩
   | cons l0 ps =>
    have hl0:=hp2 l0 (by simp)
    have e0:((0:Int)<((ps.length+1:Nat):Int))=True:=eq_true (by omega)
    have hv0:zcn 1 (some (.list (eL l0::ps.map eL))) (.d (.int .i64 0))=some (.cptr [eL l0]):=by
     have:=zry (l0::ps)
     simp only [List.map_cons] at this ⊢
     simp [zcn,this]
     rfl
    have hr:=zmq r1 id l0 hl0 (by have:=hM.s1.small.p;omega) hM.s1.small.pl
    have hq:=zkq (sb:=b) (m:=k) (s:=S1) ⟨_,hM.s1.good⟩ (by omega) id l0 hl0
    have hE:=hM.s1.prepE id l0
    have hP:=hM.s1.prep id l0
    rw [← hE] at hq
    clear hE
    generalize (zet r1 id l0).1=pe at hr hq
    generalize (zet r1 id l0).2=rn at hr hP
    generalize prepS 2 id l0 S1=Un at hq hP
    have h3a:Sep (SlA 2 (gS sb sc) [eRS r0,eRS r1]::zj b 2 k S1::zi kb k dc::zj a 2 k S0::WoA wb p0 p1 p2 kb a b::R) G3:=h3.perm pp
    clear h3
    obtain ⟨cs0,hbc,hrow⟩:=zby h3a
    obtain ⟨hc0,hc1⟩:=NowP.get1 hrow
    (refine zb1 (nn hgw (nn hbc (nn hc0 (nn hc1 (nn hv0 e0))))) (hr) ?_;(repeat' (with_reducible apply Br.mk<;>intro _)))
    refine zam fun b0 hb0=>?_
    have h00:Sep (SlA 2 (.gs b0 0 0 0) []::SlA 2 (gS sb sc) [eRS r0,eRS r1]::zj b 2 k S1::zi kb k dc::zj a 2 k S0::WoA wb p0 p1 p2 kb a b::R) (G3.set b0 (some (zag []))):=Sep.toSl (Sep.new hb0 h3a) (Row.mk' (sz:=2) (n:=0) (cap:=0) (es:=[]) (rest:=[]) rfl rfl (by omega) (by simp [zag]))
    have hv9:=h00.tail.gv.view
    clear h3a hgw hbc hrow hc0 hc1 hb0
    refine goS trivial ?_
    (refine goX trivial ?_;(repeat' (with_reducible apply Br.mk<;>intro _)))
    refine za0 (es2:=[eRS r0,eRS r1]) (m:=2) h00.gv hv9 rfl rfl rfl (by rw [zo];decide) fun x G hv hto=>?_
    have hN9:=h00.grow hto hv
    obtain ⟨bn,cap,csn,rfl,_,_⟩:=hv.inv (by simp)
    have hN0:Sep (SlA 2 (gS bn cap) [eRS r0,eRS r1]::SlA 2 (gS sb sc) [eRS r0,eRS r1]::zj b 2 k S1::zi kb k dc::zj a 2 k S0::WoA wb p0 p1 p2 kb a b::R) G:=hN9
    clear hN9 hv hto hv9 h00
    have hl2:([]++[eRS r0,eRS r1]:List D).length=2:=rfl
    rw [hl2]
    obtain ⟨cs1,hbc,hrow⟩:=zby hN0
    obtain ⟨hc0,hc1⟩:=NowP.get1 hrow
    have zey:=zmt hN0 hrow rn
    refine goS trivial ?_
    have hG4:Sep (SlA 2 (gS bn cap) [eRS r0,eRS rn]::SlA 2 (gS sb sc) [eRS r0,eRS r1]::zj b 2 k S1::zi kb k dc::zj a 2 k S0::WoA wb p0 p1 p2 kb a b::R) (G.set bn (some (List.take 2 cs1++[.list (rn.1.map eVl),.list (rn.2.map ePr)]++List.drop 4 cs1))):=zey
    have hgw:upd G.c bn (some (List.take 2 cs1++[.list (rn.1.map eVl),.list (rn.2.map ePr)]++List.drop 4 cs1)) wb=some [.gp p0 0,.gp p1 0,.gp p2 0,.gp kb 0,zau a b]:=Sep.get (b:=wb) (cs:=[.gp p0 0,.gp p1 0,.gp p2 0,.gp kb 0,zau a b]) hG4.tail.tail.tail.tail.tail
    have hG4a:Sep (zj b 2 k S1::zi kb k dc::zj a 2 k S0::SlA 2 (gS bn cap) [eRS r0,eRS rn]::WoA wb p0 p1 p2 kb a b::R) (G.set bn (some (List.take 2 cs1++[.list (rn.1.map eVl),.list (rn.2.map ePr)]++List.drop 4 cs1))):=(hG4.swap.tail.perm pp:Sep (zj b 2 k S1::zi kb k dc::zj a 2 k S0::SlA 2 (gS bn cap) [eRS r0,eRS rn]::WoA wb p0 p1 p2 kb a b::R) _)
    (refine goX (nn hbc (nn hc0 (nn hc1 (nn hgw hv0)))) ?_;(repeat' (with_reducible apply Br.mk<;>intro _)))
    (refine goM (hq) (hG4a) ?_)
    rintro _ _ G5 ⟨rfl,rfl⟩ h5
    have h5:Sep (zj b 2 (k+200) Un::zi kb k dc::zj a 2 k S0::SlA 2 (gS bn cap) [eRS r0,eRS rn]::WoA wb p0 p1 p2 kb a b::R) G5:=h5
    have h8:Sep (LB wb p0 p1 p2 kb a b bn cap (k+200) dc S0 Un r0 rn R) G5:=by
     have h6:=Sep.desk_mono (show k≤k+200 by omega) (h5.perm pp:Sep (zi kb k dc::zj b 2 (k+200) Un::zj a 2 k S0::SlA 2 (gS bn cap) [eRS r0,eRS rn]::WoA wb p0 p1 p2 kb a b::R) G5)
     have h7:=Sep.sit_mono (show k≤k+200 by omega) (h6.perm pp:Sep (zj a 2 k S0::zj b 2 (k+200) Un::zi kb (k+200) dc::SlA 2 (gS bn cap) [eRS r0,eRS rn]::WoA wb p0 p1 p2 kb a b::R) G5)
     exact h7.perm pp
    have hM5:LM dc S0 Un l r0 rn:=⟨hM.d,hM.s0,hP⟩
    refine goS trivial ?_
    (refine goX trivial ?_;(repeat' (with_reducible apply Br.mk<;>intro _)))
    exact ⟨_,zt rfl,dc,S0,Un,l,r0,rn,bn,cap,is,e,_,_,_,(k+200),G5,hM5,by omega,by omega,h8,rfl⟩
 have k5':(kind=5)=False:=eq_false k5
 (refine goX (nn k0' (nn k1' (nn k2' (nn k3' (nn k4' k5'))))) ?_;(repeat' (with_reducible apply Br.mk<;>intro _)))
 exact ⟨_,zt rfl,dc,S0,S1,l,r0,r1,sb,sc,is,e,_,_,_,k,G3,hM,by omega,by omega,h3,rfl⟩
end Go.Proofs.Ytlejjdbmmdghmaa
