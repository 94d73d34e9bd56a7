/-
 Layer 40 (txn),the law TxnIsSerializable.
 Conditions: of each contract as it says.
-/
import Derived.Test.YtlejjdbmmdghmaaY6
set_option linter.unusedSimpArgs false
namespace Go.Proofs.Ytlejjdbmmdghmaa
open Go Go.E2 C22 C40
set_option maxHeartbeats 4000000
abbrev eMv (x:Int×Int×Int):D:=.agg [.int .i64 x.1,.int .i64 x.2.1,.int .i64 x.2.2]
theorem z1b (mv:List (Int×Int×Int)):(mv.map eMv).all (za 3)=true:=by
 rw [List.all_eq_true];intro x hx
 obtain ⟨y,_,rfl⟩:=List.mem_map.1 hx;rfl
abbrev LA (wv wc wb mo o de p0 p1 p2 kb a b:Nat) (wr:List (List Tw×List Tw)) (m:Int) (L:LS) (R:List As):List As :=
 MoA mo (L.M 0) (L.M 1)::OvA o L.ov::DeA de L.de::zi a 2 m (L.S 0)::zi b 2 m (L.S 1)::WvA wv wr::WcA wc wb::WoA wb p0 p1 p2 kb a b::R
def whB (wr:List (List Tw×List Tw)) (L:LS) (i:Nat):Nat→Bool
 | 0=>true
 | k+1=>whB wr L i k && (gB L.pr (2 * i+k) || decide (part wr i k=[]))
theorem zor {P:Program} {K:St→Prop} {ρ:Env} {L:Hp} {σ:List Hp} {G:Gh} {d:Option Nat} {f:AO} {args:List AO} {g:FuncId} {vs cs:List D} {pre R:List As} {Q:AV→List As→Prop} {h:zn K}
 (hc:zy P g (vs++cs) pre Q) (hs:Sep (pre++R) G) (hK:∀ r post G',Q r post→Sep (post++R) G'→K (put ρ d r,L,σ,G'))
 (ht:target (ev ρ f)=some (g,cs.map .d)∧zx ρ args=some vs:=by simp -dsimp (disch:=first|omega|(simp only [go_sem];omega)) only [go_sem,seval,Nat.reduceEqDiff,Nat.reduceLeDiff]<;>rfl):wC P d f args 0 ρ L σ G h:=by
 show zcw P d f args 0 ρ L σ G K
 unfold zcw
 rw [ht.1]
 have e:(args.map (ev ρ)++cs.map AV.d).map sh=(vs++cs).map AV.d:=by
  rw [List.map_append,zfk ht.2,List.map_append,List.map_map];rfl
 simp only [if_true]
 rw [e]
 exact (hc R G _ hs).mono fun r lv G' ⟨h1,post,h2,h3⟩=>by subst h1;exact hK r post G' h2 h3
theorem LA.at {wv wc wb mo o de p0 p1 p2 kb a b:Nat} {wr:List (List Tw×List Tw)} {k:Int} {L:LS} {R:List As} {G:Gh} {s:Nat} (hs:s<2) (h:Sep (LA wv wc wb mo o de p0 p1 p2 kb a b wr k L R) G) :
 Sep (OvA o L.ov::WcA wc wb::DeA de L.de::WoA wb p0 p1 p2 kb a b::zi (if s=0 then a else b) 2 k (L.S s)::MoA mo (L.M 0) (L.M 1)::WvA wv wr::zi (if s=0 then b else a) 2 k (L.S (1 - s))::R) G:=by
 rcases (by omega:s=0∨s=1) with rfl|rfl
 · have h:Sep (MoA mo (L.M 0) (L.M 1)::OvA o L.ov::DeA de L.de::zi a 2 k (L.S 0)::zi b 2 k (L.S 1)::WvA wv wr::WcA wc wb::WoA wb p0 p1 p2 kb a b::R) G:=h
   have h2:Sep (OvA o L.ov::WcA wc wb::DeA de L.de::WoA wb p0 p1 p2 kb a b::zi a 2 k (L.S 0)::MoA mo (L.M 0) (L.M 1)::WvA wv wr::zi b 2 k (L.S 1)::R) G:=h.perm pp
   exact h2
 · have h:Sep (MoA mo (L.M 0) (L.M 1)::OvA o L.ov::DeA de L.de::zi a 2 k (L.S 0)::zi b 2 k (L.S 1)::WvA wv wr::WcA wc wb::WoA wb p0 p1 p2 kb a b::R) G:=h
   have h2:Sep (OvA o L.ov::WcA wc wb::DeA de L.de::WoA wb p0 p1 p2 kb a b::zi b 2 k (L.S 1)::MoA mo (L.M 0) (L.M 1)::WvA wv wr::zi a 2 k (L.S 0)::R) G:=h.perm pp
   exact h2
theorem LA.back {wv wc wb mo o de p0 p1 p2 kb a b:Nat} {wr:List (List Tw×List Tw)} {k:Int} {L L':LS} {R:List As} {G:Gh} {s:Nat} (hs:s<2) {x:SS} {ov:List Bool} {j:Int} (hkj:k≤j)
 (e1:L'.M=L.M) (e2:L'.ov=ov) (e3:L'.de=L.de) (e4:L'.S=upS L.S s x)
 (h:Sep (OvA o ov::WcA wc wb::DeA de L.de::WoA wb p0 p1 p2 kb a b::zi (if s=0 then a else b) 2 j x::MoA mo (L.M 0) (L.M 1)::WvA wv wr::zi (if s=0 then b else a) 2 k (L.S (1 - s))::R) G) :
 Sep (LA wv wc wb mo o de p0 p1 p2 kb a b wr j L' R) G:=by
 obtain ⟨M,pr,ov',de',S⟩:=L'
 simp only at e1 e2 e3 e4
 subst e1;subst e2;subst e3;subst e4
 rcases (by omega:s=0∨s=1) with rfl|rfl
 · have h1:Sep (OvA o ov'::WcA wc wb::DeA de L.de::WoA wb p0 p1 p2 kb a b::zi a 2 j x::MoA mo (L.M 0) (L.M 1)::WvA wv wr::zi b 2 k (L.S 1)::R) G:=h
   have h2:Sep (zi b 2 k (L.S 1)::OvA o ov'::WcA wc wb::DeA de L.de::WoA wb p0 p1 p2 kb a b::zi a 2 j x::MoA mo (L.M 0) (L.M 1)::WvA wv wr::R) G:=h1.perm pp
   have h3:=Sep.sit_mono hkj h2
   have h4:Sep (MoA mo (L.M 0) (L.M 1)::OvA o ov'::DeA de L.de::zi a 2 j x::zi b 2 j (L.S 1)::WvA wv wr::WcA wc wb::WoA wb p0 p1 p2 kb a b::R) G:=h3.perm pp
   exact h4
 · have h1:Sep (OvA o ov'::WcA wc wb::DeA de L.de::WoA wb p0 p1 p2 kb a b::zi b 2 j x::MoA mo (L.M 0) (L.M 1)::WvA wv wr::zi a 2 k (L.S 0)::R) G:=h
   have h2:Sep (zi a 2 k (L.S 0)::OvA o ov'::WcA wc wb::DeA de L.de::WoA wb p0 p1 p2 kb a b::zi b 2 j x::MoA mo (L.M 0) (L.M 1)::WvA wv wr::R) G:=h1.perm pp
   have h3:=Sep.sit_mono hkj h2
   have h4:Sep (MoA mo (L.M 0) (L.M 1)::OvA o ov'::DeA de L.de::zi a 2 j (L.S 0)::zi b 2 j x::WvA wv wr::WcA wc wb::WoA wb p0 p1 p2 kb a b::R) G:=h3.perm pp
   exact h4
theorem z1c {wr:List (List Tw×List Tw)} {L:LS} {i:Nat} (h:whB wr L i 2=true):∀ t,t<2→gB L.pr (2 * i+t)=true∨part wr i t=[]:=by
 intro t ht
 simp only [whB,Bool.and_eq_true,Bool.or_eq_true,decide_eq_true_eq,Bool.true_and] at h
 rcases (by omega:t=0∨t=1) with rfl|rfl
 · exact h.1
 · exact h.2
theorem z5u (wr:List (List Tw×List Tw)) (mv:List (Int×Int×Int)) (hL:∀ p∈wr,p.1.length≤9223372036854775807∧p.2.length≤9223372036854775807) (hwl:wr.length≤9223372036854775807) (hml:mv.length≤9223372036854775807) :
 zy Try.prog f_zz7 [.list (wr.map eW2),.list (mv.map eMv)] [] (fun r post=>r=.d (.bool true)∧post=[]):=by
 refine zf fol zz7_cp fun R G σ hs=>?_
 refine goS trivial ?_
 refine goR trivial ?_
 refine zam fun wv hwv=>?_
 have h1:Sep (WvA wv wr::R) (G.set wv (some [.list (wr.map eW2)])):=Sep.new hwv hs
 generalize G.set wv (some [D.list (wr.map eW2)])=G1 at h1 ⊢
 have h1':Sep ([]++(WvA wv wr::R)) G1:=h1
 refine goS trivial ?_
 refine goR trivial ?_
 (refine goM (zre) (h1') ?_)
 rintro _ _ G2 ⟨wb,p0,p1,p2,kb,a,b,rfl,rfl⟩ h2
 have h2:Sep (WoA wb p0 p1 p2 kb a b::zm kb 100 (rep 4)::zi a 2 100 sS0::zi b 2 100 sS0::WvA wv wr::R) G2:=h2
 refine goS trivial ?_
 (refine goX trivial ?_;(repeat' (with_reducible apply Br.mk<;>intro _)))
 refine zam fun wc hwc=>?_
 have h3:=Sep.new (cs:=[.nilP]) hwc h2
 have h4:=Sep.set (cs':=[.gp wb 0]) h3
 rw [Gh.set_set] at h4
 have h4:Sep (WcA wc wb::WoA wb p0 p1 p2 kb a b::zm kb 100 (rep 4)::zi a 2 100 sS0::zi b 2 100 sS0::WvA wv wr::R) (G2.set wc (some [.gp wb 0])):=h4
 have hgw:upd G2.c wc (some [.gp wb 0]) wv=some [.list (wr.map eW2)]:=Sep.get (b:=wv) (cs:=[.list (wr.map eW2)]) h4.tail.tail.tail.tail.tail
 refine goS trivial ?_
 have early:∀ {G:Gh},Sep (WcA wc wb::WoA wb p0 p1 p2 kb a b::zm kb 100 (rep 4)::zi a 2 100 sS0::zi b 2 100 sS0::WvA wv wr::R) G→Sep ([]++R) G:=fun h=>h.tail.tail.tail.tail.tail.tail
 by_cases c1:wr.length=0
 · have e1:((wr.length:Int)=0)=True:=eq_true (by omega)
   have h5:=early h4
   (refine goX (nn hgw e1) ?_;(repeat' (with_reducible apply Br.mk<;>intro _)))
   (refine goM (zhe) (h5) ?_)
   rintro _ _ G4 ⟨rfl,rfl⟩ h6
   refine goS trivial ?_
   (refine goX trivial ?_;(repeat' (with_reducible apply Br.mk<;>intro _)))
   exact Fin.eq rfl ⟨rfl,_,⟨rfl,rfl⟩,h6⟩
 have e1:((wr.length:Int)=0)=False:=eq_false (by omega)
 by_cases c2:4<wr.length
 · have e2:(4<(wr.length:Int))=True:=eq_true (by omega)
   have h5:=early h4
   (refine goX (nn hgw (nn e1 e2)) ?_;(repeat' (with_reducible apply Br.mk<;>intro _)))
   (refine goM (zhe) (h5) ?_)
   rintro _ _ G4 ⟨rfl,rfl⟩ h6
   refine goS trivial ?_
   (refine goX trivial ?_;(repeat' (with_reducible apply Br.mk<;>intro _)))
   exact Fin.eq rfl ⟨rfl,_,⟨rfl,rfl⟩,h6⟩
 have e2:(4<(wr.length:Int))=False:=eq_false (by omega)
 by_cases c3:40<mv.length
 · have e3:(40<(mv.length:Int))=True:=eq_true (by omega)
   have h5:=early h4
   (refine goX (nn hgw (nn e1 (nn e2 e3))) ?_;(repeat' (with_reducible apply Br.mk<;>intro _)))
   (refine goM (zhe) (h5) ?_)
   rintro _ _ G4 ⟨rfl,rfl⟩ h6
   refine goS trivial ?_
   (refine goX trivial ?_;(repeat' (with_reducible apply Br.mk<;>intro _)))
   exact Fin.eq rfl ⟨rfl,_,⟨rfl,rfl⟩,h6⟩
 have e3:(40<(mv.length:Int))=False:=eq_false (by omega)
 clear early
 (refine goX (nn hgw (nn e1 (nn e2 e3))) ?_;(repeat' (with_reducible apply Br.mk<;>intro _)))
 generalize G2.set wc (some [D.gp wb 0])=G3 at h4 ⊢
 refine zam fun mo hmo=>?_
 have h5:Sep (MoA mo (LS0.M 0) (LS0.M 1)::WcA wc wb::WoA wb p0 p1 p2 kb a b::zm kb 100 (rep 4)::zi a 2 100 sS0::zi b 2 100 sS0::WvA wv wr::R) (G3.set mo (some [.int .i64 0,.str [],.int .i64 0,.str [],.int .i64 0,.str [],.int .i64 0,.str []])):=Sep.new hmo h4
 generalize G3.set mo (some [D.int .i64 0,D.str [],D.int .i64 0,D.str [],D.int .i64 0,D.str [],D.int .i64 0,D.str []])=G4 at h5 ⊢
 refine goS trivial ?_
 refine goR trivial ?_
 refine zam fun o ho=>?_
 have h6:Sep (OvA o LS0.ov::MoA mo (LS0.M 0) (LS0.M 1)::WcA wc wb::WoA wb p0 p1 p2 kb a b::zm kb 100 (rep 4)::zi a 2 100 sS0::zi b 2 100 sS0::WvA wv wr::R) (G4.set o (some (zr 8 (.bool false)))):=Sep.new ho h5
 generalize G4.set o (some (zr 8 (D.bool false)))=G5 at h6 ⊢
 refine goS trivial ?_
 refine goR trivial ?_
 refine zam fun de hde=>?_
 have h7:Sep (DeA de LS0.de::OvA o LS0.ov::MoA mo (LS0.M 0) (LS0.M 1)::WcA wc wb::WoA wb p0 p1 p2 kb a b::zm kb 100 (rep 4)::zi a 2 100 sS0::zi b 2 100 sS0::WvA wv wr::R) (G5.set de (some [.int .i64 0,.int .i64 0,.int .i64 0,.int .i64 0])):=Sep.new hde h6
 generalize G5.set de (some [D.int .i64 0,D.int .i64 0,D.int .i64 0,D.int .i64 0])=G6 at h7 ⊢
 have h7:Sep (DeA de LS0.de::OvA o LS0.ov::MoA mo (LS0.M 0) (LS0.M 1)::WcA wc wb::WoA wb p0 p1 p2 kb a b::zm kb 100 (rep 4)::zi a 2 100 (LS0.S 0)::zi b 2 100 (LS0.S 1)::WvA wv wr::R) G6:=h7
 have h8:Sep (LA wv wc wb mo o de p0 p1 p2 kb a b wr 100 LS0 (zm kb 100 (rep 4)::R)) G6:=h7.perm pp
 have hI0:=LI.start wr (by omega)
 have hpr0:(zr 8 (D.bool false))=LS0.pr.map D.bool:=rfl
 generalize LS0=L0 at h8 hI0 hpr0
 generalize hR1:zm kb 100 (rep 4)::R=R1 at h8
 refine goS trivial ?_
 refine goR trivial ?_
 rw [hpr0]
 refine W.loop (fun z st=>∃ (j:Nat) (L:LS) (b14:Blk) (k:Int) (G:Gh),z+j=mv.length∧LI wr L∧k≤100+1000 * j∧Sep (LA wv wc wb mo o de p0 p1 p2 kb a b wr k L R1) G ∧
  st=(E [(2,.d (.gp wv 0)),(5,.d (.gp wc 0)),(7,.d (.gp mo 0)),(8,.ptr 0 8 1 0),(9,.d (.gp o 0)),(10,.d (.gp de 0)),(11,.d (.clo f_zz5 [.gp o 0,.gp wc 0,.gp de 0])),
   (12,.d (.clo f_zz6 [.gp de 0,.gp wv 0,.gp mo 0])),(47,.d (.list (mv.map eMv))),(48,.d (.int .i64 (mv.length:Nat))),(49,.d (.int .i64 (j:Nat)))],HB [(8,⟨1,some (L.pr.map D.bool)⟩),(14,b14)],σ,G))
  ⟨_,_,zt (zdr [(8,⟨1,some (L0.pr.map D.bool)⟩)] [14] rfl).symm,0,L0,_,100,G6,rfl,hI0,by omega,h8,rfl⟩ ?_
 rintro z st ⟨j,L,b14,k,G7,hz,hI,hk,h9,rfl⟩
 by_cases hlt:j<mv.length
 case neg =>
  have hjl:j=mv.length:=by omega
  have hxj:((j:Int)<(mv.length:Int))=False:=eq_false (by omega)
  have hgv:G7.c wv=some [.list (wr.map eW2)]:=Sep.get (b:=wv) (cs:=[.list (wr.map eW2)]) h9.tail.tail.tail.tail.tail
  (refine goX (nn hxj hgv) ?_;(repeat' (with_reducible apply Br.mk<;>intro _)))
  refine W.loop (fun z st=>∃ (i:Nat) (L:LS) (b8 b14:Blk) (k:Int) (G:Gh),z+i=wr.length∧LI wr L∧k≤50000+1000 * i∧(∀ i' s,i'<i→s<2→gB L.ov (2 * i'+s)=true)∧Sep (LA wv wc wb mo o de p0 p1 p2 kb a b wr k L R1) G ∧
   st=(E [(5,.d (.gp wc 0)),(7,.d (.gp mo 0)),(9,.d (.gp o 0)),(10,.d (.gp de 0)),(11,.d (.clo f_zz5 [.gp o 0,.gp wc 0,.gp de 0])),
    (214,.d (.int .i64 (wr.length:Nat))),(215,.d (.int .i64 (i:Nat)))],HB [(8,b8),(14,b14)],σ,G))
   ⟨wr.length,_,zt rfl,0,L,⟨1,some (L.pr.map D.bool)⟩,b14,k,G7,by omega,hI,by omega,fun i1 s h1=>by omega,h9,rfl⟩ ?_
  rintro z2 st ⟨i,L,b8,b14,k,G8,hz2,hI,hk,hov0,h10,rfl⟩
  by_cases hil:i<wr.length
  · have hil':(i:Int)<(wr.length:Int):=by omega
    (refine goX hil' ?_;(repeat' (with_reducible apply Br.mk<;>intro _)))
    refine W.loop (fun z st=>∃ (t:Nat) (L:LS) (k:Int) (G:Gh),z+t=2∧LI wr L∧k≤50000+1000 * i+400 * t∧(∀ i' s,i'<i→s<2→gB L.ov (2 * i'+s)=true)∧(∀ s,s<t→gB L.ov (2 * i+s)=true)∧Sep (LA wv wc wb mo o de p0 p1 p2 kb a b wr k L R1) G ∧
     st=(E [(5,.d (.gp wc 0)),(7,.d (.gp mo 0)),(9,.d (.gp o 0)),(10,.d (.gp de 0)),(11,.d (.clo f_zz5 [.gp o 0,.gp wc 0,.gp de 0])),
      (21,.d (.int .i64 (i:Nat))),(214,.d (.int .i64 (wr.length:Nat))),(215,.d (.int .i64 (i:Nat))),(218,.d (.int .i64 (t:Nat)))],HB [(8,b8),(14,b14)],σ,G))
     ⟨2,_,zt rfl,0,L,k,G8,rfl,hI,by omega,hov0,fun s h=>by omega,h10,rfl⟩ ?_
    rintro z3 st ⟨t,L,k,G9,hz3,hI,hk,hov0,hov1,h11,rfl⟩
    by_cases ht:t<2
    · have ht':(t:Int)<2:=by omega
      have hi4:(i:Int)<4:=by omega
      have hgde:G9.c de=some (L.de.map eI):=Sep.get (b:=de) (cs:=L.de.map eI) h11.tail.tail
      have hgo:G9.c o=some (L.ov.map D.bool):=Sep.get (b:=o) (cs:=L.ov.map D.bool) h11.tail
      have hovl:=hI.ovl
      have hdel:=hI.del
      have hded:(List.drop (i * 1) (L.de.map eI)).head?=some (.int .i64 (gD L.de i)):=by
       rw [List.head?_drop,Nat.mul_one,List.getElem?_map]
       unfold gD
       rw [List.getD_eq_getElem?_getD,List.getElem?_eq_getElem (by omega)];rfl
      have hovd:(List.drop (i * 2+t * 1) (L.ov.map D.bool)).head?=some (.bool (gB L.ov (2 * i+t))):=by
       rw [List.head?_drop,List.getElem?_map,show i * 2+t * 1=2 * i+t by omega]
       unfold gB
       rw [List.getD_eq_getElem?_getD,List.getElem?_eq_getElem (by omega)];rfl
      have hgb:∀ (L1:LS) j,L1.ov.length=8→gB (L1.finish i t).ov j=if 2 * i+t=j then true else gB L1.ov j:=fun L1 j h8=>zir true (by omega)
      by_cases d0:gD L.de i=0
      · rw [d0] at hded
        have h3d:(i * 1≤3)=True:=eq_true (by omega)
        have hlmd:(L.de.map eI).length=4:=by rw [List.length_map,hdel]
        have hstd:List.take (i * 1) (L.de.map eI)++[.int .i64 2]++List.drop (i * 1+1) (L.de.map eI)=(L.de.set i 2).map eI:=by
         rw [Nat.mul_one,List.set_eq_take_append_cons_drop,if_pos (by omega),List.map_append,List.map_cons,List.map_take,List.map_drop]
         simp
        have hI1:=hI.refuse (by omega) hil d0
        have hd1:gD (L.refuse i).de i≠0:=by
         show gD (L.de.set i 2) i≠0
         rw [zhi 2 (by omega),if_pos rfl];decide
        have hr9:Sep (DeA de L.de::MoA mo (L.M 0) (L.M 1)::OvA o L.ov::zi a 2 k (L.S 0)::zi b 2 k (L.S 1)::WvA wv wr::WcA wc wb::WoA wb p0 p1 p2 kb a b::R1) G9:=h11.perm pp
        have hr10:=Sep.set (cs':=(L.de.set i 2).map eI) hr9
        have hr10:Sep (DeA de (L.refuse i).de::MoA mo ((L.refuse i).M 0) ((L.refuse i).M 1)::OvA o (L.refuse i).ov::zi a 2 k ((L.refuse i).S 0)::zi b 2 k ((L.refuse i).S 1)::WvA wv wr::WcA wc wb::WoA wb p0 p1 p2 kb a b::R1) (G9.set de (some ((L.de.set i 2).map eI))):=hr10
        have he9:Sep (LA wv wc wb mo o de p0 p1 p2 kb a b wr k (L.refuse i) R1) (G9.set de (some ((L.de.set i 2).map eI))):=hr10.perm pp
        have hgo2:upd G9.c de (some ((L.de.set i 2).map eI)) o=some (L.ov.map D.bool):=Sep.get (b:=o) (cs:=L.ov.map D.bool) he9.tail
        cases hb:gB L.ov (2 * i+t) with
        | true=>exact absurd d0 (hI.ovd i t hil ht hb)
        | false =>
         rw [hb] at hovd
         have hfin:=zal o wc de wb p0 p1 p2 kb a b (L.refuse i).ov (L.refuse i).de hI1.ovl hI1.del i t (by omega) ht k ((L.refuse i).S t) (hI1.gs ht) (by omega)
         have hat:=LA.at ht he9
         have hI2:=hI1.finish (by omega) hil ht hd1
         have hgb2:=fun j=>hgb (L.refuse i) j hI1.ovl
         have hro:(L.refuse i).ov=L.ov:=rfl
         (refine goX (nn ht' (nn hgde (nn hded (nn h3d (nn hlmd (nn hstd (nn hgo2 (nn hovd hi4)))))))) ?_;(repeat' (with_reducible apply Br.mk<;>intro _)))
         refine zor (vs:=[.int .i64 i,.int .i64 t]) (cs:=[.gp o 0,.gp wc 0,.gp de 0]) hfin hat ?_
         rintro _ _ G10 ⟨rfl,rfl⟩ h12
         have h13:Sep (LA wv wc wb mo o de p0 p1 p2 kb a b wr (k+400) ((L.refuse i).finish i t) R1) G10:=LA.back (L:=L.refuse i) ht (by omega) rfl rfl rfl rfl h12
         rw [hro] at hgb2
         generalize (L.refuse i).finish i t=L2 at h13 hI2 hgb2
         refine goS trivial ?_
         (refine goX trivial ?_;(repeat' (with_reducible apply Br.mk<;>intro _)))
         exact ⟨z3 - 1,_,by omega,zt rfl,t+1,L2,k+400,G10,by omega,hI2,by omega,fun i' s h1 h2=>by rw [hgb2];split<;>first|rfl|exact hov0 i' s h1 h2,fun s hs=>by
          rw [hgb2];by_cases e:2 * i+t=2 * i+s
          · rw [if_pos e]
          · rw [if_neg e];exact hov1 s (by omega),h13,rfl⟩
      · have d0':(gD L.de i=0)=False:=eq_false d0
        cases hb:gB L.ov (2 * i+t) with
        | true =>
         rw [hb] at hovd
         (refine goX (nn ht' (nn hgde (nn hded (nn d0' (nn hgo (nn hovd hi4)))))) ?_;(repeat' (with_reducible apply Br.mk<;>intro _)))
         exact ⟨z3 - 1,_,by omega,zt rfl,t+1,L,k,G9,by omega,hI,by omega,hov0,fun s hs=>by
          by_cases e:s=t
          · rw [e];exact hb
          · exact hov1 s (by omega),h11,rfl⟩
        | false =>
         rw [hb] at hovd
         have hfin:=zal o wc de wb p0 p1 p2 kb a b L.ov L.de hI.ovl hI.del i t (by omega) ht k (L.S t) (hI.gs ht) (by omega)
         have hat:=LA.at ht h11
         have hI2:=hI.finish (by omega) hil ht d0
         have hgb2:=fun j=>hgb L j hI.ovl
         (refine goX (nn ht' (nn hgde (nn hded (nn d0' (nn hgo (nn hovd hi4)))))) ?_;(repeat' (with_reducible apply Br.mk<;>intro _)))
         refine zor (vs:=[.int .i64 i,.int .i64 t]) (cs:=[.gp o 0,.gp wc 0,.gp de 0]) hfin hat ?_
         rintro _ _ G10 ⟨rfl,rfl⟩ h12
         have h13:Sep (LA wv wc wb mo o de p0 p1 p2 kb a b wr (k+400) (L.finish i t) R1) G10:=LA.back (L:=L) ht (by omega) rfl rfl rfl rfl h12
         generalize L.finish i t=L2 at h13 hI2 hgb2
         refine goS trivial ?_
         (refine goX trivial ?_;(repeat' (with_reducible apply Br.mk<;>intro _)))
         exact ⟨z3 - 1,_,by omega,zt rfl,t+1,L2,k+400,G10,by omega,hI2,by omega,fun i' s h1 h2=>by rw [hgb2];split<;>first|rfl|exact hov0 i' s h1 h2,fun s hs=>by
          rw [hgb2];by_cases e:2 * i+t=2 * i+s
          · rw [if_pos e]
          · rw [if_neg e];exact hov1 s (by omega),h13,rfl⟩
    · have ht2:t=2:=by omega
      have hxt:((t:Int)<2)=False:=eq_false (by omega)
      (refine goX hxt ?_;(repeat' (with_reducible apply Br.mk<;>intro _)))
      exact ⟨z2 - 1,_,by omega,zt rfl,i+1,L,b8,b14,k,G9,by omega,hI,by omega,fun i' s h1 h2=>by
       by_cases e:i'=i
       · rw [e];exact hov1 s (by omega)
       · exact hov0 i' s (by omega) h2,h11,rfl⟩
  · have hie:i=wr.length:=by omega
    have hxi:((i:Int)<(wr.length:Int))=False:=eq_false (by omega)
    obtain ⟨V0,v0⟩:=hI.inv 0 (by omega)
    obtain ⟨V1,v1⟩:=hI.inv 1 (by omega)
    have q0:=v0.done (fun i' h=>hov0 i' 0 (by omega) (by omega))
    have q1:=v1.done (fun i' h=>hov0 i' 1 (by omega) (by omega))
    have hst:=zx7 wb p0 p1 p2 kb a b k (L.S 0).1 (L.S 1).1 (L.S 0).2 (L.S 1).2 V0 V1 (by omega) v0.good v1.good
    have he:st8 V0 V1 4=st8 (L.M 0) (L.M 1) 4:=by
     unfold st8
     rw [q0 0 (by omega),q0 1 (by omega),q1 0 (by omega),q1 1 (by omega)]
    rw [he] at hst
    unfold st8 at hst
    have hgwc:G8.c wc=some [.gp wb 0]:=Sep.get (b:=wc) (cs:=[.gp wb 0]) h10.tail.tail.tail.tail.tail.tail
    have h11:Sep (WoA wb p0 p1 p2 kb a b::zi a 2 k (L.S 0)::zi b 2 k (L.S 1)::MoA mo (L.M 0) (L.M 1)::OvA o L.ov::DeA de L.de::WvA wv wr::WcA wc wb::R1) G8:=h10.perm pp
    (refine goX (nn hxi hgwc) ?_;(repeat' (with_reducible apply Br.mk<;>intro _)))
    (refine goM (hst) (h11) ?_)
    rintro _ _ G9 ⟨rfl,rfl⟩ h12
    have h12:Sep (WoA wb p0 p1 p2 kb a b::zi a 2 k (L.S 0)::zi b 2 k (L.S 1)::MoA mo (L.M 0) (L.M 1)::OvA o L.ov::DeA de L.de::WvA wv wr::WcA wc wb::R1) G9:=h12
    have h12':Sep ([]++(WoA wb p0 p1 p2 kb a b::zi a 2 k (L.S 0)::zi b 2 k (L.S 1)::MoA mo (L.M 0) (L.M 1)::OvA o L.ov::DeA de L.de::WvA wv wr::WcA wc wb::R1)) G9:=h12
    refine goS trivial ?_
    (refine goX trivial ?_;(repeat' (with_reducible apply Br.mk<;>intro _)))
    (refine goM (zhe) (h12') ?_)
    rintro _ _ G10 ⟨rfl,rfl⟩ h13
    have h13:Sep (WoA wb p0 p1 p2 kb a b::zi a 2 k (L.S 0)::zi b 2 k (L.S 1)::MoA mo (L.M 0) (L.M 1)::OvA o L.ov::DeA de L.de::WvA wv wr::WcA wc wb::R1) G10:=h13
    have hgm:G10.c mo=some (st8 (L.M 0) (L.M 1) 4):=Sep.get (b:=mo) (cs:=st8 (L.M 0) (L.M 1) 4) h13.tail.tail.tail
    have h14:Sep R1 G10:=h13.tail.tail.tail.tail.tail.tail.tail.tail
    rw [← hR1] at h14
    unfold st8 at hgm
    refine goS trivial ?_
    (refine goX hgm ?_;(repeat' (with_reducible apply Br.mk<;>intro _)))
    exact Fin.eq rfl ⟨rfl,_,⟨rfl,rfl⟩,h14.tail⟩
 have hlt':(j:Int)<(mv.length:Int):=by omega
 have hallm:=z1b mv
 generalize hxe:mv[j]=x
 obtain ⟨kind,w0,t0⟩:=x
 have hgv:G7.c wv=some [.list (wr.map eW2)]:=Sep.get (b:=wv) (cs:=[.list (wr.map eW2)]) h9.tail.tail.tail.tail.tail
 obtain ⟨i,hi,hiw⟩:∃ i:Nat,i<wr.length∧IntKind.i64.wrap ((IntKind.u64.wrap w0).tmod (wr.length:Int))=(i:Int):=by
  have e:IntKind.u64.wrap w0=w0 % 18446744073709551616:=rfl
  have h0:0≤IntKind.u64.wrap w0:=by rw [e];omega
  refine ⟨((IntKind.u64.wrap w0).tmod (wr.length:Int)).toNat,?_,?_⟩
  · rw [Int.tmod_eq_emod_of_nonneg h0]
    have:=Int.emod_lt_of_pos (IntKind.u64.wrap w0) (b:=(wr.length:Int)) (by omega)
    have:=Int.emod_nonneg (IntKind.u64.wrap w0) (b:=(wr.length:Int)) (by omega)
    omega
  · rw [Int.tmod_eq_emod_of_nonneg h0]
    have h1:=Int.emod_lt_of_pos (IntKind.u64.wrap w0) (b:=(wr.length:Int)) (by omega)
    have h2:=Int.emod_nonneg (IntKind.u64.wrap w0) (b:=(wr.length:Int)) (by omega)
    rw [wrap_i64 (by omega) (by omega)];omega
 have hi2:zc1 2 (some (.list (wr.map eW2))) (.d (.int .i64 i))=some (.cptr [eL (part wr i 0),eL (part wr i 1)]):=by
  rw [zla _ _ _ _ _ (by omega) (by omega),if_pos (zvw wr)]
  simp only [Int.toNat_natCast,part,List.getD_eq_getElem?_getD,List.getElem?_eq_getElem hi]
  rfl
 obtain ⟨s,hs2,hsw⟩:∃ s:Nat,s<2∧IntKind.i64.wrap ((IntKind.u64.wrap t0).tmod 2)=(s:Int):=by
  have e:IntKind.u64.wrap t0=t0 % 18446744073709551616:=rfl
  have h0:0≤IntKind.u64.wrap t0:=by rw [e];omega
  refine ⟨((IntKind.u64.wrap t0).tmod 2).toNat,?_,?_⟩
  · rw [Int.tmod_eq_emod_of_nonneg h0];omega
  · rw [Int.tmod_eq_emod_of_nonneg h0,wrap_i64 (by omega) (by omega)];omega
 have hsp:∀ t,t<2→(List.drop (t * 1) [eL (part wr i 0),eL (part wr i 1)]).head?=some (eL (part wr i t)):=fun t ht=>by
  rcases (by omega:t=0∨t=1) with rfl|rfl<;>rfl
 have hsp1:=hsp s hs2
 have hst2:(s:Int)<2:=by omega
 have hi4:(i:Int)<4:=by omega
 have hprl:=hI.prl
 have hpd:∀ t,t<2→(List.drop (i * 2+t * 1) (L.pr.map D.bool)).head?=some (.bool (gB L.pr (2 * i+t))):=fun t ht=>by
  rw [List.head?_drop,List.getElem?_map,show i * 2+t * 1=2 * i+t by omega]
  unfold gB
  rw [List.getD_eq_getElem?_getD,List.getElem?_eq_getElem (by omega)];rfl
 (refine goX (nn hlt' (nn hallm (nn hxe (nn hgv (nn hiw (nn hi2 (nn hsw (nn hsp1 hst2)))))))) ?_;(repeat' (with_reducible apply Br.mk<;>intro _)))
 refine W.loop (fun z st=>∃ (t:Nat) (wh:Bool),z+t=2∧wh=whB wr L i t ∧
  st=(E [(2,.d (.gp wv 0)),(5,.d (.gp wc 0)),(7,.d (.gp mo 0)),(8,.ptr 0 8 1 0),(9,.d (.gp o 0)),(10,.d (.gp de 0)),(11,.d (.clo f_zz5 [.gp o 0,.gp wc 0,.gp de 0])),
   (12,.d (.clo f_zz6 [.gp de 0,.gp wv 0,.gp mo 0])),(14,.ptr 0 14 (b14.g+1) 0),(15,.d (.int .i64 i)),(16,.d (.int .i64 s)),(17,.d (eL (part wr i s))),(18,.d (.bool wh)),
   (47,.d (.list (mv.map eMv))),(48,.d (.int .i64 (mv.length:Nat))),(49,.d (.int .i64 (j:Nat))),(72,.d (.int .i64 (t:Nat)))],HB [(8,⟨1,some (L.pr.map D.bool)⟩),(14,⟨b14.g+1,some [.int .i64 kind,.int .i64 w0,.int .i64 t0]⟩)],σ,G7))
  ⟨2,_,zt rfl,0,true,rfl,rfl,rfl⟩ ?_
 rintro z1 st ⟨t,wh,hzt,hwh,rfl⟩
 by_cases ht2:t<2
 · have ht2':(t:Int)<2:=by omega
   have hspt:=hsp t ht2
   have hpdt:=hpd t ht2
   have hw1:whB wr L i (t+1)=(whB wr L i t && (gB L.pr (2 * i+t) || decide (part wr i t=[]))):=rfl
   rw [← hwh] at hw1
   cases wh with
   | false =>
    (refine goX (nn ht2' (nn hgv (nn hi2 (nn hspt hpdt)))) ?_;(repeat' (with_reducible apply Br.mk<;>intro _)))
    exact ⟨z1 - 1,_,by omega,zt rfl,t+1,_,by omega,hw1.symm,rfl⟩
   | true =>
    cases hB:gB L.pr (2 * i+t) with
    | true =>
     rw [hB] at hw1 hpdt
     (refine goX (nn ht2' (nn hgv (nn hi2 (nn hspt (nn hpdt hi4))))) ?_;(repeat' (with_reducible apply Br.mk<;>intro _)))
     exact ⟨z1 - 1,_,by omega,zt rfl,t+1,_,by omega,hw1.symm,rfl⟩
    | false =>
     rw [hB] at hw1 hpdt
     by_cases hl:part wr i t=[]
     · have e5:(((part wr i t).length:Int)=0)=True:=eq_true (by rw [hl];rfl)
       rw [decide_eq_true hl] at hw1
       (refine goX (nn ht2' (nn hgv (nn hi2 (nn hspt (nn hpdt (nn hi4 e5)))))) ?_;(repeat' (with_reducible apply Br.mk<;>intro _)))
       exact ⟨z1 - 1,_,by omega,zt rfl,t+1,_,by omega,hw1.symm,rfl⟩
     · have e5:(((part wr i t).length:Int)=0)=False:=eq_false (by have:=List.length_pos_iff.2 hl;omega)
       rw [decide_eq_false hl] at hw1
       (refine goX (nn ht2' (nn hgv (nn hi2 (nn hspt (nn hpdt (nn hi4 e5)))))) ?_;(repeat' (with_reducible apply Br.mk<;>intro _)))
       exact ⟨z1 - 1,_,by omega,zt rfl,t+1,_,by omega,hw1.symm,rfl⟩
 have ht3:t=2:=by omega
 subst ht3
 have hgde:G7.c de=some (L.de.map eI):=Sep.get (b:=de) (cs:=L.de.map eI) h9.tail.tail
 have hgo:G7.c o=some (L.ov.map D.bool):=Sep.get (b:=o) (cs:=L.ov.map D.bool) h9.tail
 have hgwc:G7.c wc=some [.gp wb 0]:=Sep.get (b:=wc) (cs:=[.gp wb 0]) h9.tail.tail.tail.tail.tail.tail
 have hgwb:G7.c wb=some [.gp p0 0,.gp p1 0,.gp p2 0,.gp kb 0,.list [.gp a 0,.gp b 0]]:=Sep.get (b:=wb) (cs:=[.gp p0 0,.gp p1 0,.gp p2 0,.gp kb 0,.list [.gp a 0,.gp b 0]]) h9.tail.tail.tail.tail.tail.tail.tail
 have hovl:=hI.ovl
 have hdel:=hI.del
 have hded:(List.drop (i * 1) (L.de.map eI)).head?=some (.int .i64 (gD L.de i)):=by
  rw [List.head?_drop,Nat.mul_one,List.getElem?_map]
  unfold gD
  rw [List.getD_eq_getElem?_getD,List.getElem?_eq_getElem (by omega)];rfl
 have hovd:(List.drop (i * 2+s * 1) (L.ov.map D.bool)).head?=some (.bool (gB L.ov (2 * i+s))):=by
  rw [List.head?_drop,List.getElem?_map,show i * 2+s * 1=2 * i+s by omega]
  unfold gB
  rw [List.getD_eq_getElem?_getD,List.getElem?_eq_getElem (by omega)];rfl
 have hpds:=hpd s hs2
 have hpl:∀ t,t<2→(part wr i t).length≤9223372036854775807:=fun t ht=>by
  have:=hL _ (List.getElem_mem hi)
  unfold part
  rw [List.getD_eq_getElem?_getD,List.getElem?_eq_getElem hi]
  split
  · exact this.1
  · exact this.2
 have hwri:wr[i]=(part wr i 0,part wr i 1):=by
  simp only [part,List.getD_eq_getElem?_getD,List.getElem?_eq_getElem hi]
  rfl
 have hvi:zc1 1 (some (.list [.gp a 0,.gp b 0])) (.d (.int .i64 s))=some (.cptr [.gp (if s=0 then a else b) 0]):=by
  rcases (by omega:s=0∨s=1) with rfl|rfl<;>rfl
 have i1:(i:Int)+1=((i+1:Nat):Int):=by omega
 have hstp:∀ v:Bool,List.take (i * 2+s * 1) (L.pr.map D.bool)++[D.bool v]++List.drop (i * 2+s * 1+1) (L.pr.map D.bool)=(L.pr.set (2 * i+s) v).map D.bool:=fun v=>by
  rw [show i * 2+s * 1=2 * i+s by omega,List.set_eq_take_append_cons_drop,if_pos (by omega),List.map_append,List.map_cons,List.map_take,List.map_drop]
  simp
 have h7p:(i * 2+s * 1+1≤L.pr.length)=True:=eq_true (by omega)
 have hlmp:(L.pr.map D.bool).length=8:=by rw [List.length_map,hprl]
 have h3d:(i * 1≤3)=True:=eq_true (by omega)
 have hlmd:(L.de.map eI).length=4:=by rw [List.length_map,hdel]
 have hstd:List.take (i * 1) (L.de.map eI)++[.int .i64 2]++List.drop (i * 1+1) (L.de.map eI)=(L.de.set i 2).map eI:=by
  rw [Nat.mul_one,List.set_eq_take_append_cons_drop,if_pos (by omega),List.map_append,List.map_cons,List.map_take,List.map_drop]
  simp
 have hsp0:=hsp 0 (by omega)
 have hsp1':=hsp 1 (by omega)
 cases wh with
 | false =>
  by_cases a0:kind=0
  · subst a0
    cases hB:gB L.pr (2 * i+s) with
    | true =>
     rw [hB] at hpds
     (refine goX (nn hgv (nn hi2 (nn hgde (nn hgo (nn hi4 (nn hst2 hpds)))))) ?_;(repeat' (with_reducible apply Br.mk<;>intro _)))
     exact ⟨z - 1,_,by omega,zt rfl,j+1,L,_,k,G7,by omega,hI,by omega,h9,rfl⟩
    | false =>
     rw [hB] at hpds
     by_cases d0:gD L.de i=0
     case neg =>
      have d0':(gD L.de i=0)=False:=eq_false d0
      (refine goX (nn hgv (nn hi2 (nn hgde (nn hgo (nn hi4 (nn hst2 (nn hpds (nn hded d0')))))))) ?_;(repeat' (with_reducible apply Br.mk<;>intro _)))
      exact ⟨z - 1,_,by omega,zt rfl,j+1,L,_,k,G7,by omega,hI,by omega,h9,rfl⟩
     rw [d0] at hded
     by_cases hl:part wr i s=[]
     · have e6:(0<((part wr i s).length:Int))=False:=eq_false (by rw [hl];simp)
       (refine goX (nn hgv (nn hi2 (nn hgde (nn hgo (nn hi4 (nn hst2 (nn hpds (nn hded e6)))))))) ?_;(repeat' (with_reducible apply Br.mk<;>intro _)))
       exact ⟨z - 1,_,by omega,zt rfl,j+1,L,_,k,G7,by omega,hI,by omega,h9,rfl⟩
     · have e6:(0<((part wr i s).length:Int))=True:=eq_true (by have:=List.length_pos_iff.2 hl;omega)
       have hprep:=zin (sb:=if s=0 then a else b) (m:=k) (hI.gs hs2) (by omega) ((i+1:Nat):Int) (part wr i s) (hpl s hs2)
       have hat:=LA.at hs2 h9
       have hat2:Sep (zi (if s=0 then a else b) 2 k (L.S s)::OvA o L.ov::WcA wc wb::DeA de L.de::WoA wb p0 p1 p2 kb a b::MoA mo (L.M 0) (L.M 1)::WvA wv wr::zi (if s=0 then b else a) 2 k (L.S (1 - s))::R1) G7:=hat.perm pp
       have hI2:=hI.prepare (by omega) hi hs2 d0 hB
       have hLp:(L.prepare wr i s).pr=L.pr.set (2 * i+s) (decide (zat 2 (L.S s).1 (L.S s).2 ((i+1:Nat):Int) (part wr i s)=0)):=rfl
       generalize hpe:zat 2 (L.S s).1 (L.S s).2 ((i+1:Nat):Int) (part wr i s)=pe at hprep hLp
       (refine goX (nn hgv (nn hi2 (nn hgde (nn hgo (nn hi4 (nn hst2 (nn hpds (nn hded (nn e6 (nn hgwc (nn hgwb (nn hvi i1)))))))))))) ?_;(repeat' (with_reducible apply Br.mk<;>intro _)))
       (refine goM (hprep) (hat2) ?_)
       rintro _ _ G8 ⟨rfl,rfl⟩ h10
       have h10:Sep (zi (if s=0 then a else b) 2 (k+200) (prepS 2 ((i+1:Nat):Int) (part wr i s) (L.S s))::OvA o L.ov::WcA wc wb::DeA de L.de::WoA wb p0 p1 p2 kb a b::MoA mo (L.M 0) (L.M 1)::WvA wv wr::zi (if s=0 then b else a) 2 k (L.S (1 - s))::R1) G8:=h10
       have h11:Sep (OvA o L.ov::WcA wc wb::DeA de L.de::WoA wb p0 p1 p2 kb a b::zi (if s=0 then a else b) 2 (k+200) (prepS 2 ((i+1:Nat):Int) (part wr i s) (L.S s))::MoA mo (L.M 0) (L.M 1)::WvA wv wr::zi (if s=0 then b else a) 2 k (L.S (1 - s))::R1) G8:=h10.perm pp
       have h12:Sep (LA wv wc wb mo o de p0 p1 p2 kb a b wr (k+200) (L.prepare wr i s) R1) G8:=LA.back (L:=L) hs2 (by omega) rfl rfl rfl rfl h11
       generalize L.prepare wr i s=L2 at h12 hI2 hLp
       by_cases hz:pe=0
       · subst hz
         have hst:=hstp true
         rw [decide_eq_true rfl] at hLp
         rw [← hLp] at hst
         refine goS trivial ?_
         (refine goX (nn h7p (nn hlmp hst)) ?_;(repeat' (with_reducible apply Br.mk<;>intro _)))
         exact ⟨z - 1,_,by omega,zt rfl,j+1,L2,_,k+200,G8,by omega,hI2,by omega,h12,rfl⟩
       · have hz':(pe=0)=False:=eq_false hz
         have hst:=hstp false
         rw [decide_eq_false hz] at hLp
         rw [← hLp] at hst
         refine goS trivial ?_
         (refine goX (nn hz' (nn h7p (nn hlmp hst))) ?_;(repeat' (with_reducible apply Br.mk<;>intro _)))
         exact ⟨z - 1,_,by omega,zt rfl,j+1,L2,_,k+200,G8,by omega,hI2,by omega,h12,rfl⟩
  have a0':(kind=0)=False:=eq_false a0
  by_cases a1:kind=1
  · subst a1
    by_cases d0:gD L.de i=0
    · rw [d0] at hded
      (refine goX (nn hgv (nn hi2 (nn hgde (nn hgo (nn hi4 (nn hst2 hded)))))) ?_;(repeat' (with_reducible apply Br.mk<;>intro _)))
      exact ⟨z - 1,_,by omega,zt rfl,j+1,L,_,k,G7,by omega,hI,by omega,h9,rfl⟩
    have d0':(gD L.de i=0)=False:=eq_false d0
    cases hov:gB L.ov (2 * i+s) with
    | true =>
     rw [hov] at hovd
     (refine goX (nn hgv (nn hi2 (nn hgde (nn hgo (nn hi4 (nn hst2 (nn hded (nn d0' hovd)))))))) ?_;(repeat' (with_reducible apply Br.mk<;>intro _)))
     exact ⟨z - 1,_,by omega,zt rfl,j+1,L,_,k,G7,by omega,hI,by omega,h9,rfl⟩
    | false =>
     rw [hov] at hovd
     (refine goX (nn hgv (nn hi2 (nn hgde (nn hgo (nn hi4 (nn hst2 (nn hded (nn d0' hovd)))))))) ?_;(repeat' (with_reducible apply Br.mk<;>intro _)))
     have hfin:=zal o wc de wb p0 p1 p2 kb a b L.ov L.de hI.ovl hI.del i s (by omega) hs2 k (L.S s) (hI.gs hs2) (by omega)
     have hat:=LA.at hs2 h9
     refine zor (vs:=[.int .i64 i,.int .i64 s]) (cs:=[.gp o 0,.gp wc 0,.gp de 0]) hfin hat ?_
     rintro _ _ G8 ⟨rfl,rfl⟩ h10
     have h11:Sep (LA wv wc wb mo o de p0 p1 p2 kb a b wr (k+400) (L.finish i s) R1) G8:=LA.back (L:=L) hs2 (by omega) rfl rfl rfl rfl h10
     have hI2:=hI.finish (by omega) hi hs2 d0
     refine goS trivial ?_
     (refine goX trivial ?_;(repeat' (with_reducible apply Br.mk<;>intro _)))
     exact ⟨z - 1,_,by omega,zt rfl,j+1,L.finish i s,_,k+400,G8,by omega,hI2,by omega,h11,rfl⟩
  have a1':(kind=1)=False:=eq_false a1
  by_cases a2:kind=2
  · subst a2
    by_cases d0:gD L.de i=0
    · rw [d0] at hded
      have hI1:=hI.refuse (by omega) hi d0
      have hd1:gD (L.refuse i).de i≠0:=by
       show gD (L.de.set i 2) i≠0
       rw [zhi 2 (by omega),if_pos rfl];decide
      have hr9:Sep (DeA de L.de::MoA mo (L.M 0) (L.M 1)::OvA o L.ov::zi a 2 k (L.S 0)::zi b 2 k (L.S 1)::WvA wv wr::WcA wc wb::WoA wb p0 p1 p2 kb a b::R1) G7:=h9.perm pp
      have hr10:=Sep.set (cs':=(L.de.set i 2).map eI) hr9
      have hr10:Sep (DeA de (L.refuse i).de::MoA mo ((L.refuse i).M 0) ((L.refuse i).M 1)::OvA o (L.refuse i).ov::zi a 2 k ((L.refuse i).S 0)::zi b 2 k ((L.refuse i).S 1)::WvA wv wr::WcA wc wb::WoA wb p0 p1 p2 kb a b::R1) (G7.set de (some ((L.de.set i 2).map eI))):=hr10
      have hpr2:(L.refuse i).pr=L.pr:=rfl
      (refine goX (nn hgv (nn hi2 (nn hgde (nn hgo (nn hi4 (nn hst2 (nn hded (nn h3d (nn hlmd hstd))))))))) ?_;(repeat' (with_reducible apply Br.mk<;>intro _)))
      generalize G7.set de (some ((L.de.set i 2).map eI))=G9 at hr10 ⊢
      generalize L.refuse i=L1 at hr10 hI1 hd1 hpr2
      have he9:Sep (LA wv wc wb mo o de p0 p1 p2 kb a b wr k L1 R1) G9:=hr10.perm pp
      rw [← hpr2]
      have hfin:=zal o wc de wb p0 p1 p2 kb a b L1.ov L1.de hI1.ovl hI1.del i s (by omega) hs2 k (L1.S s) (hI1.gs hs2) (by omega)
      have hat:=LA.at hs2 he9
      refine zor (vs:=[.int .i64 i,.int .i64 s]) (cs:=[.gp o 0,.gp wc 0,.gp de 0]) hfin hat ?_
      rintro _ _ G8 ⟨rfl,rfl⟩ h10
      have h11:Sep (LA wv wc wb mo o de p0 p1 p2 kb a b wr (k+400) (L1.finish i s) R1) G8:=LA.back (L:=L1) hs2 (by omega) rfl rfl rfl rfl h10
      have hI2:=hI1.finish (by omega) hi hs2 hd1
      refine goS trivial ?_
      (refine goX trivial ?_;(repeat' (with_reducible apply Br.mk<;>intro _)))
      exact ⟨z - 1,_,by omega,zt rfl,j+1,L1.finish i s,_,k+400,G8,by omega,hI2,by omega,h11,rfl⟩
    · have d0':(gD L.de i=0)=False:=eq_false d0
      cases hov:gB L.ov (2 * i+s) with
      | true =>
       rw [hov] at hovd
       (refine goX (nn hgv (nn hi2 (nn hgde (nn hgo (nn hi4 (nn hst2 (nn hded (nn d0' hovd)))))))) ?_;(repeat' (with_reducible apply Br.mk<;>intro _)))
       exact ⟨z - 1,_,by omega,zt rfl,j+1,L,_,k,G7,by omega,hI,by omega,h9,rfl⟩
      | false =>
       rw [hov] at hovd
       (refine goX (nn hgv (nn hi2 (nn hgde (nn hgo (nn hi4 (nn hst2 (nn hded (nn d0' hovd)))))))) ?_;(repeat' (with_reducible apply Br.mk<;>intro _)))
       have hfin:=zal o wc de wb p0 p1 p2 kb a b L.ov L.de hI.ovl hI.del i s (by omega) hs2 k (L.S s) (hI.gs hs2) (by omega)
       have hat:=LA.at hs2 h9
       refine zor (vs:=[.int .i64 i,.int .i64 s]) (cs:=[.gp o 0,.gp wc 0,.gp de 0]) hfin hat ?_
       rintro _ _ G8 ⟨rfl,rfl⟩ h10
       have h11:Sep (LA wv wc wb mo o de p0 p1 p2 kb a b wr (k+400) (L.finish i s) R1) G8:=LA.back (L:=L) hs2 (by omega) rfl rfl rfl rfl h10
       have hI2:=hI.finish (by omega) hi hs2 d0
       refine goS trivial ?_
       (refine goX trivial ?_;(repeat' (with_reducible apply Br.mk<;>intro _)))
       exact ⟨z - 1,_,by omega,zt rfl,j+1,L.finish i s,_,k+400,G8,by omega,hI2,by omega,h11,rfl⟩
  have a2':(kind=2)=False:=eq_false a2
  by_cases kp:0<kind
  case neg =>
   have kp':(0<kind)=False:=eq_false kp
   (refine goX (nn hgv (nn hi2 (nn hgde (nn hgo (nn hi4 (nn hst2 (nn a0' (nn a1' (nn a2' kp'))))))))) ?_;(repeat' (with_reducible apply Br.mk<;>intro _)))
   exact ⟨z - 1,_,by omega,zt rfl,j+1,L,_,k,G7,by omega,hI,by omega,h9,rfl⟩
  have kp':(0<kind)=True:=eq_true kp
  by_cases d0:gD L.de i=0
  · rw [d0] at hded
    (refine goX (nn hgv (nn hi2 (nn hgde (nn hgo (nn hi4 (nn hst2 (nn a0' (nn a1' (nn a2' (nn kp' hded)))))))))) ?_;(repeat' (with_reducible apply Br.mk<;>intro _)))
    exact ⟨z - 1,_,by omega,zt rfl,j+1,L,_,k,G7,by omega,hI,by omega,h9,rfl⟩
  have d0':(gD L.de i=0)=False:=eq_false d0
  cases hov:gB L.ov (2 * i+s) with
  | true =>
   rw [hov] at hovd
   (refine goX (nn hgv (nn hi2 (nn hgde (nn hgo (nn hi4 (nn hst2 (nn a0' (nn a1' (nn a2' (nn kp' (nn hded (nn d0' hovd)))))))))))) ?_;(repeat' (with_reducible apply Br.mk<;>intro _)))
   exact ⟨z - 1,_,by omega,zt rfl,j+1,L,_,k,G7,by omega,hI,by omega,h9,rfl⟩
  | false =>
   rw [hov] at hovd
   (refine goX (nn hgv (nn hi2 (nn hgde (nn hgo (nn hi4 (nn hst2 (nn a0' (nn a1' (nn a2' (nn kp' (nn hded (nn d0' hovd)))))))))))) ?_;(repeat' (with_reducible apply Br.mk<;>intro _)))
   have hfin:=zal o wc de wb p0 p1 p2 kb a b L.ov L.de hI.ovl hI.del i s (by omega) hs2 k (L.S s) (hI.gs hs2) (by omega)
   have hat:=LA.at hs2 h9
   refine zor (vs:=[.int .i64 i,.int .i64 s]) (cs:=[.gp o 0,.gp wc 0,.gp de 0]) hfin hat ?_
   rintro _ _ G8 ⟨rfl,rfl⟩ h10
   have h11:Sep (LA wv wc wb mo o de p0 p1 p2 kb a b wr (k+400) (L.finish i s) R1) G8:=LA.back (L:=L) hs2 (by omega) rfl rfl rfl rfl h10
   have hI2:=hI.finish (by omega) hi hs2 d0
   refine goS trivial ?_
   (refine goX trivial ?_;(repeat' (with_reducible apply Br.mk<;>intro _)))
   exact ⟨z - 1,_,by omega,zt rfl,j+1,L.finish i s,_,k+400,G8,by omega,hI2,by omega,h11,rfl⟩
 | true =>
 have hwh:=z1c hwh.symm
 by_cases htot:(part wr i 0).length+(part wr i 1).length=0
 · have z0:(part wr i 0).length=0:=by omega
   have z1:(part wr i 1).length=0:=by omega
   by_cases a0:kind=0
   · subst a0
     cases hB:gB L.pr (2 * i+s) with
     | true =>
      rw [hB] at hpds
      (refine goX (nn hgv (nn hi2 (nn hsp0 (nn hsp1' (nn z0 (nn z1 (nn hgde (nn hgo (nn hi4 (nn hst2 hpds)))))))))) ?_;(repeat' (with_reducible apply Br.mk<;>intro _)))
      exact ⟨z - 1,_,by omega,zt rfl,j+1,L,_,k,G7,by omega,hI,by omega,h9,rfl⟩
     | false =>
      rw [hB] at hpds
      by_cases d0:gD L.de i=0
      case neg =>
       have d0':(gD L.de i=0)=False:=eq_false d0
       (refine goX (nn hgv (nn hi2 (nn hsp0 (nn hsp1' (nn z0 (nn z1 (nn hgde (nn hgo (nn hi4 (nn hst2 (nn hpds (nn hded d0')))))))))))) ?_;(repeat' (with_reducible apply Br.mk<;>intro _)))
       exact ⟨z - 1,_,by omega,zt rfl,j+1,L,_,k,G7,by omega,hI,by omega,h9,rfl⟩
      rw [d0] at hded
      by_cases hl:part wr i s=[]
      · have e6:(0<((part wr i s).length:Int))=False:=eq_false (by rw [hl];simp)
        (refine goX (nn hgv (nn hi2 (nn hsp0 (nn hsp1' (nn z0 (nn z1 (nn hgde (nn hgo (nn hi4 (nn hst2 (nn hpds (nn hded e6)))))))))))) ?_;(repeat' (with_reducible apply Br.mk<;>intro _)))
        exact ⟨z - 1,_,by omega,zt rfl,j+1,L,_,k,G7,by omega,hI,by omega,h9,rfl⟩
      · have e6:(0<((part wr i s).length:Int))=True:=eq_true (by have:=List.length_pos_iff.2 hl;omega)
        have hprep:=zin (sb:=if s=0 then a else b) (m:=k) (hI.gs hs2) (by omega) ((i+1:Nat):Int) (part wr i s) (hpl s hs2)
        have hat:=LA.at hs2 h9
        have hat2:Sep (zi (if s=0 then a else b) 2 k (L.S s)::OvA o L.ov::WcA wc wb::DeA de L.de::WoA wb p0 p1 p2 kb a b::MoA mo (L.M 0) (L.M 1)::WvA wv wr::zi (if s=0 then b else a) 2 k (L.S (1 - s))::R1) G7:=hat.perm pp
        have hI2:=hI.prepare (by omega) hi hs2 d0 hB
        have hLp:(L.prepare wr i s).pr=L.pr.set (2 * i+s) (decide (zat 2 (L.S s).1 (L.S s).2 ((i+1:Nat):Int) (part wr i s)=0)):=rfl
        generalize hpe:zat 2 (L.S s).1 (L.S s).2 ((i+1:Nat):Int) (part wr i s)=pe at hprep hLp
        (refine goX (nn hgv (nn hi2 (nn hsp0 (nn hsp1' (nn z0 (nn z1 (nn hgde (nn hgo (nn hi4 (nn hst2 (nn hpds (nn hded (nn e6 (nn hgwc (nn hgwb (nn hvi i1)))))))))))))))) ?_;(repeat' (with_reducible apply Br.mk<;>intro _)))
        (refine goM (hprep) (hat2) ?_)
        rintro _ _ G8 ⟨rfl,rfl⟩ h10
        have h10:Sep (zi (if s=0 then a else b) 2 (k+200) (prepS 2 ((i+1:Nat):Int) (part wr i s) (L.S s))::OvA o L.ov::WcA wc wb::DeA de L.de::WoA wb p0 p1 p2 kb a b::MoA mo (L.M 0) (L.M 1)::WvA wv wr::zi (if s=0 then b else a) 2 k (L.S (1 - s))::R1) G8:=h10
        have h11:Sep (OvA o L.ov::WcA wc wb::DeA de L.de::WoA wb p0 p1 p2 kb a b::zi (if s=0 then a else b) 2 (k+200) (prepS 2 ((i+1:Nat):Int) (part wr i s) (L.S s))::MoA mo (L.M 0) (L.M 1)::WvA wv wr::zi (if s=0 then b else a) 2 k (L.S (1 - s))::R1) G8:=h10.perm pp
        have h12:Sep (LA wv wc wb mo o de p0 p1 p2 kb a b wr (k+200) (L.prepare wr i s) R1) G8:=LA.back (L:=L) hs2 (by omega) rfl rfl rfl rfl h11
        generalize L.prepare wr i s=L2 at h12 hI2 hLp
        by_cases hz:pe=0
        · subst hz
          have hst:=hstp true
          rw [decide_eq_true rfl] at hLp
          rw [← hLp] at hst
          refine goS trivial ?_
          (refine goX (nn h7p (nn hlmp hst)) ?_;(repeat' (with_reducible apply Br.mk<;>intro _)))
          exact ⟨z - 1,_,by omega,zt rfl,j+1,L2,_,k+200,G8,by omega,hI2,by omega,h12,rfl⟩
        · have hz':(pe=0)=False:=eq_false hz
          have hst:=hstp false
          rw [decide_eq_false hz] at hLp
          rw [← hLp] at hst
          refine goS trivial ?_
          (refine goX (nn hz' (nn h7p (nn hlmp hst))) ?_;(repeat' (with_reducible apply Br.mk<;>intro _)))
          exact ⟨z - 1,_,by omega,zt rfl,j+1,L2,_,k+200,G8,by omega,hI2,by omega,h12,rfl⟩
   have a0':(kind=0)=False:=eq_false a0
   by_cases a1:kind=1
   · subst a1
     by_cases d0:gD L.de i=0
     · rw [d0] at hded
       (refine goX (nn hgv (nn hi2 (nn hsp0 (nn hsp1' (nn z0 (nn z1 (nn hgde (nn hgo (nn hi4 (nn hst2 hded)))))))))) ?_;(repeat' (with_reducible apply Br.mk<;>intro _)))
       exact ⟨z - 1,_,by omega,zt rfl,j+1,L,_,k,G7,by omega,hI,by omega,h9,rfl⟩
     have d0':(gD L.de i=0)=False:=eq_false d0
     cases hov:gB L.ov (2 * i+s) with
     | true =>
      rw [hov] at hovd
      (refine goX (nn hgv (nn hi2 (nn hsp0 (nn hsp1' (nn z0 (nn z1 (nn hgde (nn hgo (nn hi4 (nn hst2 (nn hded (nn d0' hovd)))))))))))) ?_;(repeat' (with_reducible apply Br.mk<;>intro _)))
      exact ⟨z - 1,_,by omega,zt rfl,j+1,L,_,k,G7,by omega,hI,by omega,h9,rfl⟩
     | false =>
      rw [hov] at hovd
      (refine goX (nn hgv (nn hi2 (nn hsp0 (nn hsp1' (nn z0 (nn z1 (nn hgde (nn hgo (nn hi4 (nn hst2 (nn hded (nn d0' hovd)))))))))))) ?_;(repeat' (with_reducible apply Br.mk<;>intro _)))
      have hfin:=zal o wc de wb p0 p1 p2 kb a b L.ov L.de hI.ovl hI.del i s (by omega) hs2 k (L.S s) (hI.gs hs2) (by omega)
      have hat:=LA.at hs2 h9
      refine zor (vs:=[.int .i64 i,.int .i64 s]) (cs:=[.gp o 0,.gp wc 0,.gp de 0]) hfin hat ?_
      rintro _ _ G8 ⟨rfl,rfl⟩ h10
      have h11:Sep (LA wv wc wb mo o de p0 p1 p2 kb a b wr (k+400) (L.finish i s) R1) G8:=LA.back (L:=L) hs2 (by omega) rfl rfl rfl rfl h10
      have hI2:=hI.finish (by omega) hi hs2 d0
      refine goS trivial ?_
      (refine goX trivial ?_;(repeat' (with_reducible apply Br.mk<;>intro _)))
      exact ⟨z - 1,_,by omega,zt rfl,j+1,L.finish i s,_,k+400,G8,by omega,hI2,by omega,h11,rfl⟩
   have a1':(kind=1)=False:=eq_false a1
   by_cases a2:kind=2
   · subst a2
     by_cases d0:gD L.de i=0
     · rw [d0] at hded
       have hI1:=hI.refuse (by omega) hi d0
       have hd1:gD (L.refuse i).de i≠0:=by
        show gD (L.de.set i 2) i≠0
        rw [zhi 2 (by omega),if_pos rfl];decide
       have hr9:Sep (DeA de L.de::MoA mo (L.M 0) (L.M 1)::OvA o L.ov::zi a 2 k (L.S 0)::zi b 2 k (L.S 1)::WvA wv wr::WcA wc wb::WoA wb p0 p1 p2 kb a b::R1) G7:=h9.perm pp
       have hr10:=Sep.set (cs':=(L.de.set i 2).map eI) hr9
       have hr10:Sep (DeA de (L.refuse i).de::MoA mo ((L.refuse i).M 0) ((L.refuse i).M 1)::OvA o (L.refuse i).ov::zi a 2 k ((L.refuse i).S 0)::zi b 2 k ((L.refuse i).S 1)::WvA wv wr::WcA wc wb::WoA wb p0 p1 p2 kb a b::R1) (G7.set de (some ((L.de.set i 2).map eI))):=hr10
       have hpr2:(L.refuse i).pr=L.pr:=rfl
       (refine goX (nn hgv (nn hi2 (nn hsp0 (nn hsp1' (nn z0 (nn z1 (nn hgde (nn hgo (nn hi4 (nn hst2 (nn hded (nn h3d (nn hlmd hstd))))))))))))) ?_;(repeat' (with_reducible apply Br.mk<;>intro _)))
       generalize G7.set de (some ((L.de.set i 2).map eI))=G9 at hr10 ⊢
       generalize L.refuse i=L1 at hr10 hI1 hd1 hpr2
       have he9:Sep (LA wv wc wb mo o de p0 p1 p2 kb a b wr k L1 R1) G9:=hr10.perm pp
       rw [← hpr2]
       have hfin:=zal o wc de wb p0 p1 p2 kb a b L1.ov L1.de hI1.ovl hI1.del i s (by omega) hs2 k (L1.S s) (hI1.gs hs2) (by omega)
       have hat:=LA.at hs2 he9
       refine zor (vs:=[.int .i64 i,.int .i64 s]) (cs:=[.gp o 0,.gp wc 0,.gp de 0]) hfin hat ?_
       rintro _ _ G8 ⟨rfl,rfl⟩ h10
       have h11:Sep (LA wv wc wb mo o de p0 p1 p2 kb a b wr (k+400) (L1.finish i s) R1) G8:=LA.back (L:=L1) hs2 (by omega) rfl rfl rfl rfl h10
       have hI2:=hI1.finish (by omega) hi hs2 hd1
       refine goS trivial ?_
       (refine goX trivial ?_;(repeat' (with_reducible apply Br.mk<;>intro _)))
       exact ⟨z - 1,_,by omega,zt rfl,j+1,L1.finish i s,_,k+400,G8,by omega,hI2,by omega,h11,rfl⟩
     · have d0':(gD L.de i=0)=False:=eq_false d0
       cases hov:gB L.ov (2 * i+s) with
       | true =>
        rw [hov] at hovd
        (refine goX (nn hgv (nn hi2 (nn hsp0 (nn hsp1' (nn z0 (nn z1 (nn hgde (nn hgo (nn hi4 (nn hst2 (nn hded (nn d0' hovd)))))))))))) ?_;(repeat' (with_reducible apply Br.mk<;>intro _)))
        exact ⟨z - 1,_,by omega,zt rfl,j+1,L,_,k,G7,by omega,hI,by omega,h9,rfl⟩
       | false =>
        rw [hov] at hovd
        (refine goX (nn hgv (nn hi2 (nn hsp0 (nn hsp1' (nn z0 (nn z1 (nn hgde (nn hgo (nn hi4 (nn hst2 (nn hded (nn d0' hovd)))))))))))) ?_;(repeat' (with_reducible apply Br.mk<;>intro _)))
        have hfin:=zal o wc de wb p0 p1 p2 kb a b L.ov L.de hI.ovl hI.del i s (by omega) hs2 k (L.S s) (hI.gs hs2) (by omega)
        have hat:=LA.at hs2 h9
        refine zor (vs:=[.int .i64 i,.int .i64 s]) (cs:=[.gp o 0,.gp wc 0,.gp de 0]) hfin hat ?_
        rintro _ _ G8 ⟨rfl,rfl⟩ h10
        have h11:Sep (LA wv wc wb mo o de p0 p1 p2 kb a b wr (k+400) (L.finish i s) R1) G8:=LA.back (L:=L) hs2 (by omega) rfl rfl rfl rfl h10
        have hI2:=hI.finish (by omega) hi hs2 d0
        refine goS trivial ?_
        (refine goX trivial ?_;(repeat' (with_reducible apply Br.mk<;>intro _)))
        exact ⟨z - 1,_,by omega,zt rfl,j+1,L.finish i s,_,k+400,G8,by omega,hI2,by omega,h11,rfl⟩
   have a2':(kind=2)=False:=eq_false a2
   by_cases kp:0<kind
   case neg =>
    have kp':(0<kind)=False:=eq_false kp
    (refine goX (nn hgv (nn hi2 (nn hsp0 (nn hsp1' (nn z0 (nn z1 (nn hgde (nn hgo (nn hi4 (nn hst2 (nn a0' (nn a1' (nn a2' kp'))))))))))))) ?_;(repeat' (with_reducible apply Br.mk<;>intro _)))
    exact ⟨z - 1,_,by omega,zt rfl,j+1,L,_,k,G7,by omega,hI,by omega,h9,rfl⟩
   have kp':(0<kind)=True:=eq_true kp
   by_cases d0:gD L.de i=0
   · rw [d0] at hded
     (refine goX (nn hgv (nn hi2 (nn hsp0 (nn hsp1' (nn z0 (nn z1 (nn hgde (nn hgo (nn hi4 (nn hst2 (nn a0' (nn a1' (nn a2' (nn kp' hded)))))))))))))) ?_;(repeat' (with_reducible apply Br.mk<;>intro _)))
     exact ⟨z - 1,_,by omega,zt rfl,j+1,L,_,k,G7,by omega,hI,by omega,h9,rfl⟩
   have d0':(gD L.de i=0)=False:=eq_false d0
   cases hov:gB L.ov (2 * i+s) with
   | true =>
    rw [hov] at hovd
    (refine goX (nn hgv (nn hi2 (nn hsp0 (nn hsp1' (nn z0 (nn z1 (nn hgde (nn hgo (nn hi4 (nn hst2 (nn a0' (nn a1' (nn a2' (nn kp' (nn hded (nn d0' hovd)))))))))))))))) ?_;(repeat' (with_reducible apply Br.mk<;>intro _)))
    exact ⟨z - 1,_,by omega,zt rfl,j+1,L,_,k,G7,by omega,hI,by omega,h9,rfl⟩
   | false =>
    rw [hov] at hovd
    (refine goX (nn hgv (nn hi2 (nn hsp0 (nn hsp1' (nn z0 (nn z1 (nn hgde (nn hgo (nn hi4 (nn hst2 (nn a0' (nn a1' (nn a2' (nn kp' (nn hded (nn d0' hovd)))))))))))))))) ?_;(repeat' (with_reducible apply Br.mk<;>intro _)))
    have hfin:=zal o wc de wb p0 p1 p2 kb a b L.ov L.de hI.ovl hI.del i s (by omega) hs2 k (L.S s) (hI.gs hs2) (by omega)
    have hat:=LA.at hs2 h9
    refine zor (vs:=[.int .i64 i,.int .i64 s]) (cs:=[.gp o 0,.gp wc 0,.gp de 0]) hfin hat ?_
    rintro _ _ G8 ⟨rfl,rfl⟩ h10
    have h11:Sep (LA wv wc wb mo o de p0 p1 p2 kb a b wr (k+400) (L.finish i s) R1) G8:=LA.back (L:=L) hs2 (by omega) rfl rfl rfl rfl h10
    have hI2:=hI.finish (by omega) hi hs2 d0
    refine goS trivial ?_
    (refine goX trivial ?_;(repeat' (with_reducible apply Br.mk<;>intro _)))
    exact ⟨z - 1,_,by omega,zt rfl,j+1,L.finish i s,_,k+400,G8,by omega,hI2,by omega,h11,rfl⟩
 · have l16:∀ t,t<2→(part wr i t).length≤16:=fun t ht=>by
    rcases hwh t ht with e|e
    · exact hI.len i t hi ht e
    · rw [e];simp
   have m0:=l16 0 (by omega)
   have m1:=l16 1 (by omega)
   have e9:(0<((part wr i 0).length:Int)+((part wr i 1).length:Int))=True:=eq_true (by omega)
   by_cases a0:kind=0
   · subst a0
     cases hB:gB L.pr (2 * i+s) with
     | true =>
      rw [hB] at hpds
      (refine goX (nn hgv (nn hi2 (nn hsp0 (nn hsp1' (nn e9 (nn hgde (nn hgo (nn hi4 (nn hst2 hpds))))))))) ?_;(repeat' (with_reducible apply Br.mk<;>intro _)))
      exact ⟨z - 1,_,by omega,zt rfl,j+1,L,_,k,G7,by omega,hI,by omega,h9,rfl⟩
     | false =>
      rw [hB] at hpds
      by_cases d0:gD L.de i=0
      case neg =>
       have d0':(gD L.de i=0)=False:=eq_false d0
       (refine goX (nn hgv (nn hi2 (nn hsp0 (nn hsp1' (nn e9 (nn hgde (nn hgo (nn hi4 (nn hst2 (nn hpds (nn hded d0'))))))))))) ?_;(repeat' (with_reducible apply Br.mk<;>intro _)))
       exact ⟨z - 1,_,by omega,zt rfl,j+1,L,_,k,G7,by omega,hI,by omega,h9,rfl⟩
      rw [d0] at hded
      by_cases hl:part wr i s=[]
      · have e6:(0<((part wr i s).length:Int))=False:=eq_false (by rw [hl];simp)
        (refine goX (nn hgv (nn hi2 (nn hsp0 (nn hsp1' (nn e9 (nn hgde (nn hgo (nn hi4 (nn hst2 (nn hpds (nn hded e6))))))))))) ?_;(repeat' (with_reducible apply Br.mk<;>intro _)))
        exact ⟨z - 1,_,by omega,zt rfl,j+1,L,_,k,G7,by omega,hI,by omega,h9,rfl⟩
      · have e6:(0<((part wr i s).length:Int))=True:=eq_true (by have:=List.length_pos_iff.2 hl;omega)
        have hprep:=zin (sb:=if s=0 then a else b) (m:=k) (hI.gs hs2) (by omega) ((i+1:Nat):Int) (part wr i s) (hpl s hs2)
        have hat:=LA.at hs2 h9
        have hat2:Sep (zi (if s=0 then a else b) 2 k (L.S s)::OvA o L.ov::WcA wc wb::DeA de L.de::WoA wb p0 p1 p2 kb a b::MoA mo (L.M 0) (L.M 1)::WvA wv wr::zi (if s=0 then b else a) 2 k (L.S (1 - s))::R1) G7:=hat.perm pp
        have hI2:=hI.prepare (by omega) hi hs2 d0 hB
        have hLp:(L.prepare wr i s).pr=L.pr.set (2 * i+s) (decide (zat 2 (L.S s).1 (L.S s).2 ((i+1:Nat):Int) (part wr i s)=0)):=rfl
        generalize hpe:zat 2 (L.S s).1 (L.S s).2 ((i+1:Nat):Int) (part wr i s)=pe at hprep hLp
        (refine goX (nn hgv (nn hi2 (nn hsp0 (nn hsp1' (nn e9 (nn hgde (nn hgo (nn hi4 (nn hst2 (nn hpds (nn hded (nn e6 (nn hgwc (nn hgwb (nn hvi i1))))))))))))))) ?_;(repeat' (with_reducible apply Br.mk<;>intro _)))
        (refine goM (hprep) (hat2) ?_)
        rintro _ _ G8 ⟨rfl,rfl⟩ h10
        have h10:Sep (zi (if s=0 then a else b) 2 (k+200) (prepS 2 ((i+1:Nat):Int) (part wr i s) (L.S s))::OvA o L.ov::WcA wc wb::DeA de L.de::WoA wb p0 p1 p2 kb a b::MoA mo (L.M 0) (L.M 1)::WvA wv wr::zi (if s=0 then b else a) 2 k (L.S (1 - s))::R1) G8:=h10
        have h11:Sep (OvA o L.ov::WcA wc wb::DeA de L.de::WoA wb p0 p1 p2 kb a b::zi (if s=0 then a else b) 2 (k+200) (prepS 2 ((i+1:Nat):Int) (part wr i s) (L.S s))::MoA mo (L.M 0) (L.M 1)::WvA wv wr::zi (if s=0 then b else a) 2 k (L.S (1 - s))::R1) G8:=h10.perm pp
        have h12:Sep (LA wv wc wb mo o de p0 p1 p2 kb a b wr (k+200) (L.prepare wr i s) R1) G8:=LA.back (L:=L) hs2 (by omega) rfl rfl rfl rfl h11
        generalize L.prepare wr i s=L2 at h12 hI2 hLp
        by_cases hz:pe=0
        · subst hz
          have hst:=hstp true
          rw [decide_eq_true rfl] at hLp
          rw [← hLp] at hst
          refine goS trivial ?_
          (refine goX (nn h7p (nn hlmp hst)) ?_;(repeat' (with_reducible apply Br.mk<;>intro _)))
          exact ⟨z - 1,_,by omega,zt rfl,j+1,L2,_,k+200,G8,by omega,hI2,by omega,h12,rfl⟩
        · have hz':(pe=0)=False:=eq_false hz
          have hst:=hstp false
          rw [decide_eq_false hz] at hLp
          rw [← hLp] at hst
          refine goS trivial ?_
          (refine goX (nn hz' (nn h7p (nn hlmp hst))) ?_;(repeat' (with_reducible apply Br.mk<;>intro _)))
          exact ⟨z - 1,_,by omega,zt rfl,j+1,L2,_,k+200,G8,by omega,hI2,by omega,h12,rfl⟩
   have a0':(kind=0)=False:=eq_false a0
   by_cases a1:kind=1
   · subst a1
     by_cases d0:gD L.de i=0
     · rw [d0] at hded
       obtain ⟨n0,k0,v0,b0,l0⟩:=hI.asks hi (s:=0) (by omega) d0 (hwh 0 (by omega))
       obtain ⟨n1,k1,v1,b1,l1⟩:=hI.asks hi (s:=1) (by omega) d0 (hwh 1 (by omega))
       have hcom:=zsw de wv mo wr L.de (L.M 0) (L.M 1) i hi (by omega) hI.del (hI.ml (by omega)) (hI.ml (by omega)) (part wr i 0) (part wr i 1) hwri n0 n1 k0 k1 v0 v1 b0 b1 l0 l1
       have hc9:Sep (DeA de L.de::WvA wv wr::MoA mo (L.M 0) (L.M 1)::OvA o L.ov::zi a 2 k (L.S 0)::zi b 2 k (L.S 1)::WcA wc wb::WoA wb p0 p1 p2 kb a b::R1) G7:=h9.perm pp
       (refine goX (nn hgv (nn hi2 (nn hsp0 (nn hsp1' (nn e9 (nn hgde (nn hgo (nn hi4 (nn hst2 hded))))))))) ?_;(repeat' (with_reducible apply Br.mk<;>intro _)))
       refine zor (vs:=[.int .i64 i]) (cs:=[.gp de 0,.gp wv 0,.gp mo 0]) hcom hc9 ?_
       rintro _ _ G9 ⟨rfl,rfl⟩ hd9
       have hd9:Sep (DeA de (L.commit wr i).de::WvA wv wr::MoA mo ((L.commit wr i).M 0) ((L.commit wr i).M 1)::OvA o (L.commit wr i).ov::zi a 2 k ((L.commit wr i).S 0)::zi b 2 k ((L.commit wr i).S 1)::WcA wc wb::WoA wb p0 p1 p2 kb a b::R1) G9:=hd9
       have hI1:=hI.commit (by omega) hi d0 hwh
       have hd1:gD (L.commit wr i).de i≠0:=by
        show gD (L.de.set i 1) i≠0
        rw [zhi 1 (by omega),if_pos rfl];decide
       have hpr2:(L.commit wr i).pr=L.pr:=rfl
       generalize L.commit wr i=L1 at hd9 hI1 hd1 hpr2
       have he9:Sep (LA wv wc wb mo o de p0 p1 p2 kb a b wr k L1 R1) G9:=hd9.perm pp
       rw [← hpr2]
       refine goS trivial ?_
       (refine goX trivial ?_;(repeat' (with_reducible apply Br.mk<;>intro _)))
       have hfin:=zal o wc de wb p0 p1 p2 kb a b L1.ov L1.de hI1.ovl hI1.del i s (by omega) hs2 k (L1.S s) (hI1.gs hs2) (by omega)
       have hat:=LA.at hs2 he9
       refine zor (vs:=[.int .i64 i,.int .i64 s]) (cs:=[.gp o 0,.gp wc 0,.gp de 0]) hfin hat ?_
       rintro _ _ G8 ⟨rfl,rfl⟩ h10
       have h11:Sep (LA wv wc wb mo o de p0 p1 p2 kb a b wr (k+400) (L1.finish i s) R1) G8:=LA.back (L:=L1) hs2 (by omega) rfl rfl rfl rfl h10
       have hI2:=hI1.finish (by omega) hi hs2 hd1
       refine goS trivial ?_
       (refine goX trivial ?_;(repeat' (with_reducible apply Br.mk<;>intro _)))
       exact ⟨z - 1,_,by omega,zt rfl,j+1,L1.finish i s,_,k+400,G8,by omega,hI2,by omega,h11,rfl⟩
     · have d0':(gD L.de i=0)=False:=eq_false d0
       cases hov:gB L.ov (2 * i+s) with
       | true =>
        rw [hov] at hovd
        (refine goX (nn hgv (nn hi2 (nn hsp0 (nn hsp1' (nn e9 (nn hgde (nn hgo (nn hi4 (nn hst2 (nn hded (nn d0' hovd))))))))))) ?_;(repeat' (with_reducible apply Br.mk<;>intro _)))
        exact ⟨z - 1,_,by omega,zt rfl,j+1,L,_,k,G7,by omega,hI,by omega,h9,rfl⟩
       | false =>
        rw [hov] at hovd
        (refine goX (nn hgv (nn hi2 (nn hsp0 (nn hsp1' (nn e9 (nn hgde (nn hgo (nn hi4 (nn hst2 (nn hded (nn d0' hovd))))))))))) ?_;(repeat' (with_reducible apply Br.mk<;>intro _)))
        have hfin:=zal o wc de wb p0 p1 p2 kb a b L.ov L.de hI.ovl hI.del i s (by omega) hs2 k (L.S s) (hI.gs hs2) (by omega)
        have hat:=LA.at hs2 h9
        refine zor (vs:=[.int .i64 i,.int .i64 s]) (cs:=[.gp o 0,.gp wc 0,.gp de 0]) hfin hat ?_
        rintro _ _ G8 ⟨rfl,rfl⟩ h10
        have h11:Sep (LA wv wc wb mo o de p0 p1 p2 kb a b wr (k+400) (L.finish i s) R1) G8:=LA.back (L:=L) hs2 (by omega) rfl rfl rfl rfl h10
        have hI2:=hI.finish (by omega) hi hs2 d0
        refine goS trivial ?_
        (refine goX trivial ?_;(repeat' (with_reducible apply Br.mk<;>intro _)))
        exact ⟨z - 1,_,by omega,zt rfl,j+1,L.finish i s,_,k+400,G8,by omega,hI2,by omega,h11,rfl⟩
   have a1':(kind=1)=False:=eq_false a1
   by_cases a2:kind=2
   · subst a2
     by_cases d0:gD L.de i=0
     · rw [d0] at hded
       have hI1:=hI.refuse (by omega) hi d0
       have hd1:gD (L.refuse i).de i≠0:=by
        show gD (L.de.set i 2) i≠0
        rw [zhi 2 (by omega),if_pos rfl];decide
       have hr9:Sep (DeA de L.de::MoA mo (L.M 0) (L.M 1)::OvA o L.ov::zi a 2 k (L.S 0)::zi b 2 k (L.S 1)::WvA wv wr::WcA wc wb::WoA wb p0 p1 p2 kb a b::R1) G7:=h9.perm pp
       have hr10:=Sep.set (cs':=(L.de.set i 2).map eI) hr9
       have hr10:Sep (DeA de (L.refuse i).de::MoA mo ((L.refuse i).M 0) ((L.refuse i).M 1)::OvA o (L.refuse i).ov::zi a 2 k ((L.refuse i).S 0)::zi b 2 k ((L.refuse i).S 1)::WvA wv wr::WcA wc wb::WoA wb p0 p1 p2 kb a b::R1) (G7.set de (some ((L.de.set i 2).map eI))):=hr10
       have hpr2:(L.refuse i).pr=L.pr:=rfl
       (refine goX (nn hgv (nn hi2 (nn hsp0 (nn hsp1' (nn e9 (nn hgde (nn hgo (nn hi4 (nn hst2 (nn hded (nn h3d (nn hlmd hstd)))))))))))) ?_;(repeat' (with_reducible apply Br.mk<;>intro _)))
       generalize G7.set de (some ((L.de.set i 2).map eI))=G9 at hr10 ⊢
       generalize L.refuse i=L1 at hr10 hI1 hd1 hpr2
       have he9:Sep (LA wv wc wb mo o de p0 p1 p2 kb a b wr k L1 R1) G9:=hr10.perm pp
       rw [← hpr2]
       have hfin:=zal o wc de wb p0 p1 p2 kb a b L1.ov L1.de hI1.ovl hI1.del i s (by omega) hs2 k (L1.S s) (hI1.gs hs2) (by omega)
       have hat:=LA.at hs2 he9
       refine zor (vs:=[.int .i64 i,.int .i64 s]) (cs:=[.gp o 0,.gp wc 0,.gp de 0]) hfin hat ?_
       rintro _ _ G8 ⟨rfl,rfl⟩ h10
       have h11:Sep (LA wv wc wb mo o de p0 p1 p2 kb a b wr (k+400) (L1.finish i s) R1) G8:=LA.back (L:=L1) hs2 (by omega) rfl rfl rfl rfl h10
       have hI2:=hI1.finish (by omega) hi hs2 hd1
       refine goS trivial ?_
       (refine goX trivial ?_;(repeat' (with_reducible apply Br.mk<;>intro _)))
       exact ⟨z - 1,_,by omega,zt rfl,j+1,L1.finish i s,_,k+400,G8,by omega,hI2,by omega,h11,rfl⟩
     · have d0':(gD L.de i=0)=False:=eq_false d0
       cases hov:gB L.ov (2 * i+s) with
       | true =>
        rw [hov] at hovd
        (refine goX (nn hgv (nn hi2 (nn hsp0 (nn hsp1' (nn e9 (nn hgde (nn hgo (nn hi4 (nn hst2 (nn hded (nn d0' hovd))))))))))) ?_;(repeat' (with_reducible apply Br.mk<;>intro _)))
        exact ⟨z - 1,_,by omega,zt rfl,j+1,L,_,k,G7,by omega,hI,by omega,h9,rfl⟩
       | false =>
        rw [hov] at hovd
        (refine goX (nn hgv (nn hi2 (nn hsp0 (nn hsp1' (nn e9 (nn hgde (nn hgo (nn hi4 (nn hst2 (nn hded (nn d0' hovd))))))))))) ?_;(repeat' (with_reducible apply Br.mk<;>intro _)))
        have hfin:=zal o wc de wb p0 p1 p2 kb a b L.ov L.de hI.ovl hI.del i s (by omega) hs2 k (L.S s) (hI.gs hs2) (by omega)
        have hat:=LA.at hs2 h9
        refine zor (vs:=[.int .i64 i,.int .i64 s]) (cs:=[.gp o 0,.gp wc 0,.gp de 0]) hfin hat ?_
        rintro _ _ G8 ⟨rfl,rfl⟩ h10
        have h11:Sep (LA wv wc wb mo o de p0 p1 p2 kb a b wr (k+400) (L.finish i s) R1) G8:=LA.back (L:=L) hs2 (by omega) rfl rfl rfl rfl h10
        have hI2:=hI.finish (by omega) hi hs2 d0
        refine goS trivial ?_
        (refine goX trivial ?_;(repeat' (with_reducible apply Br.mk<;>intro _)))
        exact ⟨z - 1,_,by omega,zt rfl,j+1,L.finish i s,_,k+400,G8,by omega,hI2,by omega,h11,rfl⟩
   have a2':(kind=2)=False:=eq_false a2
   by_cases kp:0<kind
   case neg =>
    have kp':(0<kind)=False:=eq_false kp
    (refine goX (nn hgv (nn hi2 (nn hsp0 (nn hsp1' (nn e9 (nn hgde (nn hgo (nn hi4 (nn hst2 (nn a0' (nn a1' (nn a2' kp')))))))))))) ?_;(repeat' (with_reducible apply Br.mk<;>intro _)))
    exact ⟨z - 1,_,by omega,zt rfl,j+1,L,_,k,G7,by omega,hI,by omega,h9,rfl⟩
   have kp':(0<kind)=True:=eq_true kp
   by_cases d0:gD L.de i=0
   · rw [d0] at hded
     (refine goX (nn hgv (nn hi2 (nn hsp0 (nn hsp1' (nn e9 (nn hgde (nn hgo (nn hi4 (nn hst2 (nn a0' (nn a1' (nn a2' (nn kp' hded))))))))))))) ?_;(repeat' (with_reducible apply Br.mk<;>intro _)))
     exact ⟨z - 1,_,by omega,zt rfl,j+1,L,_,k,G7,by omega,hI,by omega,h9,rfl⟩
   have d0':(gD L.de i=0)=False:=eq_false d0
   cases hov:gB L.ov (2 * i+s) with
   | true =>
    rw [hov] at hovd
    (refine goX (nn hgv (nn hi2 (nn hsp0 (nn hsp1' (nn e9 (nn hgde (nn hgo (nn hi4 (nn hst2 (nn a0' (nn a1' (nn a2' (nn kp' (nn hded (nn d0' hovd))))))))))))))) ?_;(repeat' (with_reducible apply Br.mk<;>intro _)))
    exact ⟨z - 1,_,by omega,zt rfl,j+1,L,_,k,G7,by omega,hI,by omega,h9,rfl⟩
   | false =>
    rw [hov] at hovd
    (refine goX (nn hgv (nn hi2 (nn hsp0 (nn hsp1' (nn e9 (nn hgde (nn hgo (nn hi4 (nn hst2 (nn a0' (nn a1' (nn a2' (nn kp' (nn hded (nn d0' hovd))))))))))))))) ?_;(repeat' (with_reducible apply Br.mk<;>intro _)))
    have hfin:=zal o wc de wb p0 p1 p2 kb a b L.ov L.de hI.ovl hI.del i s (by omega) hs2 k (L.S s) (hI.gs hs2) (by omega)
    have hat:=LA.at hs2 h9
    refine zor (vs:=[.int .i64 i,.int .i64 s]) (cs:=[.gp o 0,.gp wc 0,.gp de 0]) hfin hat ?_
    rintro _ _ G8 ⟨rfl,rfl⟩ h10
    have h11:Sep (LA wv wc wb mo o de p0 p1 p2 kb a b wr (k+400) (L.finish i s) R1) G8:=LA.back (L:=L) hs2 (by omega) rfl rfl rfl rfl h10
    have hI2:=hI.finish (by omega) hi hs2 d0
    refine goS trivial ?_
    (refine goX trivial ?_;(repeat' (with_reducible apply Br.mk<;>intro _)))
    exact ⟨z - 1,_,by omega,zt rfl,j+1,L.finish i s,_,k+400,G8,by omega,hI2,by omega,h11,rfl⟩
end Go.Proofs.Ytlejjdbmmdghmaa
