/-
 Layer 40 (txn): the examples of the documentation.
 Conditions: of each contract as it says.
-/
import Derived.Test.YtlejjdbmmdghmaaY3
import Derived.Test.YtlejjdbmmdghmaaX16
import Derived.Test.YtlejjdbmmdghmaaX17
import Derived.Test.YtlejjdbmmdghmaaX18
set_option linter.unusedSimpArgs false
namespace Go.Proofs.Ytlejjdbmmdghmaa
open Go Go.E2 C22 C40
set_option maxHeartbeats 4000000
theorem z5s {sb:Nat} {m:Int} {s:SS} (g:GS s) (hm:m≤500000000) (k v:Int) (b:Str) :
 zy Try.prog f_zz19 [.gp sb 0,.int .i64 k,.int .i64 v,.str b] [zi sb 2 m s] (fun r post=>r=.d (.bool (decide (getR 2 s.1 k=(v,b,0))))∧post=[zi sb 2 m s]):=by
 obtain ⟨V,g⟩:=g
 exact z5x sb 2 m s.1 s.2 (by omega) (by omega) g.len (fun b hb=>by have:=g.fit b hb;omega) k v b
theorem zin {sb:Nat} {m:Int} {s:SS} (g:GS s) (hm:m≤390000000) (id:Int) (l:List Tw) (hL:l.length≤9223372036854775807) :
 zy Try.prog f_zz24 [.gp sb 0,.int .i64 id,eL l] [zi sb 2 m s] (fun r post=>r=.d (.int .i64 (zat 2 s.1 s.2 id l))∧post=[zi sb 2 (m+200) (prepS 2 id l s)]):=by
 obtain ⟨V,g⟩:=g
 exact z1j g hm id l hL
theorem zzc {sb:Nat} {m:Int} {s:SS} (g:GS s) (hm:m≤390000000) :
 zy Try.prog f_zz23 [.gp sb 0] [zi sb 2 m s] (fun r post=>∃ x,r=.tup [x,.int .i64 0]∧post=[zi sb 2 m s,SlA 1 x ((zer s.2).map eI)]):=by
 obtain ⟨V,g⟩:=g
 exact zh8 sb 2 m s.1 s.2 g.shp (by omega) (by have:=g.len4;omega)
theorem z5t (kb a b:Nat) (m:Int) (dc:List Str) (S0 S1:SS) (hm:m≤300000000) (hd:DOk dc) (g0:GS S0) (g1:GS S1) (id:Int) (l0 l1:List Tw)
 (hl0:l0.length≤9223372036854775807) (hl1:l1.length≤9223372036854775807) (hid:ziv id) (hso:zoa [l0,l1]=true) :
 zy Try.prog f_zz61 [.gp kb 0,zcv a b,.int .i64 id,.list [eL l0,eL l1]] [zm kb m dc,zi a 2 m S0,zi b 2 m S1]
  (fun r post=>r=.tup [.bool (zmt dc S0 S1 id l0 l1).is,.int .i64 (zmt dc S0 S1 id l0 l1).e] ∧
    post=[zm kb (m+1000) (zmt dc S0 S1 id l0 l1).dc,zi a 2 (m+1000) (zmt dc S0 S1 id l0 l1).s0,zi b 2 (m+1000) (zmt dc S0 S1 id l0 l1).s1]):=by
 obtain ⟨V0,g0⟩:=g0
 obtain ⟨V1,g1⟩:=g1
 exact z5r kb a b m dc S0 S1 V0 V1 hm hd g0 g1 id l0 l1 hl0 hl1 hid hso
theorem setGS (kb a b:Nat) (m:Int) (dc:List Str) (S0 S1:SS) (hm:m≤300000000) (hd:DOk dc) (g0:GS S0) (g1:GS S1) :
 zy Try.prog f_zz54 [.gp kb 0,zcv a b] [zm kb m dc,zi a 2 m S0,zi b 2 m S1]
  (fun r post=>r=.d (.int .i64 0)∧post=[zm kb (m+2000) (rep dc.length),zi a 2 (m+2000) (zfw dc S0),zi b 2 (m+2000) (zfw dc S1)]):=by
 obtain ⟨V0,g0⟩:=g0
 obtain ⟨V1,g1⟩:=g1
 exact zvv kb a b m dc S0 S1 V0 V1 hm hd g0 g1
theorem zpt {n:Int} (h1:1≤n) (h2:n≤1099511627776):ziv n:=⟨h1,h2⟩
theorem zhe:zy Try.prog f_zz11 [] [] (fun r post=>r=.d (.bool true)∧post=[]):=by
 refine zf fol zz11_cp fun R G σ hs=>?_
 refine goS trivial ?_
 refine goR trivial ?_
 (refine goM (zre) (hs) ?_)
 rintro _ _ G1 ⟨wb,p0,p1,p2,kb,a,b,rfl,rfl⟩ h1
 have h1:Sep (WoA wb p0 p1 p2 kb a b::zm kb 100 (rep 4)::zi a 2 100 sS0::zi b 2 100 sS0::R) G1:=h1
 have hg1:=Sep.get (b:=wb) (cs:=[.gp p0 0,.gp p1 0,.gp p2 0,.gp kb 0,zcv a b]) h1
 -- the first write
 have hA:zy Try.prog f_zz61 [.gp kb 0,zcv a b,.int .i64 1,.list [.list [.agg [.int .i64 0,.int .i64 0,.str [97],.bool false]],.list [.agg [.int .i64 0,.int .i64 0,.str [98],.bool false]]]] [zm kb 100 (rep 4),zi a 2 100 sS0,zi b 2 100 sS0]
  (fun r post=>r=.tup [.bool xA.is,.int .i64 xA.e]∧post=[zm kb 1100 xA.dc,zi a 2 1100 xA.s0,zi b 2 1100 xA.s1]) :=
  z5t kb a b 100 (rep 4) sS0 sS0 (by omega) zp2 zi6 zi6 1 [⟨0,0,[97],false⟩] [⟨0,0,[98],false⟩] (by simp) (by simp) (zpt (by omega) (by omega)) rfl
 rw [xA_is,xA_e] at hA
 have h2:Sep (zm kb 100 (rep 4)::zi a 2 100 sS0::zi b 2 100 sS0::WoA wb p0 p1 p2 kb a b::R) G1:=h1.perm pp
 refine goS trivial ?_
 (refine goX hg1 ?_;(repeat' (with_reducible apply Br.mk<;>intro _)))
 (refine goM (hA) (h2) ?_)
 rintro _ _ G2 ⟨rfl,rfl⟩ h3
 have h3:Sep (zm kb 1100 xA.dc::zi a 2 1100 xA.s0::zi b 2 1100 xA.s1::WoA wb p0 p1 p2 kb a b::R) G2:=h3
 obtain ⟨qA,qA0,qA1⟩:=zmv
 have h4:Sep (zi a 2 1100 xA.s0::zm kb 1100 xA.dc::zi b 2 1100 xA.s1::WoA wb p0 p1 p2 kb a b::R) G2:=h3.perm pp
 have hh:=z5s (sb:=a) (m:=1100) qA0 (by omega) 0 1 [97]
 rw [xA_g0,decide_eq_true rfl] at hh
 refine goS trivial ?_
 (refine goX trivial ?_;(repeat' (with_reducible apply Br.mk<;>intro _)))
 (refine goM (hh) (h4) ?_)
 rintro _ _ G3 ⟨rfl,rfl⟩ h5
 have h5:Sep (zi a 2 1100 xA.s0::zm kb 1100 xA.dc::zi b 2 1100 xA.s1::WoA wb p0 p1 p2 kb a b::R) G3:=h5
 have h6:Sep (zi b 2 1100 xA.s1::zi a 2 1100 xA.s0::zm kb 1100 xA.dc::WoA wb p0 p1 p2 kb a b::R) G3:=h5.perm pp
 have hh1:=z5s (sb:=b) (m:=1100) qA1 (by omega) 0 1 [98]
 rw [xA_g1,decide_eq_true rfl] at hh1
 refine goS trivial ?_
 (refine goX trivial ?_;(repeat' (with_reducible apply Br.mk<;>intro _)))
 (refine goM (hh1) (h6) ?_)
 rintro _ _ G4 ⟨rfl,rfl⟩ h7
 have h7:Sep (zi b 2 1100 xA.s1::zi a 2 1100 xA.s0::zm kb 1100 xA.dc::WoA wb p0 p1 p2 kb a b::R) G4:=h7
 have h8:Sep (zm kb 1100 xA.dc::zi a 2 1100 xA.s0::zi b 2 1100 xA.s1::WoA wb p0 p1 p2 kb a b::R) G4:=h7.perm pp
 have hg8:=Sep.get (b:=wb) (cs:=[.gp p0 0,.gp p1 0,.gp p2 0,.gp kb 0,zcv a b]) h8.tail.tail.tail
 -- the second one
 have hB:zy Try.prog f_zz61 [.gp kb 0,zcv a b,.int .i64 2,.list [.list [.agg [.int .i64 0,.int .i64 0,.str [120],.bool false]],.nilS]] [zm kb 1100 xA.dc,zi a 2 1100 xA.s0,zi b 2 1100 xA.s1]
  (fun r post=>r=.tup [.bool xB.is,.int .i64 xB.e]∧post=[zm kb 2100 xB.dc,zi a 2 2100 xB.s0,zi b 2 2100 xB.s1]) :=
  zy.args (ys:=[.gp kb 0,zcv a b,.int .i64 2,.list [eL [⟨0,0,[120],false⟩],eL []]]) (z5t kb a b 1100 xA.dc xA.s0 xA.s1 (by omega) qA qA0 qA1 2 [⟨0,0,[120],false⟩] [] (by simp) (by simp) (zpt (by omega) (by omega)) rfl)
   (.cons (.inl rfl) (.cons (.inl rfl) (.cons (.inl rfl) (.cons (.inr rfl) .nil))))
 rw [xB_is,xB_e] at hB
 obtain ⟨qB,qB0,qB1⟩:=zwa
 refine goS trivial ?_
 (refine goX hg8 ?_;(repeat' (with_reducible apply Br.mk<;>intro _)))
 (refine goM (hB) (h8) ?_)
 rintro _ _ G5 ⟨rfl,rfl⟩ h9
 have h9:Sep (zm kb 2100 xB.dc::zi a 2 2100 xB.s0::zi b 2 2100 xB.s1::WoA wb p0 p1 p2 kb a b::R) G5:=h9
 have h10:Sep (zi a 2 2100 xB.s0::zm kb 2100 xB.dc::zi b 2 2100 xB.s1::WoA wb p0 p1 p2 kb a b::R) G5:=h9.perm pp
 -- a part that is prepared
 have hP:zy Try.prog f_zz24 [.gp a 0,.int .i64 3,.list [.agg [.int .i64 0,.int .i64 1,.str [99],.bool false]]] [zi a 2 2100 xB.s0] (fun r post=>r=.d (.int .i64 0)∧post=[zi a 2 2300 xP3]):=by
  have:=zin (sb:=a) (m:=2100) qB0 (by omega) 3 [⟨0,1,[99],false⟩] (by simp)
  rw [xP3_e] at this
  exact this
 refine goS trivial ?_
 (refine goX trivial ?_;(repeat' (with_reducible apply Br.mk<;>intro _)))
 (refine goM (hP) (h10) ?_)
 rintro _ _ G6 ⟨rfl,rfl⟩ h11
 have h11:Sep (zi a 2 2300 xP3::zm kb 2100 xB.dc::zi b 2 2100 xB.s1::WoA wb p0 p1 p2 kb a b::R) G6:=h11
 have hpe:=zzc (sb:=a) (m:=2300) zfx (by omega)
 rw [zyf] at hpe
 refine goS trivial ?_
 (refine goX trivial ?_;(repeat' (with_reducible apply Br.mk<;>intro _)))
 (refine goM (hpe) (h11) ?_)
 rintro _ _ G7 ⟨x,rfl,rfl⟩ h12
 have h12:Sep (zi a 2 2300 xP3::SlA 1 x ([3].map eI)::zm kb 2100 xB.dc::zi b 2 2100 xB.s1::WoA wb p0 p1 p2 kb a b::R) G7:=h12
 have hsl:zy Try.prog f_zz10 [x,.list [.int .i64 3]] [SlA 1 x ([3].map eI)] (fun r post=>r=.d (.bool true)∧post=[SlA 1 x ([3].map eI)]):=zps x [3] [3] (by simp) (by simp)
 refine goS trivial ?_
 (refine goX trivial ?_;(repeat' (with_reducible apply Br.mk<;>intro _)))
 (refine goM (hsl) (h12.swap) ?_)
 rintro _ _ G8 ⟨rfl,rfl⟩ h13
 have h13:Sep (SlA 1 x ([3].map eI)::zi a 2 2300 xP3::zm kb 2100 xB.dc::zi b 2 2100 xB.s1::WoA wb p0 p1 p2 kb a b::R) G8:=h13
 have h14:=h13.tail
 have hh2:=z5s (sb:=a) (m:=2300) zfx (by omega) 0 1 [97]
 rw [xP3_g,decide_eq_true rfl] at hh2
 refine goS trivial ?_
 (refine goX trivial ?_;(repeat' (with_reducible apply Br.mk<;>intro _)))
 (refine goM (hh2) (h14) ?_)
 rintro _ _ G9 ⟨rfl,rfl⟩ h15
 have h15:Sep (zi a 2 2300 xP3::zm kb 2100 xB.dc::zi b 2 2100 xB.s1::WoA wb p0 p1 p2 kb a b::R) G9:=h15
 -- four more tries
 have hi1:zy Try.prog f_zz24 [.gp a 0,.int .i64 4,.list [.agg [.int .i64 0,.int .i64 1,.str [],.bool false]]] [zi a 2 2300 xP3] (fun r post=>r=.d (.int .i64 4)∧post=[zi a 2 2500 xP3]):=by
  have:=zin (sb:=a) (m:=2300) zfx (by omega) 4 [⟨0,1,[],false⟩] (by simp)
  unfold prepS at this
  rw [xP3_i,if_neg (by simp)] at this
  exact this
 have hj1:zy Try.prog f_zz24 [.gp a 0,.int .i64 4,.list [.agg [.int .i64 0,.int .i64 1,.str [],.bool true]]] [zi a 2 2500 xP3] (fun r post=>r=.d (.int .i64 4)∧post=[zi a 2 2700 xP3]):=by
  have:=zin (sb:=a) (m:=2500) zfx (by omega) 4 [⟨0,1,[],true⟩] (by simp)
  unfold prepS at this
  rw [xP3_j,if_neg (by simp)] at this
  exact this
 have hm1:zy Try.prog f_zz24 [.gp a 0,.int .i64 4,.list [.agg [.int .i64 1,.int .i64 0,.str [],.bool false]]] [zi a 2 2700 xP3] (fun r post=>r=.d (.int .i64 0)∧post=[zi a 2 2900 xP4]):=by
  have:=zin (sb:=a) (m:=2700) zfx (by omega) 4 [⟨1,0,[],false⟩] (by simp)
  rw [xP3_m] at this
  exact this
 have hn1:zy Try.prog f_zz24 [.gp a 0,.int .i64 4,.list [.agg [.int .i64 1,.int .i64 0,.str [],.bool false]]] [zi a 2 2900 xP4] (fun r post=>r=.d (.int .i64 9)∧post=[zi a 2 3100 xP4]):=by
  have:=zin (sb:=a) (m:=2900) zmw (by omega) 4 [⟨1,0,[],false⟩] (by simp)
  unfold prepS at this
  rw [xP4_n,if_neg (by simp)] at this
  exact this
 refine goS trivial ?_
 (refine goX trivial ?_;(repeat' (with_reducible apply Br.mk<;>intro _)))
 (refine goM (hi1) (h15) ?_)
 rintro _ _ G10 ⟨rfl,rfl⟩ h16
 have h16:Sep (zi a 2 2500 xP3::zm kb 2100 xB.dc::zi b 2 2100 xB.s1::WoA wb p0 p1 p2 kb a b::R) G10:=h16
 refine goS trivial ?_
 (refine goX trivial ?_;(repeat' (with_reducible apply Br.mk<;>intro _)))
 (refine goM (hj1) (h16) ?_)
 rintro _ _ G11 ⟨rfl,rfl⟩ h17
 have h17:Sep (zi a 2 2700 xP3::zm kb 2100 xB.dc::zi b 2 2100 xB.s1::WoA wb p0 p1 p2 kb a b::R) G11:=h17
 refine goS trivial ?_
 (refine goX trivial ?_;(repeat' (with_reducible apply Br.mk<;>intro _)))
 (refine goM (hm1) (h17) ?_)
 rintro _ _ G12 ⟨rfl,rfl⟩ h18
 have h18:Sep (zi a 2 2900 xP4::zm kb 2100 xB.dc::zi b 2 2100 xB.s1::WoA wb p0 p1 p2 kb a b::R) G12:=h18
 refine goS trivial ?_
 (refine goX trivial ?_;(repeat' (with_reducible apply Br.mk<;>intro _)))
 (refine goM (hn1) (h18) ?_)
 rintro _ _ G13 ⟨rfl,rfl⟩ h19
 have h19:Sep (zi a 2 3100 xP4::zm kb 2100 xB.dc::zi b 2 2100 xB.s1::WoA wb p0 p1 p2 kb a b::R) G13:=h19
 have h20:Sep (zm kb 2100 xB.dc::zi a 2 3100 xP4::zi b 2 2100 xB.s1::WoA wb p0 p1 p2 kb a b::R) G13:=h19.swap
 have hg20:=Sep.get (b:=wb) (cs:=[.gp p0 0,.gp p1 0,.gp p2 0,.gp kb 0,zcv a b]) h20.tail.tail.tail
 -- recorded, settled
 have hrec:=zoi kb 2100 xB.dc (by omega) qB 3
 rw [xD_e] at hrec
 refine goS trivial ?_
 (refine goX hg20 ?_;(repeat' (with_reducible apply Br.mk<;>intro _)))
 (refine goM (hrec) (h20) ?_)
 rintro _ _ G14 ⟨rfl,rfl⟩ h21
 have h21:Sep (zm kb 2106 xD::zi a 2 3100 xP4::zi b 2 2100 xB.s1::WoA wb p0 p1 p2 kb a b::R) G14:=h21
 have hg21:=Sep.get (b:=wb) (cs:=[.gp p0 0,.gp p1 0,.gp p2 0,.gp kb 0,zcv a b]) h21.tail.tail.tail
 have h22:=Sep.desk_mono (k:=3100) (by omega) h21
 have h23:=Sep.sit_mono (k:=3100) (by omega) (h22.perm pp:Sep (zi b 2 2100 xB.s1::zm kb 3100 xD::zi a 2 3100 xP4::WoA wb p0 p1 p2 kb a b::R) G14)
 have h24:Sep (zm kb 3100 xD::zi a 2 3100 xP4::zi b 2 3100 xB.s1::WoA wb p0 p1 p2 kb a b::R) G14:=h23.perm pp
 have zo5:=setGS kb a b 3100 xD xP4 xB.s1 (by omega) (qB.rec 3) zmw qB1
 rw [z5z,zv9] at zo5
 refine goS trivial ?_
 (refine goX hg21 ?_;(repeat' (with_reducible apply Br.mk<;>intro _)))
 (refine goM (zo5) (h24) ?_)
 rintro _ _ G15 ⟨rfl,rfl⟩ h25
 have h25:Sep (zm kb 5100 (rep 4)::zi a 2 5100 x5::zi b 2 5100 (zfw xD xB.s1)::WoA wb p0 p1 p2 kb a b::R) G15:=h25
 have hpe2:=zzc (sb:=a) (m:=5100) zp3 (by omega)
 rw [z1o] at hpe2
 refine goS trivial ?_
 (refine goX trivial ?_;(repeat' (with_reducible apply Br.mk<;>intro _)))
 (refine goM (hpe2) (h25.swap) ?_)
 rintro _ _ G16 ⟨y,rfl,rfl⟩ h26
 have h26:Sep (zi a 2 5100 x5::SlA 1 y (([]:List Int).map eI)::zm kb 5100 (rep 4)::zi b 2 5100 (zfw xD xB.s1)::WoA wb p0 p1 p2 kb a b::R) G16:=h26
 have hyl:=h26.tail.gv.len
 have hg26:=Sep.get (b:=wb) (cs:=[.gp p0 0,.gp p1 0,.gp p2 0,.gp kb 0,zcv a b]) h26.tail.tail.tail.tail
 have hou:=zfu kb 5100 (rep 4) (by omega) zp2 3
 rw [z1n,show zwg 3=0 from rfl] at hou
 have h27:Sep (zm kb 5100 (rep 4)::zi a 2 5100 x5::SlA 1 y (([]:List Int).map eI)::zi b 2 5100 (zfw xD xB.s1)::WoA wb p0 p1 p2 kb a b::R) G16:=h26.perm pp
 refine goS trivial ?_
 (refine goX hg26 ?_;(repeat' (with_reducible apply Br.mk<;>intro _)))
 (refine goM (hou) (h27) ?_)
 rintro _ _ G17 ⟨rfl,rfl⟩ h28
 have h28:Sep (zm kb 5100 (rep 4)::zi a 2 5100 x5::SlA 1 y (([]:List Int).map eI)::zi b 2 5100 (zfw xD xB.s1)::WoA wb p0 p1 p2 kb a b::R) G17:=h28
 have hh3:=z5s (sb:=a) (m:=5100) zp3 (by omega) 0 2 [99]
 rw [x5_g0,decide_eq_true rfl] at hh3
 have hh4:=z5s (sb:=a) (m:=5100) zp3 (by omega) 1 0 []
 rw [x5_g1,decide_eq_true rfl] at hh4
 refine goS trivial ?_
 (refine goX trivial ?_;(repeat' (with_reducible apply Br.mk<;>intro _)))
 (refine goM (hh3) (h28.swap) ?_)
 rintro _ _ G18 ⟨rfl,rfl⟩ h29
 refine goS trivial ?_
 (refine goX trivial ?_;(repeat' (with_reducible apply Br.mk<;>intro _)))
 (refine goM (hh4) (h29) ?_)
 rintro _ _ G19 ⟨rfl,rfl⟩ h30
 have h30:Sep (zi a 2 5100 x5::zm kb 5100 (rep 4)::SlA 1 y (([]:List Int).map eI)::zi b 2 5100 (zfw xD xB.s1)::WoA wb p0 p1 p2 kb a b::R) G19:=h30
 refine goS trivial ?_
 (refine goX hyl ?_;(repeat' (with_reducible apply Br.mk<;>intro _)))
 exact Fin.eq rfl ⟨rfl,_,⟨rfl,rfl⟩,h30.tail.tail.tail.tail.tail⟩
end Go.Proofs.Ytlejjdbmmdghmaa
