/-
 Layer 40 (txn): Settle.
 Conditions: of each contract as it says.
-/
import Derived.Test.YtlejjdbmmdghmaaY3
import Derived.Test.YtlejjdbmmdghmaaX14
import Derived.Test.YtlejjdbmmdghmaaX13
set_option linter.unusedSimpArgs false
namespace Go.Proofs.Ytlejjdbmmdghmaa
open Go Go.E2 C22 C40
set_option maxHeartbeats 4000000
theorem zvv (kb a b:Nat) (m:Int) (dc:List Str) (S0 S1:SS) (V0 V1:List Vl) (hm:m≤300000000) (hd:DOk dc) (g0:zcz 2 S0 V0) (g1:zcz 2 S1 V1) :
 zy Try.prog f_zz54 [.gp kb 0,zcv a b] [zm kb m dc,zi a 2 m S0,zi b 2 m S1]
  (fun r post=>r=.d (.int .i64 0)∧post=[zm kb (m+2000) (rep dc.length),zi a 2 (m+2000) (zfw dc S0),zi b 2 (m+2000) (zfw dc S1)]):=by
 refine zf fol zz54_cp fun R G σ hs=>?_
 have hs:Sep (zm kb m dc::zi a 2 m S0::zi b 2 m S1::R) G:=hs
 refine goS trivial ?_
 refine goR trivial ?_
 refine W.loop (fun z st=>∃ (i:Nat) (U0 U1:SS) (k0 k1:Int) (G:Gh),z+i=2∧(i=0∧U0=S0∧U1=S1∧k0≤m∧k1≤m∨i=1∧U0=zfw dc S0∧U1=S1∧k0≤m+1600∧k1≤m∨i=2∧U0=zfw dc S0∧U1=zfw dc S1∧k0≤m+1600∧k1≤m+1600) ∧
  Sep (zm kb m dc::zi a 2 k0 U0::zi b 2 k1 U1::R) G ∧
  st=(E [(0,.d (.gp kb 0)),(18,.d (zcv a b)),(19,.d (.int .i64 2)),(20,.d (.int .i64 (i:Nat)))],HB [],σ,G))
  ⟨2,_,zca,0,S0,S1,m,m,G,rfl,.inl ⟨rfl,rfl,rfl,by omega,by omega⟩,hs,rfl⟩ ?_
 rintro z st ⟨i,U0,U1,k0,k1,G1,hi,hU,h1,rfl⟩
 rcases hU with ⟨rfl,rfl,rfl,b0,b1⟩|⟨rfl,rfl,rfl,b0,b1⟩|⟨rfl,rfl,rfl,b0,b1⟩
 · -- the first site
   have hw4:=g0.len4
   have hpend:=zh8 a 2 k0 U0.1 U0.2 g0.shp (by omega) (by omega)
   have hpo:=g0.pendOk
   have hpl:=zol U0.2
   have hgl:=fun l=>zcz.setL dc l g0
   have hS:zfw dc U0=setL dc (zer U0.2) U0:=rfl
   generalize zer U0.2=pl at hpend hpo hpl hS
   have h2:Sep (zi a 2 k0 U0::zm kb m dc::zi b 2 k1 U1::R) G1:=h1.perm pp
   refine goR trivial ?_
   (refine goM (hpend) (h2) ?_)
   rintro _ _ G2 ⟨x,rfl,rfl⟩ h3
   have h3:Sep (zi a 2 k0 U0::SlA 1 x (pl.map eI)::zm kb m dc::zi b 2 k1 U1::R) G2:=h3
   have hxl:=h3.tail.gv.len
   rw [List.length_map] at hxl
   refine goS trivial ?_
   (refine goX hxl ?_;(repeat' (with_reducible apply Br.mk<;>intro _)))
   refine W.loop (fun z st=>∃ (t:Nat) (k:Int) (G:Gh),z+t=pl.length∧k≤k0+400 * t∧Sep (SlA 1 x (pl.map eI)::zi a 2 k (setL dc (pl.take t) U0)::zm kb m dc::zi b 2 k1 U1::R) G ∧
    st=(E [(0,.d (.gp kb 0)),(6,.d (.gp a 0)),(18,.d (zcv a b)),(19,.d (.int .i64 2)),(20,.d (.int .i64 0)),(32,.d x),(33,.d (.int .i64 (pl.length:Nat))),(34,.d (.int .i64 (t:Nat)))],HB [],σ,G))
    ⟨_,_,zca,0,k0,G2,rfl,by omega,h3.swap,rfl⟩ ?_
   rintro z1 st ⟨t,k,G3,ht,hk,h4,rfl⟩
   by_cases htl:t<pl.length
   · have hlt':(t:Int)<(pl.length:Int):=by omega
     have hok:=hpo _ (List.getElem_mem htl)
     have htk:pl.take (t+1)=pl.take t++[pl[t]]:=by rw [List.take_add_one,List.getElem?_eq_getElem htl];rfl
     have hst:setL dc (pl.take (t+1)) U0=zdo pl[t] (zki dc pl[t]) (setL dc (pl.take t) U0):=by rw [htk,zmu];rfl
     obtain ⟨V',g'⟩:=hgl (pl.take t)
     have hv:=h4.gv
     obtain ⟨bx,capx,csx,hx,hbx,hrx⟩:=hv.inv (by intro e;rw [List.map_eq_nil_iff] at e;rw [e] at htl;simp at htl)
     rw [List.length_map] at hx hrx
     have hldx:=hrx.fld (i:=t) (j:=0) (by simpa using htl) (by omega)
     rw [List.getElem_map] at hldx
     generalize pl[t]=id at hok hst hldx
     generalize setL dc (pl.take t) U0=T at h4 hst g'
     simp only [D.cells,List.getElem?_cons_zero,Option.map_some,Nat.mul_one,Nat.add_zero] at hldx
     have hout:zwg id=0:=if_pos hok
     have hde:zs4 id=0:=by rw [zmr,if_pos hok]
     have ho:=zfu kb m dc (by omega) hd id
     have hdec:=z1k (sb:=a) g' (m:=k) (by omega) id (zki dc id)
     rw [hout] at ho
     rw [hde,← hst] at hdec
     have h5:Sep (zm kb m dc::SlA 1 x (pl.map eI)::zi a 2 k T::zi b 2 k1 U1::R) G3:=h4.perm pp
     subst hx
     (refine goX (nn hlt' (nn hldx (nn hbx (nn @Nat.mul_one @Int.toNat_natCast)))) ?_;(repeat' (with_reducible apply Br.mk<;>intro _)))
     (refine goM (ho) (h5) ?_)
     rintro _ _ G4 ⟨rfl,rfl⟩ h6
     have h6:Sep (zm kb m dc::SlA 1 (.gs bx 0 pl.length capx) (pl.map eI)::zi a 2 k T::zi b 2 k1 U1::R) G4:=h6
     have h7:Sep (zi a 2 k T::SlA 1 (.gs bx 0 pl.length capx) (pl.map eI)::zm kb m dc::zi b 2 k1 U1::R) G4:=h6.perm pp
     refine goS trivial ?_
     (refine goX trivial ?_;(repeat' (with_reducible apply Br.mk<;>intro _)))
     (refine goM (hdec) (h7) ?_)
     rintro _ _ G5 ⟨rfl,rfl⟩ h8
     have h8:Sep (zi a 2 (k+400) (setL dc (pl.take (t+1)) U0)::SlA 1 (.gs bx 0 pl.length capx) (pl.map eI)::zm kb m dc::zi b 2 k1 U1::R) G5:=h8
     refine goS trivial ?_
     (refine goX trivial ?_;(repeat' (with_reducible apply Br.mk<;>intro _)))
     exact ⟨z1 - 1,_,by omega,zca,t+1,k+400,G5,by omega,by omega,h8.swap,rfl⟩
   · have hte:t=pl.length:=by omega
     rw [hte,List.take_length,← hS] at h4
     have hx:((t:Int)<(pl.length:Int))=False:=eq_false (by omega)
     have h5:Sep (zm kb m dc::zi a 2 k (zfw dc U0)::zi b 2 k1 U1::R) G3:=h4.tail.perm pp
     (refine goX hx ?_;(repeat' (with_reducible apply Br.mk<;>intro _)))
     exact ⟨z - 1,_,by omega,zca,1,_,_,k,k1,G3,by omega,.inr (.inl ⟨rfl,rfl,rfl,by omega,by omega⟩),h5,rfl⟩
 · -- the second site
   generalize zfw dc S0=U0 at h1 ⊢
   have hw4:=g1.len4
   have hpend:=zh8 b 2 k1 U1.1 U1.2 g1.shp (by omega) (by omega)
   have hpo:=g1.pendOk
   have hpl:=zol U1.2
   have hgl:=fun l=>zcz.setL dc l g1
   have hS:zfw dc U1=setL dc (zer U1.2) U1:=rfl
   generalize zer U1.2=pl at hpend hpo hpl hS
   have h2:Sep (zi b 2 k1 U1::zm kb m dc::zi a 2 k0 U0::R) G1:=h1.perm pp
   refine goR trivial ?_
   (refine goM (hpend) (h2) ?_)
   rintro _ _ G2 ⟨x,rfl,rfl⟩ h3
   have h3:Sep (zi b 2 k1 U1::SlA 1 x (pl.map eI)::zm kb m dc::zi a 2 k0 U0::R) G2:=h3
   have hxl:=h3.tail.gv.len
   rw [List.length_map] at hxl
   refine goS trivial ?_
   (refine goX hxl ?_;(repeat' (with_reducible apply Br.mk<;>intro _)))
   refine W.loop (fun z st=>∃ (t:Nat) (k:Int) (G:Gh),z+t=pl.length∧k≤k1+400 * t∧Sep (SlA 1 x (pl.map eI)::zi b 2 k (setL dc (pl.take t) U1)::zm kb m dc::zi a 2 k0 U0::R) G ∧
    st=(E [(0,.d (.gp kb 0)),(6,.d (.gp b 0)),(18,.d (zcv a b)),(19,.d (.int .i64 2)),(20,.d (.int .i64 1)),(32,.d x),(33,.d (.int .i64 (pl.length:Nat))),(34,.d (.int .i64 (t:Nat)))],HB [],σ,G))
    ⟨_,_,zca,0,k1,G2,rfl,by omega,h3.swap,rfl⟩ ?_
   rintro z1 st ⟨t,k,G3,ht,hk,h4,rfl⟩
   by_cases htl:t<pl.length
   · have hlt':(t:Int)<(pl.length:Int):=by omega
     have hok:=hpo _ (List.getElem_mem htl)
     have htk:pl.take (t+1)=pl.take t++[pl[t]]:=by rw [List.take_add_one,List.getElem?_eq_getElem htl];rfl
     have hst:setL dc (pl.take (t+1)) U1=zdo pl[t] (zki dc pl[t]) (setL dc (pl.take t) U1):=by rw [htk,zmu];rfl
     obtain ⟨V',g'⟩:=hgl (pl.take t)
     have hv:=h4.gv
     obtain ⟨bx,capx,csx,hx,hbx,hrx⟩:=hv.inv (by intro e;rw [List.map_eq_nil_iff] at e;rw [e] at htl;simp at htl)
     rw [List.length_map] at hx hrx
     have hldx:=hrx.fld (i:=t) (j:=0) (by simpa using htl) (by omega)
     rw [List.getElem_map] at hldx
     generalize pl[t]=id at hok hst hldx
     generalize setL dc (pl.take t) U1=T at h4 hst g'
     simp only [D.cells,List.getElem?_cons_zero,Option.map_some,Nat.mul_one,Nat.add_zero] at hldx
     have hout:zwg id=0:=if_pos hok
     have hde:zs4 id=0:=by rw [zmr,if_pos hok]
     have ho:=zfu kb m dc (by omega) hd id
     have hdec:=z1k (sb:=b) g' (m:=k) (by omega) id (zki dc id)
     rw [hout] at ho
     rw [hde,← hst] at hdec
     have h5:Sep (zm kb m dc::SlA 1 x (pl.map eI)::zi b 2 k T::zi a 2 k0 U0::R) G3:=h4.perm pp
     subst hx
     (refine goX (nn hlt' (nn hldx (nn hbx (nn @Nat.mul_one @Int.toNat_natCast)))) ?_;(repeat' (with_reducible apply Br.mk<;>intro _)))
     (refine goM (ho) (h5) ?_)
     rintro _ _ G4 ⟨rfl,rfl⟩ h6
     have h6:Sep (zm kb m dc::SlA 1 (.gs bx 0 pl.length capx) (pl.map eI)::zi b 2 k T::zi a 2 k0 U0::R) G4:=h6
     have h7:Sep (zi b 2 k T::SlA 1 (.gs bx 0 pl.length capx) (pl.map eI)::zm kb m dc::zi a 2 k0 U0::R) G4:=h6.perm pp
     refine goS trivial ?_
     (refine goX trivial ?_;(repeat' (with_reducible apply Br.mk<;>intro _)))
     (refine goM (hdec) (h7) ?_)
     rintro _ _ G5 ⟨rfl,rfl⟩ h8
     have h8:Sep (zi b 2 (k+400) (setL dc (pl.take (t+1)) U1)::SlA 1 (.gs bx 0 pl.length capx) (pl.map eI)::zm kb m dc::zi a 2 k0 U0::R) G5:=h8
     refine goS trivial ?_
     (refine goX trivial ?_;(repeat' (with_reducible apply Br.mk<;>intro _)))
     exact ⟨z1 - 1,_,by omega,zca,t+1,k+400,G5,by omega,by omega,h8.swap,rfl⟩
   · have hte:t=pl.length:=by omega
     rw [hte,List.take_length,← hS] at h4
     have hx:((t:Int)<(pl.length:Int))=False:=eq_false (by omega)
     have h5:Sep (zm kb m dc::zi a 2 k0 U0::zi b 2 k (zfw dc U1)::R) G3:=h4.tail.perm pp
     (refine goX hx ?_;(repeat' (with_reducible apply Br.mk<;>intro _)))
     exact ⟨z - 1,_,by omega,zca,2,_,_,k0,k,G3,by omega,.inr (.inr ⟨rfl,rfl,rfl,by omega,by omega⟩),h5,rfl⟩
 · -- the desk
   obtain ⟨q,h2⟩:=Sep.desk h1
   have hg2:=Sep.get (b:=kb) (cs:=[eSt q,.int .i64 dc.length]) h2
   have h100:=hd.1
   refine goR hg2 ?_
   refine W.loop (fun z st=>∃ (i:Nat) (G:Gh),z+i=dc.length∧Sep (zaw q (m+6 * i) (zom i dc)::DkC kb q dc.length::zi a 2 k0 (zfw dc S0)::zi b 2 k1 (zfw dc S1)::R) G ∧
    st=(E [(0,.d (.gp kb 0)),(59,.d (.int .i64 (dc.length:Nat))),(60,.d (.int .i64 (i:Nat)))],HB [],σ,G))
    ⟨dc.length,_,zca,0,G1,rfl,Sep.slt_mono (by omega) h2.swap,rfl⟩ ?_
   rintro z st ⟨i,G3,hi,h3,rfl⟩
   have hg3:=Sep.get (b:=kb) (cs:=[eSt q,.int .i64 dc.length]) h3.tail
   by_cases hlt:i<dc.length
   case neg =>
    have hie:i=dc.length:=by omega
    subst hie
    have hx:((dc.length:Int)<(dc.length:Int))=False:=eq_false (by omega)
    rw [zye] at h3
    have hrl:(rep dc.length).length=dc.length:=by simp [rep]
    have h4:Sep (zm kb (m+6 * (dc.length:Int)) (rep dc.length)::zi a 2 k0 (zfw dc S0)::zi b 2 k1 (zfw dc S1)::R) G3:=Sep.of_desk (q:=q) (by rw [hrl];exact h3.swap)
    have h5:=Sep.desk_mono (k:=m+2000) (by omega) h4
    have h6:=Sep.sit_mono (k:=m+2000) (by omega) (h5.perm pp:Sep (zi a 2 k0 (zfw dc S0)::zm kb (m+2000) (rep dc.length)::zi b 2 k1 (zfw dc S1)::R) G3)
    have h7:=Sep.sit_mono (k:=m+2000) (by omega) (h6.perm pp:Sep (zi b 2 k1 (zfw dc S1)::zm kb (m+2000) (rep dc.length)::zi a 2 (m+2000) (zfw dc S0)::R) G3)
    have h8:Sep (zm kb (m+2000) (rep dc.length)::zi a 2 (m+2000) (zfw dc S0)::zi b 2 (m+2000) (zfw dc S1)::R) G3:=h7.perm pp
    (refine goX hx ?_;(repeat' (with_reducible apply Br.mk<;>intro _)))
    exact Fin.eq rfl ⟨rfl,_,⟨rfl,rfl⟩,h8⟩
   have hlt':(i:Int)<(dc.length:Int):=by omega
   have hb:=hd.2 _ (List.getElem_mem hlt)
   have hcl:=zrp (i:=i) (c:=dc) (by omega)
   have hat:=z1m hlt
   have hread:=zgl q (m+6 * i) (zom i dc) (by omega) i (by omega) (by rw [hat];rcases hb with h|h<;>rw [h]<;>simp) 6
   rw [hat] at hread
   have zo5:=zyd hlt
   have hsame:=zv8 hlt
   generalize dc[i]=v at hb hread hsame
   rw [zrj (by rcases hb with h|h<;>first|exact .inl h|(right;omega))] at hread
   (refine goX (nn hlt' hg3) ?_;(repeat' (with_reducible apply Br.mk<;>intro _)))
   (refine goM (hread) (h3) ?_)
   rintro _ _ G4 ⟨rfl,rfl⟩ h4
   have h4:Sep (zaw q (m+6 * i) (zom i dc)::DkC kb q dc.length::zi a 2 k0 (zfw dc S0)::zi b 2 k1 (zfw dc S1)::R) G4:=h4
   by_cases hv:v=[]
   · subst hv
     rw [hsame rfl] at h4
     refine goS trivial ?_
     (refine goX trivial ?_;(repeat' (with_reducible apply Br.mk<;>intro _)))
     exact ⟨z - 1,_,by omega,zca,i+1,G4,by omega,Sep.slt_mono (by omega) h4,rfl⟩
   · have hg4:=Sep.get (b:=kb) (cs:=[eSt q,.int .i64 dc.length]) h4.tail
     refine goS hv ?_
     (refine goX (nn hv hg4) ?_;(repeat' (with_reducible apply Br.mk<;>intro _)))
     (refine goI (zfs q (m+6 * i) (zom i dc) (by omega) i (by omega)) (h4) ?_)
     rintro _ _ G5 ⟨rfl,rfl⟩ h5
     rw [zo5] at h5
     have h5:Sep (zaw q (m+6 * i+6) (zom (i+1) dc)::DkC kb q dc.length::zi a 2 k0 (zfw dc S0)::zi b 2 k1 (zfw dc S1)::R) G5:=h5
     refine goS trivial ?_
     (refine goX trivial ?_;(repeat' (with_reducible apply Br.mk<;>intro _)))
     exact ⟨z - 1,_,by omega,zca,i+1,G5,by omega,Sep.slt_mono (by omega) h5,rfl⟩
end Go.Proofs.Ytlejjdbmmdghmaa
