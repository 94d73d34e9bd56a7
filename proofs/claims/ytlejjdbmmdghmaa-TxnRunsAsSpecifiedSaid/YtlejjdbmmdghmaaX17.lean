/-
 Layer 40 (txn): Settle.
 Conditions: of each contract as it says.
-/
import Derived.Test.YtlejjdbmmdghmaaQ5
import Derived.Test.YtlejjdbmmdghmaaX12
import Derived.Test.YtlejjdbmmdghmaaY5
set_option linter.unusedSimpArgs false
namespace Go.Proofs.Ytlejjdbmmdghmaa
open Go Go.E2 C22 C40
set_option maxHeartbeats 4000000
theorem zwj (kb a b:Nat) (m:Int) (dc:List Str) (S0 S1:SS) (V0 V1:List Vl) (hm:m≤300000000) (hd:DOk dc) (g0:zc1 2 S0 V0) (g1:zc1 2 S1 V1) :
 zy Try.prog f_zz65 [.gp kb 0,zau a b] [zi kb m dc,zj a 2 m S0,zj b 2 m S1]
  (fun r post=>r=.d (.int .i64 0)∧post=[zi kb (m+2000) (rep dc.length),zj a 2 (m+2000) (zex dc S0),zj b 2 (m+2000) (zex dc S1)]):=by
 refine zg fol zz65_cp fun R G σ hs=>?_
 have hs:Sep (zi kb m dc::zj a 2 m S0::zj b 2 m S1::R) G:=hs
 refine goS trivial ?_
 refine goR trivial ?_
 refine W.loop (fun z st=>∃ (i:Nat) (U0 U1:SS) (k0 k1:Int) (G:Gh),z+i=2∧(i=0∧U0=S0∧U1=S1∧k0≤m∧k1≤m∨i=1∧U0=zex dc S0∧U1=S1∧k0≤m+1600∧k1≤m∨i=2∧U0=zex dc S0∧U1=zex dc S1∧k0≤m+1600∧k1≤m+1600) ∧
  Sep (zi kb m dc::zj a 2 k0 U0::zj b 2 k1 U1::R) G ∧
  st=(E [(0,.d (.gp kb 0)),(18,.d (zau a b)),(19,.d (.int .i64 2)),(20,.d (.int .i64 (i:Nat)))],HB [],σ,G))
  ⟨2,_,zb7,0,S0,S1,m,m,G,rfl,.inl ⟨rfl,rfl,rfl,by omega,by omega⟩,hs,rfl⟩ ?_
 rintro z st ⟨i,U0,U1,k0,k1,G1,hi,hU,h1,rfl⟩
 rcases hU with ⟨rfl,rfl,rfl,b0,b1⟩|⟨rfl,rfl,rfl,b0,b1⟩|⟨rfl,rfl,rfl,b0,b1⟩
 · -- the first site
   have hw4:=g0.len4
   have hpend:=zf1 a 2 k0 U0.1 U0.2 g0.shp (by omega) (by omega)
   have hpo:=g0.pendOk
   have hpl:=zol U0.2
   have hgl:=fun l=>zc1.setL dc l g0
   have hS:zex dc U0=setL dc (zd5 U0.2) U0:=rfl
   generalize zd5 U0.2=pl at hpend hpo hpl hS
   have h2:Sep (zj a 2 k0 U0::zi kb m dc::zj b 2 k1 U1::R) G1:=h1.perm pp
   refine goR trivial ?_
   (refine goM (hpend) (h2) ?_)
   rintro _ _ G2 ⟨x,rfl,rfl⟩ h3
   have h3:Sep (zj a 2 k0 U0::SlA 1 x (pl.map eI)::zi kb m dc::zj b 2 k1 U1::R) G2:=h3
   have hxl:=h3.tail.gv.len
   rw [List.length_map] at hxl
   refine goS trivial ?_
   (refine goX hxl ?_;(repeat' (with_reducible apply Br.mk<;>intro _)))
   refine W.loop (fun z st=>∃ (t:Nat) (k:Int) (G:Gh),z+t=pl.length∧k≤k0+400 * t∧Sep (SlA 1 x (pl.map eI)::zj a 2 k (setL dc (pl.take t) U0)::zi kb m dc::zj b 2 k1 U1::R) G ∧
    st=(E [(0,.d (.gp kb 0)),(6,.d (.gp a 0)),(18,.d (zau a b)),(19,.d (.int .i64 2)),(20,.d (.int .i64 0)),(32,.d x),(33,.d (.int .i64 (pl.length:Nat))),(34,.d (.int .i64 (t:Nat)))],HB [],σ,G))
    ⟨_,_,zb7,0,k0,G2,rfl,by omega,h3.swap,rfl⟩ ?_
   rintro z1 st ⟨t,k,G3,ht,hk,h4,rfl⟩
   by_cases htl:t<pl.length
   · have hlt':(t:Int)<(pl.length:Int):=by omega
     have hok:=hpo _ (List.getElem_mem htl)
     have htk:pl.take (t+1)=pl.take t++[pl[t]]:=by rw [List.take_add_one,List.getElem?_eq_getElem htl];rfl
     have hst:setL dc (pl.take (t+1)) U0=zfl pl[t] (zix dc pl[t]) (setL dc (pl.take t) U0):=by rw [htk,zmu];rfl
     obtain ⟨V',g'⟩:=hgl (pl.take t)
     have hv:=h4.gv
     obtain ⟨bx,capx,csx,hx,hbx,hrx⟩:=hv.inv (by intro e;rw [List.map_eq_nil_iff] at e;rw [e] at htl;simp at htl)
     rw [List.length_map] at hx hrx
     have hldx:=hrx.fld (i:=t) (j:=0) (by simpa using htl) (by omega)
     rw [List.getElem_map] at hldx
     generalize pl[t]=id at hok hst hldx
     generalize setL dc (pl.take t) U0=T at h4 hst g'
     simp only [D.cells,List.getElem?_cons_zero,Option.map_some,Nat.mul_one,Nat.add_zero] at hldx
     have hout:zr6 id=0:=if_pos hok
     have hde:zwt id=0:=by rw [zp6,if_pos hok]
     have ho:=zef kb m dc (by omega) hd id
     have hdec:=z5r (sb:=a) g' (m:=k) (by omega) id (zix dc id)
     rw [hout] at ho
     rw [hde,← hst] at hdec
     have h5:Sep (zi kb m dc::SlA 1 x (pl.map eI)::zj a 2 k T::zj b 2 k1 U1::R) G3:=h4.perm pp
     subst hx
     (refine goX (nn hlt' (nn hldx (nn hbx (nn @Nat.mul_one @Int.toNat_natCast)))) ?_;(repeat' (with_reducible apply Br.mk<;>intro _)))
     (refine goM (ho) (h5) ?_)
     rintro _ _ G4 ⟨rfl,rfl⟩ h6
     have h6:Sep (zi kb m dc::SlA 1 (.gs bx 0 pl.length capx) (pl.map eI)::zj a 2 k T::zj b 2 k1 U1::R) G4:=h6
     have h7:Sep (zj a 2 k T::SlA 1 (.gs bx 0 pl.length capx) (pl.map eI)::zi kb m dc::zj b 2 k1 U1::R) G4:=h6.perm pp
     refine goS trivial ?_
     (refine goX trivial ?_;(repeat' (with_reducible apply Br.mk<;>intro _)))
     (refine goM (hdec) (h7) ?_)
     rintro _ _ G5 ⟨rfl,rfl⟩ h8
     have h8:Sep (zj a 2 (k+400) (setL dc (pl.take (t+1)) U0)::SlA 1 (.gs bx 0 pl.length capx) (pl.map eI)::zi kb m dc::zj b 2 k1 U1::R) G5:=h8
     refine goS trivial ?_
     (refine goX trivial ?_;(repeat' (with_reducible apply Br.mk<;>intro _)))
     exact ⟨z1 - 1,_,by omega,zb7,t+1,k+400,G5,by omega,by omega,h8.swap,rfl⟩
   · have hte:t=pl.length:=by omega
     rw [hte,List.take_length,← hS] at h4
     have hx:((t:Int)<(pl.length:Int))=False:=eq_false (by omega)
     have h5:Sep (zi kb m dc::zj a 2 k (zex dc U0)::zj b 2 k1 U1::R) G3:=h4.tail.perm pp
     (refine goX hx ?_;(repeat' (with_reducible apply Br.mk<;>intro _)))
     exact ⟨z - 1,_,by omega,zb7,1,_,_,k,k1,G3,by omega,.inr (.inl ⟨rfl,rfl,rfl,by omega,by omega⟩),h5,rfl⟩
 · -- the second site
   generalize zex dc S0=U0 at h1 ⊢
   have hw4:=g1.len4
   have hpend:=zf1 b 2 k1 U1.1 U1.2 g1.shp (by omega) (by omega)
   have hpo:=g1.pendOk
   have hpl:=zol U1.2
   have hgl:=fun l=>zc1.setL dc l g1
   have hS:zex dc U1=setL dc (zd5 U1.2) U1:=rfl
   generalize zd5 U1.2=pl at hpend hpo hpl hS
   have h2:Sep (zj b 2 k1 U1::zi kb m dc::zj a 2 k0 U0::R) G1:=h1.perm pp
   refine goR trivial ?_
   (refine goM (hpend) (h2) ?_)
   rintro _ _ G2 ⟨x,rfl,rfl⟩ h3
   have h3:Sep (zj b 2 k1 U1::SlA 1 x (pl.map eI)::zi kb m dc::zj a 2 k0 U0::R) G2:=h3
   have hxl:=h3.tail.gv.len
   rw [List.length_map] at hxl
   refine goS trivial ?_
   (refine goX hxl ?_;(repeat' (with_reducible apply Br.mk<;>intro _)))
   refine W.loop (fun z st=>∃ (t:Nat) (k:Int) (G:Gh),z+t=pl.length∧k≤k1+400 * t∧Sep (SlA 1 x (pl.map eI)::zj b 2 k (setL dc (pl.take t) U1)::zi kb m dc::zj a 2 k0 U0::R) G ∧
    st=(E [(0,.d (.gp kb 0)),(6,.d (.gp b 0)),(18,.d (zau a b)),(19,.d (.int .i64 2)),(20,.d (.int .i64 1)),(32,.d x),(33,.d (.int .i64 (pl.length:Nat))),(34,.d (.int .i64 (t:Nat)))],HB [],σ,G))
    ⟨_,_,zb7,0,k1,G2,rfl,by omega,h3.swap,rfl⟩ ?_
   rintro z1 st ⟨t,k,G3,ht,hk,h4,rfl⟩
   by_cases htl:t<pl.length
   · have hlt':(t:Int)<(pl.length:Int):=by omega
     have hok:=hpo _ (List.getElem_mem htl)
     have htk:pl.take (t+1)=pl.take t++[pl[t]]:=by rw [List.take_add_one,List.getElem?_eq_getElem htl];rfl
     have hst:setL dc (pl.take (t+1)) U1=zfl pl[t] (zix dc pl[t]) (setL dc (pl.take t) U1):=by rw [htk,zmu];rfl
     obtain ⟨V',g'⟩:=hgl (pl.take t)
     have hv:=h4.gv
     obtain ⟨bx,capx,csx,hx,hbx,hrx⟩:=hv.inv (by intro e;rw [List.map_eq_nil_iff] at e;rw [e] at htl;simp at htl)
     rw [List.length_map] at hx hrx
     have hldx:=hrx.fld (i:=t) (j:=0) (by simpa using htl) (by omega)
     rw [List.getElem_map] at hldx
     generalize pl[t]=id at hok hst hldx
     generalize setL dc (pl.take t) U1=T at h4 hst g'
     simp only [D.cells,List.getElem?_cons_zero,Option.map_some,Nat.mul_one,Nat.add_zero] at hldx
     have hout:zr6 id=0:=if_pos hok
     have hde:zwt id=0:=by rw [zp6,if_pos hok]
     have ho:=zef kb m dc (by omega) hd id
     have hdec:=z5r (sb:=b) g' (m:=k) (by omega) id (zix dc id)
     rw [hout] at ho
     rw [hde,← hst] at hdec
     have h5:Sep (zi kb m dc::SlA 1 x (pl.map eI)::zj b 2 k T::zj a 2 k0 U0::R) G3:=h4.perm pp
     subst hx
     (refine goX (nn hlt' (nn hldx (nn hbx (nn @Nat.mul_one @Int.toNat_natCast)))) ?_;(repeat' (with_reducible apply Br.mk<;>intro _)))
     (refine goM (ho) (h5) ?_)
     rintro _ _ G4 ⟨rfl,rfl⟩ h6
     have h6:Sep (zi kb m dc::SlA 1 (.gs bx 0 pl.length capx) (pl.map eI)::zj b 2 k T::zj a 2 k0 U0::R) G4:=h6
     have h7:Sep (zj b 2 k T::SlA 1 (.gs bx 0 pl.length capx) (pl.map eI)::zi kb m dc::zj a 2 k0 U0::R) G4:=h6.perm pp
     refine goS trivial ?_
     (refine goX trivial ?_;(repeat' (with_reducible apply Br.mk<;>intro _)))
     (refine goM (hdec) (h7) ?_)
     rintro _ _ G5 ⟨rfl,rfl⟩ h8
     have h8:Sep (zj b 2 (k+400) (setL dc (pl.take (t+1)) U1)::SlA 1 (.gs bx 0 pl.length capx) (pl.map eI)::zi kb m dc::zj a 2 k0 U0::R) G5:=h8
     refine goS trivial ?_
     (refine goX trivial ?_;(repeat' (with_reducible apply Br.mk<;>intro _)))
     exact ⟨z1 - 1,_,by omega,zb7,t+1,k+400,G5,by omega,by omega,h8.swap,rfl⟩
   · have hte:t=pl.length:=by omega
     rw [hte,List.take_length,← hS] at h4
     have hx:((t:Int)<(pl.length:Int))=False:=eq_false (by omega)
     have h5:Sep (zi kb m dc::zj a 2 k0 U0::zj b 2 k (zex dc U1)::R) G3:=h4.tail.perm pp
     (refine goX hx ?_;(repeat' (with_reducible apply Br.mk<;>intro _)))
     exact ⟨z - 1,_,by omega,zb7,2,_,_,k0,k,G3,by omega,.inr (.inr ⟨rfl,rfl,rfl,by omega,by omega⟩),h5,rfl⟩
 · -- the desk
   obtain ⟨q,h2⟩:=Sep.desk h1
   have hg2:=Sep.get (b:=kb) (cs:=[eSt q,.int .i64 dc.length]) h2
   have h100:=hd.1
   refine goR hg2 ?_
   refine W.loop (fun z st=>∃ (i:Nat) (G:Gh),z+i=dc.length∧Sep (zaw q (m+6 * i) (zom i dc)::DkC kb q dc.length::zj a 2 k0 (zex dc S0)::zj b 2 k1 (zex dc S1)::R) G ∧
    st=(E [(0,.d (.gp kb 0)),(59,.d (.int .i64 (dc.length:Nat))),(60,.d (.int .i64 (i:Nat)))],HB [],σ,G))
    ⟨dc.length,_,zb7,0,G1,rfl,Sep.slt_mono (by omega) h2.swap,rfl⟩ ?_
   rintro z st ⟨i,G3,hi,h3,rfl⟩
   have hg3:=Sep.get (b:=kb) (cs:=[eSt q,.int .i64 dc.length]) h3.tail
   by_cases hlt:i<dc.length
   case neg =>
    have hie:i=dc.length:=by omega
    subst hie
    have hx:((dc.length:Int)<(dc.length:Int))=False:=eq_false (by omega)
    rw [zyq] at h3
    have hrl:(rep dc.length).length=dc.length:=by simp [rep]
    have h4:Sep (zi kb (m+6 * (dc.length:Int)) (rep dc.length)::zj a 2 k0 (zex dc S0)::zj b 2 k1 (zex dc S1)::R) G3:=Sep.of_desk (q:=q) (by rw [hrl];exact h3.swap)
    have h5:=Sep.desk_mono (k:=m+2000) (by omega) h4
    have h6:=Sep.sit_mono (k:=m+2000) (by omega) (h5.perm pp:Sep (zj a 2 k0 (zex dc S0)::zi kb (m+2000) (rep dc.length)::zj b 2 k1 (zex dc S1)::R) G3)
    have h7:=Sep.sit_mono (k:=m+2000) (by omega) (h6.perm pp:Sep (zj b 2 k1 (zex dc S1)::zi kb (m+2000) (rep dc.length)::zj a 2 (m+2000) (zex dc S0)::R) G3)
    have h8:Sep (zi kb (m+2000) (rep dc.length)::zj a 2 (m+2000) (zex dc S0)::zj b 2 (m+2000) (zex dc S1)::R) G3:=h7.perm pp
    (refine goX hx ?_;(repeat' (with_reducible apply Br.mk<;>intro _)))
    exact Fin.eq rfl ⟨rfl,_,⟨rfl,rfl⟩,h8⟩
   have hlt':(i:Int)<(dc.length:Int):=by omega
   have hb:=hd.2 _ (List.getElem_mem hlt)
   have hcl:=zrt (i:=i) (c:=dc) (by omega)
   have hat:=z1q hlt
   have hread:=zgq q (m+6 * i) (zom i dc) (by omega) i (by omega) (by rw [hat];rcases hb with h|h<;>rw [h]<;>simp) 6
   rw [hat] at hread
   have zey:=zyp hlt
   have hsame:=zv2 hlt
   generalize dc[i]=v at hb hread hsame
   rw [zr5 (by rcases hb with h|h<;>first|exact .inl h|(right;omega))] at hread
   (refine goX (nn hlt' hg3) ?_;(repeat' (with_reducible apply Br.mk<;>intro _)))
   (refine goM (hread) (h3) ?_)
   rintro _ _ G4 ⟨rfl,rfl⟩ h4
   have h4:Sep (zaw q (m+6 * i) (zom i dc)::DkC kb q dc.length::zj a 2 k0 (zex dc S0)::zj b 2 k1 (zex dc S1)::R) G4:=h4
   by_cases hv:v=[]
   · subst hv
     rw [hsame rfl] at h4
     refine goS trivial ?_
     (refine goX trivial ?_;(repeat' (with_reducible apply Br.mk<;>intro _)))
     exact ⟨z - 1,_,by omega,zb7,i+1,G4,by omega,Sep.slt_mono (by omega) h4,rfl⟩
   · have hg4:=Sep.get (b:=kb) (cs:=[eSt q,.int .i64 dc.length]) h4.tail
     refine goS hv ?_
     (refine goX (nn hv hg4) ?_;(repeat' (with_reducible apply Br.mk<;>intro _)))
     (refine goI (zf2 q (m+6 * i) (zom i dc) (by omega) i (by omega)) (h4) ?_)
     rintro _ _ G5 ⟨rfl,rfl⟩ h5
     rw [zey] at h5
     have h5:Sep (zaw q (m+6 * i+6) (zom (i+1) dc)::DkC kb q dc.length::zj a 2 k0 (zex dc S0)::zj b 2 k1 (zex dc S1)::R) G5:=h5
     refine goS trivial ?_
     (refine goX trivial ?_;(repeat' (with_reducible apply Br.mk<;>intro _)))
     exact ⟨z - 1,_,by omega,zb7,i+1,G5,by omega,Sep.slt_mono (by omega) h5,rfl⟩
end Go.Proofs.Ytlejjdbmmdghmaa
namespace Go.Proofs.Ytlejjdbmmdghmaa
open Go Go.E2 C22 C40
set_option maxHeartbeats 2000000
theorem zkp (x:D) (l l2:List Int) (h1:l.length≤1000000) (_h2:l2.length≤9223372036854775807) :
 zy Try.prog f_zz7 [x,.list (l2.map eI)] [SlA 1 x (l.map eI)] (fun r post=>r=.d (.bool (decide (l=l2)))∧post=[SlA 1 x (l.map eI)]):=by
 refine zg fol zz7_cp fun R G σ hs=>?_
 have hs:Sep (SlA 1 x (l.map eI)::R) G:=hs
 have hxl:=hs.gv.len
 rw [List.length_map] at hxl
 by_cases hl:l.length=l2.length
 case neg =>
  have e:((l.length:Int)=(l2.length:Int))=False:=eq_false (by omega)
  rw [decide_eq_false (fun h=>hl (by rw [h]))]
  refine goS trivial ?_
  (refine goX (nn hxl e) ?_;(repeat' (with_reducible apply Br.mk<;>intro _)))
  exact Fin.eq rfl ⟨rfl,_,⟨rfl,rfl⟩,hs⟩
 have e:((l.length:Int)=(l2.length:Int))=True:=eq_true (by omega)
 have hall:=zkj l2
 refine goS trivial ?_
 (refine goX (nn hxl e) ?_;(repeat' (with_reducible apply Br.mk<;>intro _)))
 refine W.loop (fun z st=>∃ (i:Nat),z+i=l.length∧l.take i=l2.take i ∧
  st=(E [(0,.d x),(1,.d (.list (l2.map eI))),(5,.d (.int .i64 (i:Nat)))],HB [],σ,G))
  ⟨_,_,zb7,0,rfl,rfl,rfl⟩ ?_
 rintro z st ⟨i,hi,ht,rfl⟩
 by_cases hlt:i<l.length
 · have hlt':(i:Int)<(l.length:Int):=by omega
   have hlt2:i<l2.length:=by omega
   have hv:=hs.gv
   obtain ⟨bx,capx,csx,hx,hbx,hrx⟩:=hv.inv (by intro e;rw [List.map_eq_nil_iff] at e;rw [e] at hlt;simp at hlt)
   rw [List.length_map] at hx hrx
   have hldx:=hrx.fld (i:=i) (j:=0) (by simpa using hlt) (by omega)
   rw [List.getElem_map] at hldx
   simp only [D.cells,List.getElem?_cons_zero,Option.map_some,Nat.mul_one,Nat.add_zero] at hldx
   have t1:l.take (i+1)=l.take i++[l[i]]:=by rw [List.take_add_one,List.getElem?_eq_getElem hlt];rfl
   have t2:l2.take (i+1)=l2.take i++[l2[i]]:=by rw [List.take_add_one,List.getElem?_eq_getElem hlt2];rfl
   subst hx
   by_cases hne:l[i]=l2[i]
   · have h5:l.take (i+1)=l2.take (i+1):=by rw [t1,t2,ht,hne]
     rw [hne] at hldx
     (refine goX (nn hlt' (nn hldx (nn hbx (nn @Nat.mul_one (nn @Int.toNat_natCast hall))))) ?_;(repeat' (with_reducible apply Br.mk<;>intro _)))
     exact ⟨z - 1,_,by omega,zb7,i+1,by omega,h5,rfl⟩
   · rw [decide_eq_false (fun h=>hne (by simp [h]))]
     (refine goX (nn hlt' (nn hldx (nn hbx (nn @Nat.mul_one (nn @Int.toNat_natCast (nn hall hne)))))) ?_;(repeat' (with_reducible apply Br.mk<;>intro _)))
     exact Fin.eq rfl ⟨rfl,_,⟨rfl,rfl⟩,hs⟩
 · have hie:i=l.length:=by omega
   have hx:((i:Int)<(l.length:Int))=False:=eq_false (by omega)
   rw [decide_eq_true (by rw [hie,List.take_length] at ht;rw [ht,List.take_of_length_le (by omega)])]
   (refine goX (nn hxl hx) ?_;(repeat' (with_reducible apply Br.mk<;>intro _)))
   exact Fin.eq rfl ⟨rfl,_,⟨rfl,rfl⟩,hs⟩
theorem zrz:zy Try.prog f_zz18 [] [] (fun r post=>∃ wb p0 p1 p2 kb s0 s1,r=.tup [.gp wb 0,.bool true] ∧
 post=[WoA wb p0 p1 p2 kb s0 s1,zi kb 100 (rep 4),zee s0 2 100 (rep 8) [],zee s1 2 100 (rep 8) []]):=by
 refine zg fol zz18_cp fun R G σ hs=>?_
 refine goS trivial ?_
 refine goR trivial ?_
 (refine goM (zv6 16 (by omega) (by omega)) (hs) ?_)
 rintro _ _ G1 ⟨p0,rfl,rfl⟩ h1
 have h1:Sep (zp p0 (fresh 16)::R) G1:=h1
 refine goS trivial ?_
 (refine goX trivial ?_;(repeat' (with_reducible apply Br.mk<;>intro _)))
 have h1':Sep ([]++(zp p0 (fresh 16)::R)) G1:=h1
 (refine goM (zv6 16 (by omega) (by omega)) (h1') ?_)
 rintro _ _ G2 ⟨p1,rfl,rfl⟩ h2
 have h2:Sep (zp p1 (fresh 16)::zp p0 (fresh 16)::R) G2:=h2
 refine goS trivial ?_
 (refine goX trivial ?_;(repeat' (with_reducible apply Br.mk<;>intro _)))
 have h2':Sep ([]++(zp p1 (fresh 16)::zp p0 (fresh 16)::R)) G2:=h2
 (refine goM (zv6 8 (by omega) (by omega)) (h2') ?_)
 rintro _ _ G3 ⟨p2,rfl,rfl⟩ h3
 have h3:Sep (zp p2 (fresh 8)::zp p1 (fresh 16)::zp p0 (fresh 16)::R) G3:=h3
 refine goS trivial ?_
 (refine goX trivial ?_;(repeat' (with_reducible apply Br.mk<;>intro _)))
 refine zam fun wb hwb=>?_
 have h4:Sep (zm7 wb p0 p1 p2::zp p2 (fresh 8)::zp p1 (fresh 16)::zp p0 (fresh 16)::R) (G3.set wb (some [.gp p0 0,.gp p1 0,.gp p2 0,.nilP,.nilS])):=Sep.new hwb h3
 generalize G3.set wb (some [D.gp p0 0,D.gp p1 0,D.gp p2 0,D.nilP,D.nilS])=G4 at h4 ⊢
 have hg4:=Sep.get (b:=wb) (cs:=[.gp p0 0,.gp p1 0,.gp p2 0,.nilP,.nilS]) h4
 refine goS trivial ?_
 (refine goX hg4 ?_;(repeat' (with_reducible apply Br.mk<;>intro _)))
 refine W.loop (fun z st=>∃ (i:Nat) (x4:AV),z+i=3 ∧
  st=(E [(2,.d (.gp wb 0)),(14,.d (.agg [.gp p0 0,.gp p1 0,.gp p2 0])),(15,.d (.int .i64 (i:Nat)))],HB [],σ,G4))
  ⟨_,_,zb7,0,.undef,rfl,rfl⟩ ?_
 rintro z st ⟨i,x4,hi,rfl⟩
 rcases (by omega:i=0∨i=1∨i=2∨i=3) with rfl|rfl|rfl|rfl
 · (refine goX trivial ?_;(repeat' (with_reducible apply Br.mk<;>intro _)))
   exact ⟨z - 1,_,by omega,zb7,1,.undef,by omega,rfl⟩
 · (refine goX trivial ?_;(repeat' (with_reducible apply Br.mk<;>intro _)))
   exact ⟨z - 1,_,by omega,zb7,2,.undef,by omega,rfl⟩
 · (refine goX trivial ?_;(repeat' (with_reducible apply Br.mk<;>intro _)))
   exact ⟨z - 1,_,by omega,zb7,3,.undef,by omega,rfl⟩
 · (refine goX hg4 ?_;(repeat' (with_reducible apply Br.mk<;>intro _)))
   have h5:Sep (zp p0 (fresh 16)::zp p1 (fresh 16)::zp p2 (fresh 8)::zm7 wb p0 p1 p2::R) G4:=h4.perm pp
   have l16:(fresh 16).cs.length=16:=by simp [fresh]
   have l8:(fresh 8).cs.length=8:=by simp [fresh]
   have f0:=zly p0 (fresh 16) 0 (lvF (by omega) (by omega)) (by omega) (by omega) 2 (by omega) (by omega) (by omega)
   have f1:=zly p1 (fresh 16) 0 (lvF (by omega) (by omega)) (by omega) (by omega) 2 (by omega) (by omega) (by omega)
   have f2:=zmx p2 (fresh 8) 0 (lvF (by omega) (by omega)) (by omega) (by omega) 4 (by omega) (by omega) (by omega)
   (refine goM (f0) (h5) ?_)
   rintro _ _ G5 ⟨rfl,d0,q0,rfl⟩ h6
   have h6:Sep (zp p0 d0::zp p1 (fresh 16)::zp p2 (fresh 8)::zm7 wb p0 p1 p2::R) G5:=h6
   have h7:Sep (zp p1 (fresh 16)::zp p0 d0::zp p2 (fresh 8)::zm7 wb p0 p1 p2::R) G5:=h6.perm pp
   have hg7:=Sep.get (b:=wb) (cs:=[.gp p0 0,.gp p1 0,.gp p2 0,.nilP,.nilS]) h7.tail.tail.tail
   refine goS trivial ?_
   (refine goX hg7 ?_;(repeat' (with_reducible apply Br.mk<;>intro _)))
   (refine goM (f1) (h7) ?_)
   rintro _ _ G6 ⟨rfl,d1,q1,rfl⟩ h8
   have h8:Sep (zp p1 d1::zp p0 d0::zp p2 (fresh 8)::zm7 wb p0 p1 p2::R) G6:=h8
   have h9:Sep (zp p2 (fresh 8)::zp p1 d1::zp p0 d0::zm7 wb p0 p1 p2::R) G6:=h8.perm pp
   have hg9:=Sep.get (b:=wb) (cs:=[.gp p0 0,.gp p1 0,.gp p2 0,.nilP,.nilS]) h9.tail.tail.tail
   refine goS trivial ?_
   (refine goX hg9 ?_;(repeat' (with_reducible apply Br.mk<;>intro _)))
   (refine goM (f2) (h9) ?_)
   rintro _ _ G7 ⟨rfl,d2,q2,rfl⟩ h10
   have h10:Sep (zp p2 d2::zp p1 d1::zp p0 d0::zm7 wb p0 p1 p2::R) G7:=h10
   have h11:Sep (zm7 wb p0 p1 p2::zp p0 d0::zp p1 d1::zp p2 d2::R) G7:=h10.perm pp
   have hop:=z1v wb p0 p1 p2 d0 d1 d2 100 (by omega) (q0.mono (by omega)) (q1.mono (by omega)) (q2.mono (by omega))
   have h11':Sep ([zm7 wb p0 p1 p2,zp p0 d0,zp p1 d1,zp p2 d2]++R) G7:=h11
   refine goS trivial ?_
   (refine goX trivial ?_;(repeat' (with_reducible apply Br.mk<;>intro _)))
   (refine goM (hop) (h11') ?_)
   rintro _ _ G8 ⟨kb,s0,s1,rfl,rfl⟩ h12
   refine goS trivial ?_
   (refine goX trivial ?_;(repeat' (with_reducible apply Br.mk<;>intro _)))
   exact Fin.eq rfl ⟨rfl,_,⟨wb,p0,p1,p2,kb,s0,s1,rfl,rfl⟩,h12⟩
end Go.Proofs.Ytlejjdbmmdghmaa
namespace Go.Proofs.Ytlejjdbmmdghmaa
open Go Go.E2 C22 C40
set_option maxHeartbeats 4000000
theorem z5y {sb:Nat} {m:Int} {s:SS} (g:GS s) (hm:m≤500000000) (k v:Int) (b:Str) :
 zy Try.prog f_zz27 [.gp sb 0,.int .i64 k,.int .i64 v,.str b] [zj sb 2 m s] (fun r post=>r=.d (.bool (decide (getR 2 s.1 k=(v,b,0))))∧post=[zj sb 2 m s]):=by
 obtain ⟨V,g⟩:=g
 exact zzw sb 2 m s.1 s.2 (by omega) (by omega) g.len (fun b hb=>by have:=g.fit b hb;omega) k v b
theorem zkq {sb:Nat} {m:Int} {s:SS} (g:GS s) (hm:m≤390000000) (id:Int) (l:List Tw) (hL:l.length≤9223372036854775807) :
 zy Try.prog f_zz35 [.gp sb 0,.int .i64 id,eL l] [zj sb 2 m s] (fun r post=>r=.d (.int .i64 (prepE 2 s.1 s.2 id l))∧post=[zj sb 2 (m+200) (prepS 2 id l s)]):=by
 obtain ⟨V,g⟩:=g
 exact z1n g hm id l hL
theorem zzx {sb:Nat} {m:Int} {s:SS} (g:GS s) (hm:m≤390000000) :
 zy Try.prog f_zz34 [.gp sb 0] [zj sb 2 m s] (fun r post=>∃ x,r=.tup [x,.int .i64 0]∧post=[zj sb 2 m s,SlA 1 x ((zd5 s.2).map eI)]):=by
 obtain ⟨V,g⟩:=g
 exact zf1 sb 2 m s.1 s.2 g.shp (by omega) (by have:=g.len4;omega)
theorem z1x (kb a b:Nat) (m:Int) (dc:List Str) (S0 S1:SS) (hm:m≤300000000) (hd:DOk dc) (g0:GS S0) (g1:GS S1) (id:Int) (l0 l1:List Tw)
 (hl0:l0.length≤9223372036854775807) (hl1:l1.length≤9223372036854775807) (hid:zb8 id) (hso:zc2 [l0,l1]=true) :
 zy Try.prog f_zz72 [.gp kb 0,zau a b,.int .i64 id,.list [eL l0,eL l1]] [zi kb m dc,zj a 2 m S0,zj b 2 m S1]
  (fun r post=>r=.tup [.bool (zit dc S0 S1 id l0 l1).is,.int .i64 (zit dc S0 S1 id l0 l1).e] ∧
    post=[zi kb (m+1000) (zit dc S0 S1 id l0 l1).dc,zj a 2 (m+1000) (zit dc S0 S1 id l0 l1).s0,zj b 2 (m+1000) (zit dc S0 S1 id l0 l1).s1]):=by
 obtain ⟨V0,g0⟩:=g0
 obtain ⟨V1,g1⟩:=g1
 exact z5x kb a b m dc S0 S1 V0 V1 hm hd g0 g1 id l0 l1 hl0 hl1 hid hso
theorem z5z (kb a b:Nat) (m:Int) (dc:List Str) (S0 S1:SS) (hm:m≤300000000) (hd:DOk dc) (g0:GS S0) (g1:GS S1) :
 zy Try.prog f_zz65 [.gp kb 0,zau a b] [zi kb m dc,zj a 2 m S0,zj b 2 m S1]
  (fun r post=>r=.d (.int .i64 0)∧post=[zi kb (m+2000) (rep dc.length),zj a 2 (m+2000) (zex dc S0),zj b 2 (m+2000) (zex dc S1)]):=by
 obtain ⟨V0,g0⟩:=g0
 obtain ⟨V1,g1⟩:=g1
 exact zwj kb a b m dc S0 S1 V0 V1 hm hd g0 g1
theorem zwk {n:Int} (h1:1≤n) (h2:n≤1099511627776):zb8 n:=⟨h1,h2⟩
theorem zor:zy Try.prog f_zz11 [] [] (fun r post=>r=.d (.bool true)∧post=[]):=by
 refine zg fol zz11_cp fun R G σ hs=>?_
 refine goS trivial ?_
 refine goR trivial ?_
 (refine goM (zrz) (hs) ?_)
 rintro _ _ G1 ⟨wb,p0,p1,p2,kb,a,b,rfl,rfl⟩ h1
 have h1:Sep (WoA wb p0 p1 p2 kb a b::zi kb 100 (rep 4)::zj a 2 100 sS0::zj b 2 100 sS0::R) G1:=h1
 have hg1:=Sep.get (b:=wb) (cs:=[.gp p0 0,.gp p1 0,.gp p2 0,.gp kb 0,zau a b]) h1
 -- the first write
 have hA:zy Try.prog f_zz72 [.gp kb 0,zau a b,.int .i64 1,.list [.list [.agg [.int .i64 0,.int .i64 0,.str [97],.bool false]],.list [.agg [.int .i64 0,.int .i64 0,.str [98],.bool false]]]] [zi kb 100 (rep 4),zj a 2 100 sS0,zj b 2 100 sS0]
  (fun r post=>r=.tup [.bool xA.is,.int .i64 xA.e]∧post=[zi kb 1100 xA.dc,zj a 2 1100 xA.s0,zj b 2 1100 xA.s1]) :=
  z1x kb a b 100 (rep 4) sS0 sS0 (by omega) zmz zjc zjc 1 [⟨0,0,[97],false⟩] [⟨0,0,[98],false⟩] (by simp) (by simp) (zwk (by omega) (by omega)) rfl
 rw [xA_is,xA_e] at hA
 have h2:Sep (zi kb 100 (rep 4)::zj a 2 100 sS0::zj b 2 100 sS0::WoA wb p0 p1 p2 kb a b::R) G1:=h1.perm pp
 refine goS trivial ?_
 (refine goX hg1 ?_;(repeat' (with_reducible apply Br.mk<;>intro _)))
 (refine goM (hA) (h2) ?_)
 rintro _ _ G2 ⟨rfl,rfl⟩ h3
 have h3:Sep (zi kb 1100 xA.dc::zj a 2 1100 xA.s0::zj b 2 1100 xA.s1::WoA wb p0 p1 p2 kb a b::R) G2:=h3
 obtain ⟨qA,qA0,qA1⟩:=zm0
 have h4:Sep (zj a 2 1100 xA.s0::zi kb 1100 xA.dc::zj b 2 1100 xA.s1::WoA wb p0 p1 p2 kb a b::R) G2:=h3.perm pp
 have hh:=z5y (sb:=a) (m:=1100) qA0 (by omega) 0 1 [97]
 rw [xA_g0,decide_eq_true rfl] at hh
 refine goS trivial ?_
 (refine goX trivial ?_;(repeat' (with_reducible apply Br.mk<;>intro _)))
 (refine goM (hh) (h4) ?_)
 rintro _ _ G3 ⟨rfl,rfl⟩ h5
 have h5:Sep (zj a 2 1100 xA.s0::zi kb 1100 xA.dc::zj b 2 1100 xA.s1::WoA wb p0 p1 p2 kb a b::R) G3:=h5
 have h6:Sep (zj b 2 1100 xA.s1::zj a 2 1100 xA.s0::zi kb 1100 xA.dc::WoA wb p0 p1 p2 kb a b::R) G3:=h5.perm pp
 have hh1:=z5y (sb:=b) (m:=1100) qA1 (by omega) 0 1 [98]
 rw [xA_g1,decide_eq_true rfl] at hh1
 refine goS trivial ?_
 (refine goX trivial ?_;(repeat' (with_reducible apply Br.mk<;>intro _)))
 (refine goM (hh1) (h6) ?_)
 rintro _ _ G4 ⟨rfl,rfl⟩ h7
 have h7:Sep (zj b 2 1100 xA.s1::zj a 2 1100 xA.s0::zi kb 1100 xA.dc::WoA wb p0 p1 p2 kb a b::R) G4:=h7
 have h8:Sep (zi kb 1100 xA.dc::zj a 2 1100 xA.s0::zj b 2 1100 xA.s1::WoA wb p0 p1 p2 kb a b::R) G4:=h7.perm pp
 have hg8:=Sep.get (b:=wb) (cs:=[.gp p0 0,.gp p1 0,.gp p2 0,.gp kb 0,zau a b]) h8.tail.tail.tail
 -- the second one
 have hB:zy Try.prog f_zz72 [.gp kb 0,zau a b,.int .i64 2,.list [.list [.agg [.int .i64 0,.int .i64 0,.str [120],.bool false]],.nilS]] [zi kb 1100 xA.dc,zj a 2 1100 xA.s0,zj b 2 1100 xA.s1]
  (fun r post=>r=.tup [.bool xB.is,.int .i64 xB.e]∧post=[zi kb 2100 xB.dc,zj a 2 2100 xB.s0,zj b 2 2100 xB.s1]) :=
  zy.args (ys:=[.gp kb 0,zau a b,.int .i64 2,.list [eL [⟨0,0,[120],false⟩],eL []]]) (z1x kb a b 1100 xA.dc xA.s0 xA.s1 (by omega) qA qA0 qA1 2 [⟨0,0,[120],false⟩] [] (by simp) (by simp) (zwk (by omega) (by omega)) rfl)
   (.cons (.inl rfl) (.cons (.inl rfl) (.cons (.inl rfl) (.cons (.inr rfl) .nil))))
 rw [xB_is,xB_e] at hB
 obtain ⟨qB,qB0,qB1⟩:=zww
 refine goS trivial ?_
 (refine goX hg8 ?_;(repeat' (with_reducible apply Br.mk<;>intro _)))
 (refine goM (hB) (h8) ?_)
 rintro _ _ G5 ⟨rfl,rfl⟩ h9
 have h9:Sep (zi kb 2100 xB.dc::zj a 2 2100 xB.s0::zj b 2 2100 xB.s1::WoA wb p0 p1 p2 kb a b::R) G5:=h9
 have h10:Sep (zj a 2 2100 xB.s0::zi kb 2100 xB.dc::zj b 2 2100 xB.s1::WoA wb p0 p1 p2 kb a b::R) G5:=h9.perm pp
 -- a part that is prepared
 have hP:zy Try.prog f_zz35 [.gp a 0,.int .i64 3,.list [.agg [.int .i64 0,.int .i64 1,.str [99],.bool false]]] [zj a 2 2100 xB.s0] (fun r post=>r=.d (.int .i64 0)∧post=[zj a 2 2300 xP3]):=by
  have:=zkq (sb:=a) (m:=2100) qB0 (by omega) 3 [⟨0,1,[99],false⟩] (by simp)
  rw [xP3_e] at this
  exact this
 refine goS trivial ?_
 (refine goX trivial ?_;(repeat' (with_reducible apply Br.mk<;>intro _)))
 (refine goM (hP) (h10) ?_)
 rintro _ _ G6 ⟨rfl,rfl⟩ h11
 have h11:Sep (zj a 2 2300 xP3::zi kb 2100 xB.dc::zj b 2 2100 xB.s1::WoA wb p0 p1 p2 kb a b::R) G6:=h11
 have hpe:=zzx (sb:=a) (m:=2300) zf4 (by omega)
 rw [zy4] at hpe
 refine goS trivial ?_
 (refine goX trivial ?_;(repeat' (with_reducible apply Br.mk<;>intro _)))
 (refine goM (hpe) (h11) ?_)
 rintro _ _ G7 ⟨x,rfl,rfl⟩ h12
 have h12:Sep (zj a 2 2300 xP3::SlA 1 x ([3].map eI)::zi kb 2100 xB.dc::zj b 2 2100 xB.s1::WoA wb p0 p1 p2 kb a b::R) G7:=h12
 have hsl:zy Try.prog f_zz7 [x,.list [.int .i64 3]] [SlA 1 x ([3].map eI)] (fun r post=>r=.d (.bool true)∧post=[SlA 1 x ([3].map eI)]):=zkp x [3] [3] (by simp) (by simp)
 refine goS trivial ?_
 (refine goX trivial ?_;(repeat' (with_reducible apply Br.mk<;>intro _)))
 (refine goM (hsl) (h12.swap) ?_)
 rintro _ _ G8 ⟨rfl,rfl⟩ h13
 have h13:Sep (SlA 1 x ([3].map eI)::zj a 2 2300 xP3::zi kb 2100 xB.dc::zj b 2 2100 xB.s1::WoA wb p0 p1 p2 kb a b::R) G8:=h13
 have h14:=h13.tail
 have hh2:=z5y (sb:=a) (m:=2300) zf4 (by omega) 0 1 [97]
 rw [xP3_g,decide_eq_true rfl] at hh2
 refine goS trivial ?_
 (refine goX trivial ?_;(repeat' (with_reducible apply Br.mk<;>intro _)))
 (refine goM (hh2) (h14) ?_)
 rintro _ _ G9 ⟨rfl,rfl⟩ h15
 have h15:Sep (zj a 2 2300 xP3::zi kb 2100 xB.dc::zj b 2 2100 xB.s1::WoA wb p0 p1 p2 kb a b::R) G9:=h15
 -- four more tries
 have hi1:zy Try.prog f_zz35 [.gp a 0,.int .i64 4,.list [.agg [.int .i64 0,.int .i64 1,.str [],.bool false]]] [zj a 2 2300 xP3] (fun r post=>r=.d (.int .i64 4)∧post=[zj a 2 2500 xP3]):=by
  have:=zkq (sb:=a) (m:=2300) zf4 (by omega) 4 [⟨0,1,[],false⟩] (by simp)
  unfold prepS at this
  rw [xP3_i,if_neg (by simp)] at this
  exact this
 have hj1:zy Try.prog f_zz35 [.gp a 0,.int .i64 4,.list [.agg [.int .i64 0,.int .i64 1,.str [],.bool true]]] [zj a 2 2500 xP3] (fun r post=>r=.d (.int .i64 4)∧post=[zj a 2 2700 xP3]):=by
  have:=zkq (sb:=a) (m:=2500) zf4 (by omega) 4 [⟨0,1,[],true⟩] (by simp)
  unfold prepS at this
  rw [xP3_j,if_neg (by simp)] at this
  exact this
 have hm1:zy Try.prog f_zz35 [.gp a 0,.int .i64 4,.list [.agg [.int .i64 1,.int .i64 0,.str [],.bool false]]] [zj a 2 2700 xP3] (fun r post=>r=.d (.int .i64 0)∧post=[zj a 2 2900 xP4]):=by
  have:=zkq (sb:=a) (m:=2700) zf4 (by omega) 4 [⟨1,0,[],false⟩] (by simp)
  rw [xP3_m] at this
  exact this
 have hn1:zy Try.prog f_zz35 [.gp a 0,.int .i64 4,.list [.agg [.int .i64 1,.int .i64 0,.str [],.bool false]]] [zj a 2 2900 xP4] (fun r post=>r=.d (.int .i64 9)∧post=[zj a 2 3100 xP4]):=by
  have:=zkq (sb:=a) (m:=2900) zm1 (by omega) 4 [⟨1,0,[],false⟩] (by simp)
  unfold prepS at this
  rw [xP4_n,if_neg (by simp)] at this
  exact this
 refine goS trivial ?_
 (refine goX trivial ?_;(repeat' (with_reducible apply Br.mk<;>intro _)))
 (refine goM (hi1) (h15) ?_)
 rintro _ _ G10 ⟨rfl,rfl⟩ h16
 have h16:Sep (zj a 2 2500 xP3::zi kb 2100 xB.dc::zj b 2 2100 xB.s1::WoA wb p0 p1 p2 kb a b::R) G10:=h16
 refine goS trivial ?_
 (refine goX trivial ?_;(repeat' (with_reducible apply Br.mk<;>intro _)))
 (refine goM (hj1) (h16) ?_)
 rintro _ _ G11 ⟨rfl,rfl⟩ h17
 have h17:Sep (zj a 2 2700 xP3::zi kb 2100 xB.dc::zj b 2 2100 xB.s1::WoA wb p0 p1 p2 kb a b::R) G11:=h17
 refine goS trivial ?_
 (refine goX trivial ?_;(repeat' (with_reducible apply Br.mk<;>intro _)))
 (refine goM (hm1) (h17) ?_)
 rintro _ _ G12 ⟨rfl,rfl⟩ h18
 have h18:Sep (zj a 2 2900 xP4::zi kb 2100 xB.dc::zj b 2 2100 xB.s1::WoA wb p0 p1 p2 kb a b::R) G12:=h18
 refine goS trivial ?_
 (refine goX trivial ?_;(repeat' (with_reducible apply Br.mk<;>intro _)))
 (refine goM (hn1) (h18) ?_)
 rintro _ _ G13 ⟨rfl,rfl⟩ h19
 have h19:Sep (zj a 2 3100 xP4::zi kb 2100 xB.dc::zj b 2 2100 xB.s1::WoA wb p0 p1 p2 kb a b::R) G13:=h19
 have h20:Sep (zi kb 2100 xB.dc::zj a 2 3100 xP4::zj b 2 2100 xB.s1::WoA wb p0 p1 p2 kb a b::R) G13:=h19.swap
 have hg20:=Sep.get (b:=wb) (cs:=[.gp p0 0,.gp p1 0,.gp p2 0,.gp kb 0,zau a b]) h20.tail.tail.tail
 -- recorded, settled
 have hrec:=zkw kb 2100 xB.dc (by omega) qB 3
 rw [xD_e] at hrec
 refine goS trivial ?_
 (refine goX hg20 ?_;(repeat' (with_reducible apply Br.mk<;>intro _)))
 (refine goM (hrec) (h20) ?_)
 rintro _ _ G14 ⟨rfl,rfl⟩ h21
 have h21:Sep (zi kb 2106 xD::zj a 2 3100 xP4::zj b 2 2100 xB.s1::WoA wb p0 p1 p2 kb a b::R) G14:=h21
 have hg21:=Sep.get (b:=wb) (cs:=[.gp p0 0,.gp p1 0,.gp p2 0,.gp kb 0,zau a b]) h21.tail.tail.tail
 have h22:=Sep.desk_mono (k:=3100) (by omega) h21
 have h23:=Sep.sit_mono (k:=3100) (by omega) (h22.perm pp:Sep (zj b 2 2100 xB.s1::zi kb 3100 xD::zj a 2 3100 xP4::WoA wb p0 p1 p2 kb a b::R) G14)
 have h24:Sep (zi kb 3100 xD::zj a 2 3100 xP4::zj b 2 3100 xB.s1::WoA wb p0 p1 p2 kb a b::R) G14:=h23.perm pp
 have zey:=z5z kb a b 3100 xD xP4 xB.s1 (by omega) (qB.rec 3) zm1 qB1
 rw [z54,zwv] at zey
 refine goS trivial ?_
 (refine goX hg21 ?_;(repeat' (with_reducible apply Br.mk<;>intro _)))
 (refine goM (zey) (h24) ?_)
 rintro _ _ G15 ⟨rfl,rfl⟩ h25
 have h25:Sep (zi kb 5100 (rep 4)::zj a 2 5100 x5::zj b 2 5100 (zex xD xB.s1)::WoA wb p0 p1 p2 kb a b::R) G15:=h25
 have hpe2:=zzx (sb:=a) (m:=5100) zqf (by omega)
 rw [z13] at hpe2
 refine goS trivial ?_
 (refine goX trivial ?_;(repeat' (with_reducible apply Br.mk<;>intro _)))
 (refine goM (hpe2) (h25.swap) ?_)
 rintro _ _ G16 ⟨y,rfl,rfl⟩ h26
 have h26:Sep (zj a 2 5100 x5::SlA 1 y (([]:List Int).map eI)::zi kb 5100 (rep 4)::zj b 2 5100 (zex xD xB.s1)::WoA wb p0 p1 p2 kb a b::R) G16:=h26
 have hyl:=h26.tail.gv.len
 have hg26:=Sep.get (b:=wb) (cs:=[.gp p0 0,.gp p1 0,.gp p2 0,.gp kb 0,zau a b]) h26.tail.tail.tail.tail
 have hou:=zef kb 5100 (rep 4) (by omega) zmz 3
 rw [z12,show zr6 3=0 from rfl] at hou
 have h27:Sep (zi kb 5100 (rep 4)::zj a 2 5100 x5::SlA 1 y (([]:List Int).map eI)::zj b 2 5100 (zex xD xB.s1)::WoA wb p0 p1 p2 kb a b::R) G16:=h26.perm pp
 refine goS trivial ?_
 (refine goX hg26 ?_;(repeat' (with_reducible apply Br.mk<;>intro _)))
 (refine goM (hou) (h27) ?_)
 rintro _ _ G17 ⟨rfl,rfl⟩ h28
 have h28:Sep (zi kb 5100 (rep 4)::zj a 2 5100 x5::SlA 1 y (([]:List Int).map eI)::zj b 2 5100 (zex xD xB.s1)::WoA wb p0 p1 p2 kb a b::R) G17:=h28
 have hh3:=z5y (sb:=a) (m:=5100) zqf (by omega) 0 2 [99]
 rw [x5_g0,decide_eq_true rfl] at hh3
 have hh4:=z5y (sb:=a) (m:=5100) zqf (by omega) 1 0 []
 rw [x5_g1,decide_eq_true rfl] at hh4
 refine goS trivial ?_
 (refine goX trivial ?_;(repeat' (with_reducible apply Br.mk<;>intro _)))
 (refine goM (hh3) (h28.swap) ?_)
 rintro _ _ G18 ⟨rfl,rfl⟩ h29
 refine goS trivial ?_
 (refine goX trivial ?_;(repeat' (with_reducible apply Br.mk<;>intro _)))
 (refine goM (hh4) (h29) ?_)
 rintro _ _ G19 ⟨rfl,rfl⟩ h30
 have h30:Sep (zj a 2 5100 x5::zi kb 5100 (rep 4)::SlA 1 y (([]:List Int).map eI)::zj b 2 5100 (zex xD xB.s1)::WoA wb p0 p1 p2 kb a b::R) G19:=h30
 refine goS trivial ?_
 (refine goX hyl ?_;(repeat' (with_reducible apply Br.mk<;>intro _)))
 exact Fin.eq rfl ⟨rfl,_,⟨rfl,rfl⟩,h30.tail.tail.tail.tail.tail⟩
end Go.Proofs.Ytlejjdbmmdghmaa
namespace Go.Proofs.Ytlejjdbmmdghmaa
open Go Go.E2 C22 C40
set_option maxHeartbeats 4000000
theorem zwl (sb n:Nat) (m:Int) (s:SS) (r:RS) (h:Mt n s r) (hm:m≤390000000) :
 zy Try.prog f_zz22 [.gp sb 0,eRS r] [zj sb n m s] (fun x post=>x=.d (.bool true)∧post=[zj sb n m s]):=by
 refine zg fol zz22_cp fun R G σ hs=>?_
 have hs:Sep (zj sb n m s::R) G:=hs
 have g:=h.good
 have h4:=g.len4
 have hpend:=zf1 sb n m s.1 s.2 g.shp (by omega) (by omega)
 rw [h.pend] at hpend
 have hrl:=h.len
 have hrp:=zmr r (by omega)
 have hfit:∀ b∈s.1,b.length≤60:=fun b hb=>by have:=g.fit b hb;omega
 have hhas:=fun (k:Nat) (v:Int) (b:Str)=>zzw sb n m s.1 s.2 (by omega) g.n16 g.len hfit (k:Int) v b
 have hget:=fun (k:Int)=>zrx sb n m s.1 s.2 (by omega) g.n16 g.len hfit k
 have gr:=g.getR
 have hvl:=g.vlen
 have hn16:=g.n16
 obtain ⟨V,ps⟩:=r
 simp only at hrl hvl gr
 refine goS trivial ?_
 refine goR trivial ?_
 (refine goM (hpend) (hs) ?_)
 rintro _ _ G1 ⟨x,rfl,rfl⟩ h1
 have h1:Sep (zj sb n m s::SlA 1 x ((ps.map (·.1)).map eI)::R) G1:=h1
 have hsl:=zkp x (ps.map (·.1)) (ps.map (·.1)) (by rw [List.length_map];omega) (by rw [List.length_map];omega)
 rw [decide_eq_true rfl] at hsl
 refine goS trivial ?_
 (refine zb1 trivial (hrp) ?_;(repeat' (with_reducible apply Br.mk<;>intro _)))
 (refine goM (hsl) (h1.swap) ?_)
 rintro _ _ G2 ⟨rfl,rfl⟩ h2
 have h2:Sep (SlA 1 x ((ps.map (·.1)).map eI)::zj sb n m s::R) G2:=h2
 have h3:Sep (zj sb n m s::R) G2:=h2.tail
 have hall:=zkg V
 refine goS trivial ?_
 (refine goX trivial ?_;(repeat' (with_reducible apply Br.mk<;>intro _)))
 refine W.loop (fun z st=>∃ (k:Nat) (b8:Blk) (G:Gh),z+k=V.length∧Sep (zj sb n m s::R) G ∧
  st=(E [(0,.d (.gp sb 0)),(3,.ptr 0 3 1 0),(28,.d (.list (V.map eVl))),(29,.d (.int .i64 (V.length:Nat))),(30,.d (.int .i64 (k:Nat)))],HB [(3,⟨1,some [.list (V.map eVl),.list (ps.map ePr)]⟩),(8,b8)],σ,G))
  ⟨_,_,zt (zcx [(3,⟨1,some [.list (V.map eVl),.list (ps.map ePr)]⟩)] [8] rfl).symm,0,_,G2,rfl,h3,rfl⟩ ?_
 rintro z st ⟨k,b8,G3,hk,h4,rfl⟩
 by_cases hkl:k<V.length
 · have hkl':(k:Int)<(V.length:Int):=by omega
   have hh:=hhas k V[k].1 V[k].2
   have hv:vl V k=V[k]:=by unfold vl;rw [List.getD_eq_getElem?_getD,List.getElem?_eq_getElem hkl];rfl
   rw [gr,if_neg (by omega),Int.toNat_natCast,hv,decide_eq_true rfl] at hh
   have h4':Sep ([zj sb n m s]++R) G3:=h4
   (refine goX (nn hkl' hall) ?_;(repeat' (with_reducible apply Br.mk<;>intro _)))
   (refine goM (hh) (h4') ?_)
   rintro _ _ G4 ⟨rfl,rfl⟩ h5
   refine goS trivial ?_
   (refine goX trivial ?_;(repeat' (with_reducible apply Br.mk<;>intro _)))
   exact ⟨z - 1,_,by omega,zt rfl,k+1,_,_,by omega,h5,rfl⟩
 have hx:((k:Int)<(V.length:Int))=False:=eq_false (by omega)
 have hg1:=hget (-1)
 rw [gr,if_pos (.inl (by omega))] at hg1
 have hg2:=hget (V.length:Int)
 rw [gr,if_pos (.inr (by omega))] at hg2
 have h4':Sep ([zj sb n m s]++R) G3:=h4
 (refine goX hx ?_;(repeat' (with_reducible apply Br.mk<;>intro _)))
 (refine goM (hg1) (h4') ?_)
 rintro _ _ G5 ⟨rfl,rfl⟩ h6
 refine goS trivial ?_
 (refine goX trivial ?_;(repeat' (with_reducible apply Br.mk<;>intro _)))
 (refine goM (hg2) (h6) ?_)
 rintro _ _ G6 ⟨rfl,rfl⟩ h7
 refine goS trivial ?_
 (refine goX trivial ?_;(repeat' (with_reducible apply Br.mk<;>intro _)))
 exact Fin.eq rfl ⟨rfl,_,⟨rfl,rfl⟩,h7⟩
end Go.Proofs.Ytlejjdbmmdghmaa
