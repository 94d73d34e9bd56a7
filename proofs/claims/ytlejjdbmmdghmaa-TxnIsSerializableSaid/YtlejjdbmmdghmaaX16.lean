/-
 Layer 40 (txn): Run,with a part for each of two sites.
 Conditions: of each contract as it says.
-/
import Derived.Test.YtlejjdbmmdghmaaX14
import Derived.Test.YtlejjdbmmdghmaaX13
set_option linter.unusedSimpArgs false
namespace Go.Proofs.Ytlejjdbmmdghmaa
open Go Go.E2 C22 C40
set_option maxHeartbeats 4000000
@[go_sem] theorem viL0 (x y:List Tw):zc1 1 (some (.list [eL x,eL y])) (.d (.int .i64 0))=some (.cptr [eL x]):=rfl
@[go_sem] theorem viL1 (x y:List Tw):zc1 1 (some (.list [eL x,eL y])) (.d (.int .i64 1))=some (.cptr [eL y]):=rfl
@[go_sem] theorem viS (a:Nat):zc1 1 (some (.list [.gp a 0])) (.d (.int .i64 0))=some (.cptr [.gp a 0]):=rfl
def PrepI (l0 l1:List Tw) (id:Int) (S0 S1:SS) (i:Nat) (t0 t1:SS):Prop :=
 (i=0∧t0=S0∧t1=S1)∨(i=1∧zms l0 id S0=0∧t0=prpS l0 id S0∧t1=S1)∨(i=2∧zms l0 id S0=0∧zms l1 id S1=0∧t0=prpS l0 id S0∧t1=prpS l1 id S1)
theorem z5r (kb a b:Nat) (m:Int) (dc:List Str) (S0 S1:SS) (V0 V1:List Vl) (hm:m≤300000000) (hd:DOk dc) (g0:zcz 2 S0 V0) (g1:zcz 2 S1 V1) (id:Int) (l0 l1:List Tw)
 (hl0:l0.length≤9223372036854775807) (hl1:l1.length≤9223372036854775807) (hid:ziv id) (hso:zoa [l0,l1]=true) :
 zy Try.prog f_zz61 [.gp kb 0,zcv a b,.int .i64 id,.list [eL l0,eL l1]] [zm kb m dc,zi a 2 m S0,zi b 2 m S1]
  (fun r post=>r=.tup [.bool (zmt dc S0 S1 id l0 l1).is,.int .i64 (zmt dc S0 S1 id l0 l1).e] ∧
    post=[zm kb (m+1000) (zmt dc S0 S1 id l0 l1).dc,zi a 2 (m+1000) (zmt dc S0 S1 id l0 l1).s0,zi b 2 (m+1000) (zmt dc S0 S1 id l0 l1).s1]):=by
 refine zf fol zz61_cp fun R G σ hs=>?_
 have hcon:zb2 Try.prog f_zz0 [.list [eL l0,eL l1],.fn f_zz56] (·=.d (.bool (zoa [l0,l1]))):=zob [l0,l1] (by simp)
 rw [hso] at hcon
 have hs:Sep (zm kb m dc::zi a 2 m S0::zi b 2 m S1::R) G:=hs
 have hR1:¬ ((l0=[]∧l1=[])∨¬ ziv id):=by
  rintro (⟨rfl,rfl⟩|h)
  · simp [zoa] at hso
  · exact h hid
 have hR:zmt dc S0 S1 id l0 l1=if zki dc id=true then ⟨false,9,dc,S0,S1⟩ else
  if zms l0 id S0≠0 then ⟨false,zms l0 id S0,dc,S0,S1⟩ else
  if zms l1 id S1≠0 then ⟨false,zms l1 id S1,dc,dcS l0 id false (prpS l0 id S0),S1⟩ else
  if zs5 dc id≠0 then ⟨false,zs5 dc id,dc,prpS l0 id S0,prpS l1 id S1⟩ else
  ⟨true,0,z1f (zmm dc id) id,dcS l0 id true (prpS l0 id S0),dcS l1 id true (prpS l1 id S1)⟩:=by unfold zmt;rw [if_neg hR1]
 generalize zmt dc S0 S1 id l0 l1=RR at hR ⊢
 have c1:(id<1)=False:=eq_false (by have:=hid.1;omega)
 have c2:(1099511627776<id)=False:=eq_false (by have:=hid.2;omega)
 have hout:zwg id=0:=if_pos hid
 have hde:zs4 id=0:=by rw [zmr,if_pos hid]
 have fin:∀ {X:RunR} {G':Gh},RR=X→Sep (zm kb (m+1000) X.dc::zi a 2 (m+1000) X.s0::zi b 2 (m+1000) X.s1::R) G'→∃ post,(AV.tup [.bool X.is,.int .i64 X.e]=.tup [.bool RR.is,.int .i64 RR.e] ∧
  post=[zm kb (m+1000) RR.dc,zi a 2 (m+1000) RR.s0,zi b 2 (m+1000) RR.s1])∧Sep (post++R) G':=fun h1 h2=>by
  subst h1;exact ⟨_,⟨rfl,rfl⟩,h2⟩
 have up:∀ {j j0 j1:Int} {dc':List Str} {t0 t1:SS} {G':Gh},j≤m+1000→j0≤m+1000→j1≤m+1000→Sep (zm kb j dc'::zi a 2 j0 t0::zi b 2 j1 t1::R) G'→Sep (zm kb (m+1000) dc'::zi a 2 (m+1000) t0::zi b 2 (m+1000) t1::R) G':=fun h1 h2 h3 h=>by
  have k1:=Sep.desk_mono h1 h
  have k2:=(Sep.sit_mono h2 (k1.perm pp:Sep (zi a 2 _ _::zm kb (m+1000) _::zi b 2 _ _::R) _))
  have k3:=(Sep.sit_mono h3 (k2.perm pp:Sep (zi b 2 _ _::zi a 2 (m+1000) _::zm kb (m+1000) _::R) _))
  exact k3.perm pp
 refine goS trivial ?_
 (refine zg1 (nn c1 c2) (hcon) ?_;(repeat' (with_reducible apply Br.mk<;>intro _)))
 (refine goM (zfu kb m dc (by omega) hd id) (hs) ?_)
 rintro _ _ G1 ⟨rfl,rfl⟩ h1
 have h1:Sep (zm kb m dc::zi a 2 m S0::zi b 2 m S1::R) G1:=h1
 rw [hout]
 cases ho:zki dc id with
 | true =>
  rw [ho,if_pos rfl] at hR
  refine goS trivial ?_
  (refine goX trivial ?_;(repeat' (with_reducible apply Br.mk<;>intro _)))
  exact Fin.eq rfl ⟨rfl,fin hR (up (by omega) (by omega) (by omega) h1)⟩
 | false =>
 rw [ho,if_neg (by simp)] at hR
 refine goS trivial ?_
 (refine goX trivial ?_;(repeat' (with_reducible apply Br.mk<;>intro _)))
 refine W.loop (fun z st=>∃ (i:Nat) (t0 t1:SS) (j:Int) (G:Gh),z+i=2∧PrepI l0 l1 id S0 S1 i t0 t1∧j≤m+200 * i∧Sep (zm kb m dc::zi a 2 j t0::zi b 2 j t1::R) G ∧
  st=(E [(0,.d (.gp kb 0)),(1,.d (zcv a b)),(2,.d (.int .i64 id)),(3,.d (.list [eL l0,eL l1])),(52,.d (.list [eL l0,eL l1])),(53,.d (.int .i64 2)),(54,.d (.int .i64 (i:Nat)))],HB [],σ,G))
  ⟨_,_,zca,0,S0,S1,m,G1,rfl,.inl ⟨rfl,rfl,rfl⟩,by omega,h1,rfl⟩ ?_
 rintro z st ⟨i,t0,t1,j,G2,hi,hP,hj,h2,rfl⟩
 rcases hP with ⟨rfl,rfl,rfl⟩|⟨rfl,q0,rfl,rfl⟩|⟨rfl,q0,q1,rfl,rfl⟩
 · -- the first part
   by_cases hl:l0=[]
   · have e1:((l0.length:Int)=0)=True:=eq_true (by rw [hl];rfl)
     (refine goX e1 ?_;(repeat' (with_reducible apply Br.mk<;>intro _)))
     exact ⟨z - 1,_,by omega,zca,1,_,_,j,_,by omega,.inr (.inl ⟨rfl,by unfold zms;rw [if_pos hl],by unfold prpS;rw [if_pos hl],rfl⟩),by omega,h2,rfl⟩
   have e1:((l0.length:Int)=0)=False:=eq_false (by have:=List.length_pos_iff.2 hl;omega)
   have hpe:zms l0 id t0=zat 2 t0.1 t0.2 id l0:=if_neg hl
   have hps:prpS l0 id t0=prepS 2 id l0 t0:=if_neg hl
   have h3:Sep (zi a 2 j t0::zm kb m dc::zi b 2 j t1::R) G2:=h2.perm pp
   have hprep:=z1j (sb:=a) g0 (m:=j) (by omega) id l0 hl0
   rw [← hpe,← hps] at hprep
   (refine goX e1 ?_;(repeat' (with_reducible apply Br.mk<;>intro _)))
   (refine goM (hprep) (h3) ?_)
   rintro _ _ G3 ⟨rfl,rfl⟩ h4
   have h4:Sep (zi a 2 (j+200) (prpS l0 id t0)::zm kb m dc::zi b 2 j t1::R) G3:=h4
   have h5:Sep (zm kb m dc::zi a 2 (j+200) (prpS l0 id t0)::zi b 2 (j+200) t1::R) G3:=by
    have k1:=Sep.sit_mono (k:=j+200) (by omega) (h4.perm pp:Sep (zi b 2 j t1::zi a 2 (j+200) (prpS l0 id t0)::zm kb m dc::R) G3)
    exact k1.perm pp
   by_cases hz:zms l0 id t0=0
   · rw [hz]
     refine goS trivial ?_
     (refine goX trivial ?_;(repeat' (with_reducible apply Br.mk<;>intro _)))
     exact ⟨z - 1,_,by omega,zca,1,_,_,j+200,_,by omega,.inr (.inl ⟨rfl,hz,rfl,rfl⟩),by omega,h5,rfl⟩
   · have hRR:=hR
     rw [if_pos hz] at hRR
     have hsame:prpS l0 id t0=t0:=by rw [hps];unfold prepS;rw [if_neg (by rw [← hpe];exact hz)]
     rw [hsame] at h5
     generalize hze:zms l0 id t0=pe at hz hRR ⊢
     refine goS hz ?_
     (refine goX hz ?_;(repeat' (with_reducible apply Br.mk<;>intro _)))
     refine W.loop (fun z st=>st=(E [(15,.d (.int .i64 pe)),(74,.d (.int .i64 0)),(75,.d (.int .i64 0))],HB [],σ,G3)) ⟨0,_,zca,rfl⟩ ?_
     rintro z st rfl
     (refine goX trivial ?_;(repeat' (with_reducible apply Br.mk<;>intro _)))
     exact Fin.eq rfl ⟨rfl,fin hRR (up (by omega) (by omega) (by omega) h5)⟩
 · -- the second part
   by_cases hl:l1=[]
   · have e1:((l1.length:Int)=0)=True:=eq_true (by rw [hl];rfl)
     (refine goX e1 ?_;(repeat' (with_reducible apply Br.mk<;>intro _)))
     exact ⟨z - 1,_,by omega,zca,2,_,_,j,_,by omega,.inr (.inr ⟨rfl,q0,by unfold zms;rw [if_pos hl],rfl,by unfold prpS;rw [if_pos hl]⟩),by omega,h2,rfl⟩
   have e1:((l1.length:Int)=0)=False:=eq_false (by have:=List.length_pos_iff.2 hl;omega)
   have hpe:zms l1 id t1=zat 2 t1.1 t1.2 id l1:=if_neg hl
   have hps:prpS l1 id t1=prepS 2 id l1 t1:=if_neg hl
   have g0':=g0.prpS l0 id
   generalize hT:prpS l0 id S0=T0 at h2 hR g0'
   have h3:Sep (zi b 2 j t1::zm kb m dc::zi a 2 j T0::R) G2:=h2.perm pp
   have hprep:=z1j (sb:=b) g1 (m:=j) (by omega) id l1 hl1
   rw [← hpe,← hps] at hprep
   (refine goX e1 ?_;(repeat' (with_reducible apply Br.mk<;>intro _)))
   (refine goM (hprep) (h3) ?_)
   rintro _ _ G3 ⟨rfl,rfl⟩ h4
   have h4:Sep (zi b 2 (j+200) (prpS l1 id t1)::zm kb m dc::zi a 2 j T0::R) G3:=h4
   have h5:Sep (zm kb m dc::zi a 2 (j+200) T0::zi b 2 (j+200) (prpS l1 id t1)::R) G3:=by
    have k1:=Sep.sit_mono (k:=j+200) (by omega) (h4.perm pp:Sep (zi a 2 j T0::zi b 2 (j+200) (prpS l1 id t1)::zm kb m dc::R) G3)
    exact k1.perm pp
   by_cases hz:zms l1 id t1=0
   · rw [hz]
     refine goS trivial ?_
     (refine goX trivial ?_;(repeat' (with_reducible apply Br.mk<;>intro _)))
     exact ⟨z - 1,_,by omega,zca,2,_,_,j+200,_,by omega,.inr (.inr ⟨rfl,q0,hz,hT.symm,rfl⟩),by omega,h5,rfl⟩
   · have hRR:=hR
     rw [if_neg (by rw [q0];simp),if_pos hz] at hRR
     have hsame:prpS l1 id t1=t1:=by rw [hps];unfold prepS;rw [if_neg (by rw [← hpe];exact hz)]
     rw [hsame] at h5
     generalize hze:zms l1 id t1=pe at hz hRR ⊢
     refine goS hz ?_
     (refine goX hz ?_;(repeat' (with_reducible apply Br.mk<;>intro _)))
     refine W.loop (fun z st=>∃ (x:Nat) (T:SS) (k:Int) (G:Gh),z+x=1∧(x=0∧T=T0∨x=1∧T=dcS l0 id false T0)∧k≤j+200+400 * x∧Sep (zm kb m dc::zi a 2 k T::zi b 2 (j+200) t1::R) G ∧
      st=(E [(2,.d (.int .i64 id)),(3,.d (.list [eL l0,eL l1])),(15,.d (.int .i64 pe)),(73,.d (.list [.gp a 0])),(74,.d (.int .i64 1)),(75,.d (.int .i64 (x:Nat)))],HB [],σ,G))
      ⟨1,_,zca,0,T0,j+200,G3,rfl,.inl ⟨rfl,rfl⟩,by omega,h5,rfl⟩ ?_
     rintro z st ⟨x,T,k,G4,hx,hT2,hk,h6,rfl⟩
     rcases hT2 with ⟨rfl,rfl⟩|⟨rfl,rfl⟩
     · by_cases hl2:l0=[]
       · have e2:((l0.length:Int)=0)=True:=eq_true (by rw [hl2];rfl)
         (refine goX e2 ?_;(repeat' (with_reducible apply Br.mk<;>intro _)))
         have e3:dcS l0 id false T=T:=if_pos hl2
         exact ⟨z - 1,_,by omega,zca,1,_,k,G4,by omega,.inr ⟨rfl,e3.symm⟩,by omega,h6,rfl⟩
       · have e2:((l0.length:Int)=0)=False:=eq_false (by have:=List.length_pos_iff.2 hl2;omega)
         have e3:dcS l0 id false T=zdo id false T:=if_neg hl2
         have hdec:=z1k (sb:=a) g0' (m:=k) (by omega) id false
         rw [hde,← e3] at hdec
         have h7:Sep (zi a 2 k T::zm kb m dc::zi b 2 (j+200) t1::R) G4:=h6.perm pp
         (refine goX e2 ?_;(repeat' (with_reducible apply Br.mk<;>intro _)))
         (refine goM (hdec) (h7) ?_)
         rintro _ _ G5 ⟨rfl,rfl⟩ h8
         have h8:Sep (zi a 2 (k+400) (dcS l0 id false T)::zm kb m dc::zi b 2 (j+200) t1::R) G5:=h8
         have h9:Sep (zm kb m dc::zi a 2 (k+400) (dcS l0 id false T)::zi b 2 (j+200) t1::R) G5:=h8.perm pp
         refine goS trivial ?_
         (refine goX trivial ?_;(repeat' (with_reducible apply Br.mk<;>intro _)))
         exact ⟨z - 1,_,by omega,zca,1,_,k+400,G5,by omega,.inr ⟨rfl,rfl⟩,by omega,h9,rfl⟩
     · (refine goX trivial ?_;(repeat' (with_reducible apply Br.mk<;>intro _)))
       exact Fin.eq rfl ⟨rfl,fin hRR (up (by omega) (by omega) (by omega) h6)⟩
 · -- recorded, decided
   rw [if_neg (by rw [q0];simp),if_neg (by rw [q1];simp)] at hR
   have g0':=g0.prpS l0 id
   have g1':=g1.prpS l1 id
   generalize prpS l0 id S0=T0 at h2 hR g0'
   generalize prpS l1 id S1=T1 at h2 hR g1'
   (refine goX trivial ?_;(repeat' (with_reducible apply Br.mk<;>intro _)))
   (refine goM (zoi kb m dc (by omega) hd id) (h2) ?_)
   rintro _ _ G3 ⟨rfl,rfl⟩ h3
   have h3:Sep (zm kb (m+6) (zmm dc id)::zi a 2 j T0::zi b 2 j T1::R) G3:=h3
   by_cases hz:zs5 dc id=0
   case neg =>
    rw [if_pos hz] at hR
    rw [z1l hz] at h3
    generalize hze:zs5 dc id=pe at hz hR ⊢
    refine goS hz ?_
    (refine goX hz ?_;(repeat' (with_reducible apply Br.mk<;>intro _)))
    exact Fin.eq rfl ⟨rfl,fin hR (up (by omega) (by omega) (by omega) h3)⟩
   rw [if_neg (by rw [hz];simp)] at hR
   rw [hz]
   refine goS trivial ?_
   (refine goX trivial ?_;(repeat' (with_reducible apply Br.mk<;>intro _)))
   refine W.loop (fun z st=>∃ (x:Nat) (U0 U1:SS) (k0 k1:Int) (G:Gh),z+x=2∧(x=0∧U0=T0∧U1=T1∧k0≤m+400∧k1≤m+400∨x=1∧U0=dcS l0 id true T0∧U1=T1∧k0≤m+800∧k1≤m+400∨x=2∧U0=dcS l0 id true T0∧U1=dcS l1 id true T1∧k0≤m+800∧k1≤m+800) ∧
    Sep (zm kb (m+6) (zmm dc id)::zi a 2 k0 U0::zi b 2 k1 U1::R) G ∧
    st=(E [(0,.d (.gp kb 0)),(2,.d (.int .i64 id)),(3,.d (.list [eL l0,eL l1])),(101,.d (zcv a b)),(102,.d (.int .i64 2)),(103,.d (.int .i64 (x:Nat)))],HB [],σ,G))
    ⟨2,_,zca,0,T0,T1,j,j,G3,rfl,.inl ⟨rfl,rfl,rfl,by omega,by omega⟩,h3,rfl⟩ ?_
   rintro z st ⟨x,U0,U1,k0,k1,G4,hx,hU,h6,rfl⟩
   rcases hU with ⟨rfl,rfl,rfl,b0,b1⟩|⟨rfl,rfl,rfl,b0,b1⟩|⟨rfl,rfl,rfl,b0,b1⟩
   · by_cases hl:l0=[]
     · have e1:(0<(l0.length:Int))=False:=eq_false (by rw [hl];simp)
       have e3:dcS l0 id true U0=U0:=if_pos hl
       (refine goX e1 ?_;(repeat' (with_reducible apply Br.mk<;>intro _)))
       exact ⟨z - 1,_,by omega,zca,1,U0,U1,k0,k1,G4,by omega,.inr (.inl ⟨rfl,e3.symm,rfl,by omega,by omega⟩),h6,rfl⟩
     · have e1:(0<(l0.length:Int))=True:=eq_true (by have:=List.length_pos_iff.2 hl;omega)
       have e3:dcS l0 id true U0=zdo id true U0:=if_neg hl
       have hdec:=z1k (sb:=a) g0' (m:=k0) (by omega) id true
       rw [hde,← e3] at hdec
       have h7:Sep (zi a 2 k0 U0::zm kb (m+6) (zmm dc id)::zi b 2 k1 U1::R) G4:=h6.perm pp
       (refine goX e1 ?_;(repeat' (with_reducible apply Br.mk<;>intro _)))
       (refine goM (hdec) (h7) ?_)
       rintro _ _ G5 ⟨rfl,rfl⟩ h8
       have h8:Sep (zi a 2 (k0+400) (dcS l0 id true U0)::zm kb (m+6) (zmm dc id)::zi b 2 k1 U1::R) G5:=h8
       have h9:Sep (zm kb (m+6) (zmm dc id)::zi a 2 (k0+400) (dcS l0 id true U0)::zi b 2 k1 U1::R) G5:=h8.perm pp
       refine goS trivial ?_
       (refine goX trivial ?_;(repeat' (with_reducible apply Br.mk<;>intro _)))
       exact ⟨z - 1,_,by omega,zca,1,_,U1,k0+400,k1,G5,by omega,.inr (.inl ⟨rfl,rfl,rfl,by omega,by omega⟩),h9,rfl⟩
   · by_cases hl:l1=[]
     · have e1:(0<(l1.length:Int))=False:=eq_false (by rw [hl];simp)
       have e3:dcS l1 id true U1=U1:=if_pos hl
       (refine goX e1 ?_;(repeat' (with_reducible apply Br.mk<;>intro _)))
       exact ⟨z - 1,_,by omega,zca,2,_,U1,k0,k1,G4,by omega,.inr (.inr ⟨rfl,rfl,e3.symm,by omega,by omega⟩),h6,rfl⟩
     · have e1:(0<(l1.length:Int))=True:=eq_true (by have:=List.length_pos_iff.2 hl;omega)
       have e3:dcS l1 id true U1=zdo id true U1:=if_neg hl
       have hdec:=z1k (sb:=b) g1' (m:=k1) (by omega) id true
       rw [hde,← e3] at hdec
       have h7:Sep (zi b 2 k1 U1::zm kb (m+6) (zmm dc id)::zi a 2 k0 (dcS l0 id true T0)::R) G4:=h6.perm pp
       (refine goX e1 ?_;(repeat' (with_reducible apply Br.mk<;>intro _)))
       (refine goM (hdec) (h7) ?_)
       rintro _ _ G5 ⟨rfl,rfl⟩ h8
       have h8:Sep (zi b 2 (k1+400) (dcS l1 id true U1)::zm kb (m+6) (zmm dc id)::zi a 2 k0 (dcS l0 id true T0)::R) G5:=h8
       have h9:Sep (zm kb (m+6) (zmm dc id)::zi a 2 k0 (dcS l0 id true T0)::zi b 2 (k1+400) (dcS l1 id true U1)::R) G5:=h8.perm pp
       refine goS trivial ?_
       (refine goX trivial ?_;(repeat' (with_reducible apply Br.mk<;>intro _)))
       exact ⟨z - 1,_,by omega,zca,2,_,_,k0,k1+400,G5,by omega,.inr (.inr ⟨rfl,rfl,rfl,by omega,by omega⟩),h9,rfl⟩
   · have hfor:=zv5 kb (m+6) (zmm dc id) (by omega) (hd.rec id) id
     rw [hout] at hfor
     (refine goX trivial ?_;(repeat' (with_reducible apply Br.mk<;>intro _)))
     (refine goM (hfor) (h6) ?_)
     rintro _ _ G5 ⟨rfl,rfl⟩ h7
     refine goS trivial ?_
     (refine goX trivial ?_;(repeat' (with_reducible apply Br.mk<;>intro _)))
     exact Fin.eq rfl ⟨rfl,fin hR (up (by omega) (by omega) (by omega) h7)⟩
end Go.Proofs.Ytlejjdbmmdghmaa
