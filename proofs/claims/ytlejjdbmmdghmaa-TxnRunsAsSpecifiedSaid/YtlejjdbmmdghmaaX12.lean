/-
 Layer 40 (txn): the law's world: begin,open,has,SameList,state.
 Conditions: of each contract as it says.
-/
import Derived.Test.YtlejjdbmmdghmaaQ4
set_option linter.unusedSimpArgs false
namespace Go.Proofs.Ytlejjdbmmdghmaa
open Go Go.E2 C22 C40
set_option maxHeartbeats 1000000
def rep (n:Nat):List Str:=List.replicate n []
def WoA (wb p0 p1 p2 kb s0 s1:Nat):As:=ze wb [.gp p0 0,.gp p1 0,.gp p2 0,.gp kb 0,.list [.gp s0 0,.gp s1 0]]
def zm7 (wb p0 p1 p2:Nat):As:=ze wb [.gp p0 0,.gp p1 0,.gp p2 0,.nilP,.nilS]
theorem z1v (wb p0 p1 p2:Nat) (d0 d1 d2:Dk) (m:Int) (hm:m≤500000000) (h0:SlD d0 m (rep 8)) (h1:SlD d1 m (rep 8)) (h2:SlD d2 m (rep 4)) :
 zy Try.prog f_zz6 [.gp wb 0] [zm7 wb p0 p1 p2,zp p0 d0,zp p1 d1,zp p2 d2]
  (fun r post=>∃ kb s0 s1,r=.d (.bool true)∧post=[WoA wb p0 p1 p2 kb s0 s1,zi kb m (rep 4),zee s0 2 m (rep 8) [],zee s1 2 m (rep 8) []]):=by
 refine zg fol zz6_cp fun R G σ hs=>?_
 have hs:Sep (zm7 wb p0 p1 p2::zp p0 d0::zp p1 d1::zp p2 d2::R) G:=hs
 have hg:=Sep.get (b:=wb) (cs:=[.gp p0 0,.gp p1 0,.gp p2 0,.nilP,.nilS]) hs
 have hod:=zqd p2 d2 m (rep 4) h2 hm (by decide) (by decide)
 have ho0:=zrp p0 d0 m 2 h0 hm (by omega) (by omega)
 have ho1:=zrp p1 d1 m 2 h1 hm (by omega) (by omega)
 refine goS trivial ?_
 refine goR hg ?_
 have h3:Sep (zp p2 d2::zm7 wb p0 p1 p2::zp p0 d0::zp p1 d1::R) G:=hs.perm pp
 (refine goM (hod) (h3) ?_)
 rintro _ _ G1 ⟨kb,rfl,rfl⟩ h4
 have h4:Sep (zi kb m (rep 4)::zm7 wb p0 p1 p2::zp p0 d0::zp p1 d1::R) G1:=h4
 have hg1:=Sep.get (b:=wb) (cs:=[.gp p0 0,.gp p1 0,.gp p2 0,.nilP,.nilS]) h4.tail
 have h5:Sep (zp p0 d0::zi kb m (rep 4)::zm7 wb p0 p1 p2::zp p1 d1::R) G1:=h4.perm pp
 refine goS trivial ?_
 (refine goX hg1 ?_;(repeat' (with_reducible apply Br.mk<;>intro _)))
 (refine goM (ho0) (h5) ?_)
 rintro _ _ G2 ⟨s0,rfl,rfl⟩ h6
 have h6:Sep (zee s0 2 m (rep 8) []::zi kb m (rep 4)::zm7 wb p0 p1 p2::zp p1 d1::R) G2:=h6
 have h7:Sep (zp p1 d1::zm7 wb p0 p1 p2::zee s0 2 m (rep 8) []::zi kb m (rep 4)::R) G2:=h6.perm pp
 have hg2:=Sep.get (b:=wb) (cs:=[.gp p0 0,.gp p1 0,.gp p2 0,.nilP,.nilS]) h7.tail
 refine goS trivial ?_
 (refine goX hg2 ?_;(repeat' (with_reducible apply Br.mk<;>intro _)))
 (refine goM (ho1) (h7) ?_)
 rintro _ _ G3 ⟨s1,rfl,rfl⟩ h8
 have h8:Sep (zee s1 2 m (rep 8) []::zm7 wb p0 p1 p2::zee s0 2 m (rep 8) []::zi kb m (rep 4)::R) G3:=h8
 have h9:Sep (zm7 wb p0 p1 p2::zi kb m (rep 4)::zee s0 2 m (rep 8) []::zee s1 2 m (rep 8) []::R) G3:=h8.perm pp
 have hg3:=Sep.get (b:=wb) (cs:=[.gp p0 0,.gp p1 0,.gp p2 0,.nilP,.nilS]) h9
 have h10:=Sep.set (cs':=[.gp p0 0,.gp p1 0,.gp p2 0,.gp kb 0,.list [.gp s0 0,.gp s1 0]]) h9
 refine goS trivial ?_
 (refine goX hg3 ?_;(repeat' (with_reducible apply Br.mk<;>intro _)))
 exact Fin.eq rfl ⟨rfl,_,⟨kb,s0,s1,rfl,rfl⟩,h10⟩
theorem zzw (sb n:Nat) (m:Int) (c:List Str) (ws:List (Int×Wr)) (hm:m≤600000000) (hn:n≤16) (hc:c.length=2 * n+4) (hl:∀ b∈c,b.length≤60) (k:Int) (v:Int) (s:Str) :
 zy Try.prog f_zz27 [.gp sb 0,.int .i64 k,.int .i64 v,.str s] [zee sb n m c ws] (fun r post=>r=.d (.bool (decide (getR n c k=(v,s,0))))∧post=[zee sb n m c ws]):=by
 refine zg fol zz27_cp fun R G σ hs=>?_
 have hget:=zrx sb n m c ws hm hn hc hl k
 generalize getR n c k=x at hget ⊢
 obtain ⟨a,b,e⟩:=x
 refine goS trivial ?_
 refine goR trivial ?_
 (refine goM (hget) (hs) ?_)
 rintro _ _ G1 ⟨rfl,rfl⟩ h1
 by_cases he:e=0
 · subst he
   by_cases ha:a=v
   · subst ha
     by_cases hb:b=s
     · subst hb
       rw [decide_eq_true rfl]
       refine goS trivial ?_
       (refine goX trivial ?_;(repeat' (with_reducible apply Br.mk<;>intro _)))
       exact Fin.eq rfl ⟨rfl,_,⟨rfl,rfl⟩,h1⟩
     · rw [decide_eq_false (fun h=>hb (by injection h with _ h;injection h))]
       refine goS trivial ?_
       (refine goX hb ?_;(repeat' (with_reducible apply Br.mk<;>intro _)))
       exact Fin.eq rfl ⟨rfl,_,⟨rfl,rfl⟩,h1⟩
   · rw [decide_eq_false (fun h=>ha (by injection h))]
     refine goS trivial ?_
     (refine goX ha ?_;(repeat' (with_reducible apply Br.mk<;>intro _)))
     exact Fin.eq rfl ⟨rfl,_,⟨rfl,rfl⟩,h1⟩
 · rw [decide_eq_false (fun h=>he (by injection h with _ h;injection h))]
   refine goS trivial ?_
   (refine goX he ?_;(repeat' (with_reducible apply Br.mk<;>intro _)))
   exact Fin.eq rfl ⟨rfl,_,⟨rfl,rfl⟩,h1⟩
end Go.Proofs.Ytlejjdbmmdghmaa
namespace Go.Proofs.Ytlejjdbmmdghmaa
open Go Go.E2 C22 C40
set_option maxHeartbeats 2000000
theorem zy.args {P:Program} {f:FuncId} {xs ys:List D} {pre:List As} {Q:AV→List As→Prop} (h:zy P f ys pre Q) (hl:zhc xs ys):zy P f xs pre Q:=fun R G σ hs=>(h R G σ hs).args hl
theorem zry (ps:List (List Tw)):(ps.map eL).all (zb 1)=true:=by
 rw [List.all_eq_true];intro x hx
 obtain ⟨y,_,rfl⟩:=List.mem_map.1 hx
 rfl
theorem zwg (l:List Tw):zba Try.prog f_zz67 [eL l] (·=.d (.bool (decide (l≠[])))):=by
 refine zal fol zz67_cp ?_
 by_cases h:l=[]
 · have e:(0<(l.length:Int))=False:=eq_false (by rw [h];simp)
   refine goS trivial ?_
   (refine goX e ?_;(repeat' (with_reducible apply Br.mk<;>intro _)))
   exact Fin.p rfl (by simp [h])
 · have e:(0<(l.length:Int))=True:=eq_true (by have:=List.length_pos_iff.2 h;omega)
   refine goS trivial ?_
   (refine goX e ?_;(repeat' (with_reducible apply Br.mk<;>intro _)))
   exact Fin.p rfl (by simp [h])
def ixQ:List (List Tw)→Nat→Int
 | [],_=>-1
 | p::ps,i=>if p≠[] then (i:Int) else ixQ ps (i+1)
def zc2 (ps:List (List Tw)):Bool:=ps.any fun p=>decide (p≠[])
theorem zwh:∀ (l:List (List Tw)) (i:Nat),decide (0≤ixQ l i)=zc2 l
 | [],_=>rfl
 | x::l,i=>by
   unfold ixQ
   by_cases hp:x=[]
   · rw [if_neg (by simpa using hp),zwh l (i+1)];simp [hp,zc2]
   · rw [if_pos hp];simp [hp,zc2]
theorem zwi (ps:List (List Tw)) (hL:ps.length≤9223372036854775807):zba Try.prog f_zz2 [.list (ps.map eL),.fn f_zz67] (·=.d (.int .i64 (ixQ ps 0))):=by
 refine zal fol zz2_cp ?_
 have hall:=zry ps
 refine goS trivial ?_
 refine goR trivial ?_
 refine W.loop (fun m st=>∃ (i:Nat),m+i=ps.length∧ixQ (ps.drop i) i=ixQ ps 0 ∧
  st=(E [(0,.d (.list (ps.map eL))),(1,.d (.fn f_zz67)),(7,.d (.int .i64 (ps.length:Nat))),(8,.d (.int .i64 (i:Nat)))],HB [],[],zdi))
  ⟨_,_,zb7,0,rfl,rfl,rfl⟩ ?_
 rintro m st ⟨i,hi,he,rfl⟩
 by_cases hlt:i<ps.length
 · have hlt':(i:Int)<(ps.length:Int):=by omega
   rw [List.drop_eq_getElem_cons hlt,ixQ] at he
   by_cases hb:ps[i]=[]
   · rw [if_neg (by simpa using hb)] at he
     have hrun:=zwg ps[i]
     rw [decide_eq_false (by simpa using hb)] at hrun
     (refine zb1 (nn hlt' hall) (hrun) ?_;(repeat' (with_reducible apply Br.mk<;>intro _)))
     exact ⟨m - 1,_,by omega,zb7,i+1,by omega,he,rfl⟩
   · rw [if_pos hb] at he
     have hrun:=zwg ps[i]
     rw [decide_eq_true hb] at hrun
     (refine zb1 (nn hlt' hall) (hrun) ?_;(repeat' (with_reducible apply Br.mk<;>intro _)))
     exact Fin.p rfl (by rw [he])
 · have:i=ps.length:=by omega
   subst this
   rw [List.drop_length] at he
   have hx:((ps.length:Int)<(ps.length:Int))=False:=eq_false (by omega)
   (refine goX hx ?_;(repeat' (with_reducible apply Br.mk<;>intro _)))
   exact Fin.p rfl (by rw [← he];rfl)
theorem ziu (ps:List (List Tw)) (hL:ps.length≤9223372036854775807):zba Try.prog f_zz0 [.list (ps.map eL),.fn f_zz67] (·=.d (.bool (zc2 ps))):=by
 refine zal fol zz0_cp ?_
 rw [← zwh ps 0]
 refine goS trivial ?_
 (refine zb1 trivial (zwi ps hL) ?_;(repeat' (with_reducible apply Br.mk<;>intro _)))
 exact Fin.p rfl rfl
end Go.Proofs.Ytlejjdbmmdghmaa
namespace Go.Proofs.Ytlejjdbmmdghmaa
open Go Go.E2 C22 C40
set_option maxHeartbeats 2000000
abbrev zau (a b:Nat):D:=.list [.gp a 0,.gp b 0]
theorem z1w (kb a b:Nat) (id:Int) (ps:List (List Tw)) (hL:ps.length≤9223372036854775807) (h:ps.length≠2∨zc2 ps=false∨¬ zb8 id) :
 zba Try.prog f_zz72 [.gp kb 0,zau a b,.int .i64 id,.list (ps.map eL)] (·=.tup [.bool false,.int .i64 1]):=by
 refine zal fol zz72_cp ?_
 have hcon:=ziu ps hL
 by_cases h1:ps.length=2
 · have e1:((ps.length:Int)=2)=True:=eq_true (by omega)
   cases h2:zc2 ps with
   | false =>
    rw [h2] at hcon
    refine goS trivial ?_
    (refine zb1 e1 (hcon) ?_;(repeat' (with_reducible apply Br.mk<;>intro _)))
    exact Fin.p rfl rfl
   | true =>
    rw [h2] at hcon
    by_cases c1:id<1
    · refine goS trivial ?_
      (refine zb1 (nn e1 c1) (hcon) ?_;(repeat' (with_reducible apply Br.mk<;>intro _)))
      exact Fin.p rfl rfl
    · have c1':(id<1)=False:=eq_false c1
      have c2:1099511627776<id:=by
       rcases h with h|h|h
       · exact absurd h1 h
       · rw [h2] at h;cases h
       · unfold zb8 at h;omega
      refine goS trivial ?_
      (refine zb1 (nn e1 (nn c1' c2)) (hcon) ?_;(repeat' (with_reducible apply Br.mk<;>intro _)))
      exact Fin.p rfl rfl
 · have e1:((ps.length:Int)=2)=False:=eq_false (by omega)
   refine goS trivial ?_
   (refine zb1 e1 (hcon) ?_;(repeat' (with_reducible apply Br.mk<;>intro _)))
   exact Fin.p rfl rfl
end Go.Proofs.Ytlejjdbmmdghmaa
namespace Go.Proofs.Ytlejjdbmmdghmaa
open Go Go.E2 C22 C40
set_option maxHeartbeats 1000000
@[go_sem] theorem vi20 (a b:Nat):zcn 1 (some (.list [.gp a 0,.gp b 0])) (.d (.int .i64 0))=some (.cptr [.gp a 0]):=rfl
@[go_sem] theorem vi21 (a b:Nat):zcn 1 (some (.list [.gp a 0,.gp b 0])) (.d (.int .i64 1))=some (.cptr [.gp b 0]):=rfl
end Go.Proofs.Ytlejjdbmmdghmaa
namespace Go.Proofs.Ytlejjdbmmdghmaa
open Go Go.E2 C22 C40
set_option maxHeartbeats 4000000
@[go_sem] theorem viL0 (x y:List Tw):zcn 1 (some (.list [eL x,eL y])) (.d (.int .i64 0))=some (.cptr [eL x]):=rfl
@[go_sem] theorem viL1 (x y:List Tw):zcn 1 (some (.list [eL x,eL y])) (.d (.int .i64 1))=some (.cptr [eL y]):=rfl
@[go_sem] theorem viS (a:Nat):zcn 1 (some (.list [.gp a 0])) (.d (.int .i64 0))=some (.cptr [.gp a 0]):=rfl
def PrepI (l0 l1:List Tw) (id:Int) (S0 S1:SS) (i:Nat) (t0 t1:SS):Prop :=
 (i=0∧t0=S0∧t1=S1)∨(i=1∧zk8 l0 id S0=0∧t0=prpS l0 id S0∧t1=S1)∨(i=2∧zk8 l0 id S0=0∧zk8 l1 id S1=0∧t0=prpS l0 id S0∧t1=prpS l1 id S1)
theorem z5x (kb a b:Nat) (m:Int) (dc:List Str) (S0 S1:SS) (V0 V1:List Vl) (hm:m≤300000000) (hd:DOk dc) (g0:zc1 2 S0 V0) (g1:zc1 2 S1 V1) (id:Int) (l0 l1:List Tw)
 (hl0:l0.length≤9223372036854775807) (hl1:l1.length≤9223372036854775807) (hid:zb8 id) (hso:zc2 [l0,l1]=true) :
 zy Try.prog f_zz72 [.gp kb 0,zau a b,.int .i64 id,.list [eL l0,eL l1]] [zi kb m dc,zj a 2 m S0,zj b 2 m S1]
  (fun r post=>r=.tup [.bool (zit dc S0 S1 id l0 l1).is,.int .i64 (zit dc S0 S1 id l0 l1).e] ∧
    post=[zi kb (m+1000) (zit dc S0 S1 id l0 l1).dc,zj a 2 (m+1000) (zit dc S0 S1 id l0 l1).s0,zj b 2 (m+1000) (zit dc S0 S1 id l0 l1).s1]):=by
 refine zg fol zz72_cp fun R G σ hs=>?_
 have hcon:zba Try.prog f_zz0 [.list [eL l0,eL l1],.fn f_zz67] (·=.d (.bool (zc2 [l0,l1]))):=ziu [l0,l1] (by simp)
 rw [hso] at hcon
 have hs:Sep (zi kb m dc::zj a 2 m S0::zj b 2 m S1::R) G:=hs
 have hR1:¬ ((l0=[]∧l1=[])∨¬ zb8 id):=by
  rintro (⟨rfl,rfl⟩|h)
  · simp [zc2] at hso
  · exact h hid
 have hR:zit dc S0 S1 id l0 l1=if zix dc id=true then ⟨false,9,dc,S0,S1⟩ else
  if zk8 l0 id S0≠0 then ⟨false,zk8 l0 id S0,dc,S0,S1⟩ else
  if zk8 l1 id S1≠0 then ⟨false,zk8 l1 id S1,dc,dcS l0 id false (prpS l0 id S0),S1⟩ else
  if recE dc id≠0 then ⟨false,recE dc id,dc,prpS l0 id S0,prpS l1 id S1⟩ else
  ⟨true,0,zqe (zho dc id) id,dcS l0 id true (prpS l0 id S0),dcS l1 id true (prpS l1 id S1)⟩:=by unfold zit;rw [if_neg hR1]
 generalize zit dc S0 S1 id l0 l1=RR at hR ⊢
 have c1:(id<1)=False:=eq_false (by have:=hid.1;omega)
 have c2:(1099511627776<id)=False:=eq_false (by have:=hid.2;omega)
 have hout:zr6 id=0:=if_pos hid
 have hde:zwt id=0:=by rw [zp6,if_pos hid]
 have fin:∀ {X:RunR} {G':Gh},RR=X→Sep (zi kb (m+1000) X.dc::zj a 2 (m+1000) X.s0::zj b 2 (m+1000) X.s1::R) G'→∃ post,(AV.tup [.bool X.is,.int .i64 X.e]=.tup [.bool RR.is,.int .i64 RR.e] ∧
  post=[zi kb (m+1000) RR.dc,zj a 2 (m+1000) RR.s0,zj b 2 (m+1000) RR.s1])∧Sep (post++R) G':=fun h1 h2=>by
  subst h1;exact ⟨_,⟨rfl,rfl⟩,h2⟩
 have up:∀ {j j0 j1:Int} {dc':List Str} {t0 t1:SS} {G':Gh},j≤m+1000→j0≤m+1000→j1≤m+1000→Sep (zi kb j dc'::zj a 2 j0 t0::zj b 2 j1 t1::R) G'→Sep (zi kb (m+1000) dc'::zj a 2 (m+1000) t0::zj b 2 (m+1000) t1::R) G':=fun h1 h2 h3 h=>by
  have k1:=Sep.desk_mono h1 h
  have k2:=(Sep.sit_mono h2 (k1.perm pp:Sep (zj a 2 _ _::zi kb (m+1000) _::zj b 2 _ _::R) _))
  have k3:=(Sep.sit_mono h3 (k2.perm pp:Sep (zj b 2 _ _::zj a 2 (m+1000) _::zi kb (m+1000) _::R) _))
  exact k3.perm pp
 refine goS trivial ?_
 (refine zb1 (nn c1 c2) (hcon) ?_;(repeat' (with_reducible apply Br.mk<;>intro _)))
 (refine goM (zef kb m dc (by omega) hd id) (hs) ?_)
 rintro _ _ G1 ⟨rfl,rfl⟩ h1
 have h1:Sep (zi kb m dc::zj a 2 m S0::zj b 2 m S1::R) G1:=h1
 rw [hout]
 cases ho:zix dc id with
 | true =>
  rw [ho,if_pos rfl] at hR
  refine goS trivial ?_
  (refine goX trivial ?_;(repeat' (with_reducible apply Br.mk<;>intro _)))
  exact Fin.eq rfl ⟨rfl,fin hR (up (by omega) (by omega) (by omega) h1)⟩
 | false =>
 rw [ho,if_neg (by simp)] at hR
 refine goS trivial ?_
 (refine goX trivial ?_;(repeat' (with_reducible apply Br.mk<;>intro _)))
 refine W.loop (fun z st=>∃ (i:Nat) (t0 t1:SS) (j:Int) (G:Gh),z+i=2∧PrepI l0 l1 id S0 S1 i t0 t1∧j≤m+200 * i∧Sep (zi kb m dc::zj a 2 j t0::zj b 2 j t1::R) G ∧
  st=(E [(0,.d (.gp kb 0)),(1,.d (zau a b)),(2,.d (.int .i64 id)),(3,.d (.list [eL l0,eL l1])),(52,.d (.list [eL l0,eL l1])),(53,.d (.int .i64 2)),(54,.d (.int .i64 (i:Nat)))],HB [],σ,G))
  ⟨_,_,zb7,0,S0,S1,m,G1,rfl,.inl ⟨rfl,rfl,rfl⟩,by omega,h1,rfl⟩ ?_
 rintro z st ⟨i,t0,t1,j,G2,hi,hP,hj,h2,rfl⟩
 rcases hP with ⟨rfl,rfl,rfl⟩|⟨rfl,q0,rfl,rfl⟩|⟨rfl,q0,q1,rfl,rfl⟩
 · -- the first part
   by_cases hl:l0=[]
   · have e1:((l0.length:Int)=0)=True:=eq_true (by rw [hl];rfl)
     (refine goX e1 ?_;(repeat' (with_reducible apply Br.mk<;>intro _)))
     exact ⟨z - 1,_,by omega,zb7,1,_,_,j,_,by omega,.inr (.inl ⟨rfl,by unfold zk8;rw [if_pos hl],by unfold prpS;rw [if_pos hl],rfl⟩),by omega,h2,rfl⟩
   have e1:((l0.length:Int)=0)=False:=eq_false (by have:=List.length_pos_iff.2 hl;omega)
   have hpe:zk8 l0 id t0=prepE 2 t0.1 t0.2 id l0:=if_neg hl
   have hps:prpS l0 id t0=prepS 2 id l0 t0:=if_neg hl
   have h3:Sep (zj a 2 j t0::zi kb m dc::zj b 2 j t1::R) G2:=h2.perm pp
   have hprep:=z1n (sb:=a) g0 (m:=j) (by omega) id l0 hl0
   rw [← hpe,← hps] at hprep
   (refine goX e1 ?_;(repeat' (with_reducible apply Br.mk<;>intro _)))
   (refine goM (hprep) (h3) ?_)
   rintro _ _ G3 ⟨rfl,rfl⟩ h4
   have h4:Sep (zj a 2 (j+200) (prpS l0 id t0)::zi kb m dc::zj b 2 j t1::R) G3:=h4
   have h5:Sep (zi kb m dc::zj a 2 (j+200) (prpS l0 id t0)::zj b 2 (j+200) t1::R) G3:=by
    have k1:=Sep.sit_mono (k:=j+200) (by omega) (h4.perm pp:Sep (zj b 2 j t1::zj a 2 (j+200) (prpS l0 id t0)::zi kb m dc::R) G3)
    exact k1.perm pp
   by_cases hz:zk8 l0 id t0=0
   · rw [hz]
     refine goS trivial ?_
     (refine goX trivial ?_;(repeat' (with_reducible apply Br.mk<;>intro _)))
     exact ⟨z - 1,_,by omega,zb7,1,_,_,j+200,_,by omega,.inr (.inl ⟨rfl,hz,rfl,rfl⟩),by omega,h5,rfl⟩
   · have hRR:=hR
     rw [if_pos hz] at hRR
     have hsame:prpS l0 id t0=t0:=by rw [hps];unfold prepS;rw [if_neg (by rw [← hpe];exact hz)]
     rw [hsame] at h5
     generalize hze:zk8 l0 id t0=pe at hz hRR ⊢
     refine goS hz ?_
     (refine goX hz ?_;(repeat' (with_reducible apply Br.mk<;>intro _)))
     refine W.loop (fun z st=>st=(E [(15,.d (.int .i64 pe)),(74,.d (.int .i64 0)),(75,.d (.int .i64 0))],HB [],σ,G3)) ⟨0,_,zb7,rfl⟩ ?_
     rintro z st rfl
     (refine goX trivial ?_;(repeat' (with_reducible apply Br.mk<;>intro _)))
     exact Fin.eq rfl ⟨rfl,fin hRR (up (by omega) (by omega) (by omega) h5)⟩
 · -- the second part
   by_cases hl:l1=[]
   · have e1:((l1.length:Int)=0)=True:=eq_true (by rw [hl];rfl)
     (refine goX e1 ?_;(repeat' (with_reducible apply Br.mk<;>intro _)))
     exact ⟨z - 1,_,by omega,zb7,2,_,_,j,_,by omega,.inr (.inr ⟨rfl,q0,by unfold zk8;rw [if_pos hl],rfl,by unfold prpS;rw [if_pos hl]⟩),by omega,h2,rfl⟩
   have e1:((l1.length:Int)=0)=False:=eq_false (by have:=List.length_pos_iff.2 hl;omega)
   have hpe:zk8 l1 id t1=prepE 2 t1.1 t1.2 id l1:=if_neg hl
   have hps:prpS l1 id t1=prepS 2 id l1 t1:=if_neg hl
   have g0':=g0.prpS l0 id
   generalize hT:prpS l0 id S0=T0 at h2 hR g0'
   have h3:Sep (zj b 2 j t1::zi kb m dc::zj a 2 j T0::R) G2:=h2.perm pp
   have hprep:=z1n (sb:=b) g1 (m:=j) (by omega) id l1 hl1
   rw [← hpe,← hps] at hprep
   (refine goX e1 ?_;(repeat' (with_reducible apply Br.mk<;>intro _)))
   (refine goM (hprep) (h3) ?_)
   rintro _ _ G3 ⟨rfl,rfl⟩ h4
   have h4:Sep (zj b 2 (j+200) (prpS l1 id t1)::zi kb m dc::zj a 2 j T0::R) G3:=h4
   have h5:Sep (zi kb m dc::zj a 2 (j+200) T0::zj b 2 (j+200) (prpS l1 id t1)::R) G3:=by
    have k1:=Sep.sit_mono (k:=j+200) (by omega) (h4.perm pp:Sep (zj a 2 j T0::zj b 2 (j+200) (prpS l1 id t1)::zi kb m dc::R) G3)
    exact k1.perm pp
   by_cases hz:zk8 l1 id t1=0
   · rw [hz]
     refine goS trivial ?_
     (refine goX trivial ?_;(repeat' (with_reducible apply Br.mk<;>intro _)))
     exact ⟨z - 1,_,by omega,zb7,2,_,_,j+200,_,by omega,.inr (.inr ⟨rfl,q0,hz,hT.symm,rfl⟩),by omega,h5,rfl⟩
   · have hRR:=hR
     rw [if_neg (by rw [q0];simp),if_pos hz] at hRR
     have hsame:prpS l1 id t1=t1:=by rw [hps];unfold prepS;rw [if_neg (by rw [← hpe];exact hz)]
     rw [hsame] at h5
     generalize hze:zk8 l1 id t1=pe at hz hRR ⊢
     refine goS hz ?_
     (refine goX hz ?_;(repeat' (with_reducible apply Br.mk<;>intro _)))
     refine W.loop (fun z st=>∃ (x:Nat) (T:SS) (k:Int) (G:Gh),z+x=1∧(x=0∧T=T0∨x=1∧T=dcS l0 id false T0)∧k≤j+200+400 * x∧Sep (zi kb m dc::zj a 2 k T::zj b 2 (j+200) t1::R) G ∧
      st=(E [(2,.d (.int .i64 id)),(3,.d (.list [eL l0,eL l1])),(15,.d (.int .i64 pe)),(73,.d (.list [.gp a 0])),(74,.d (.int .i64 1)),(75,.d (.int .i64 (x:Nat)))],HB [],σ,G))
      ⟨1,_,zb7,0,T0,j+200,G3,rfl,.inl ⟨rfl,rfl⟩,by omega,h5,rfl⟩ ?_
     rintro z st ⟨x,T,k,G4,hx,hT2,hk,h6,rfl⟩
     rcases hT2 with ⟨rfl,rfl⟩|⟨rfl,rfl⟩
     · by_cases hl2:l0=[]
       · have e2:((l0.length:Int)=0)=True:=eq_true (by rw [hl2];rfl)
         (refine goX e2 ?_;(repeat' (with_reducible apply Br.mk<;>intro _)))
         have e3:dcS l0 id false T=T:=if_pos hl2
         exact ⟨z - 1,_,by omega,zb7,1,_,k,G4,by omega,.inr ⟨rfl,e3.symm⟩,by omega,h6,rfl⟩
       · have e2:((l0.length:Int)=0)=False:=eq_false (by have:=List.length_pos_iff.2 hl2;omega)
         have e3:dcS l0 id false T=zfl id false T:=if_neg hl2
         have hdec:=z5r (sb:=a) g0' (m:=k) (by omega) id false
         rw [hde,← e3] at hdec
         have h7:Sep (zj a 2 k T::zi kb m dc::zj b 2 (j+200) t1::R) G4:=h6.perm pp
         (refine goX e2 ?_;(repeat' (with_reducible apply Br.mk<;>intro _)))
         (refine goM (hdec) (h7) ?_)
         rintro _ _ G5 ⟨rfl,rfl⟩ h8
         have h8:Sep (zj a 2 (k+400) (dcS l0 id false T)::zi kb m dc::zj b 2 (j+200) t1::R) G5:=h8
         have h9:Sep (zi kb m dc::zj a 2 (k+400) (dcS l0 id false T)::zj b 2 (j+200) t1::R) G5:=h8.perm pp
         refine goS trivial ?_
         (refine goX trivial ?_;(repeat' (with_reducible apply Br.mk<;>intro _)))
         exact ⟨z - 1,_,by omega,zb7,1,_,k+400,G5,by omega,.inr ⟨rfl,rfl⟩,by omega,h9,rfl⟩
     · (refine goX trivial ?_;(repeat' (with_reducible apply Br.mk<;>intro _)))
       exact Fin.eq rfl ⟨rfl,fin hRR (up (by omega) (by omega) (by omega) h6)⟩
 · -- recorded, decided
   rw [if_neg (by rw [q0];simp),if_neg (by rw [q1];simp)] at hR
   have g0':=g0.prpS l0 id
   have g1':=g1.prpS l1 id
   generalize prpS l0 id S0=T0 at h2 hR g0'
   generalize prpS l1 id S1=T1 at h2 hR g1'
   (refine goX trivial ?_;(repeat' (with_reducible apply Br.mk<;>intro _)))
   (refine goM (zkw kb m dc (by omega) hd id) (h2) ?_)
   rintro _ _ G3 ⟨rfl,rfl⟩ h3
   have h3:Sep (zi kb (m+6) (zho dc id)::zj a 2 j T0::zj b 2 j T1::R) G3:=h3
   by_cases hz:recE dc id=0
   case neg =>
    rw [if_pos hz] at hR
    rw [z1o hz] at h3
    generalize hze:recE dc id=pe at hz hR ⊢
    refine goS hz ?_
    (refine goX hz ?_;(repeat' (with_reducible apply Br.mk<;>intro _)))
    exact Fin.eq rfl ⟨rfl,fin hR (up (by omega) (by omega) (by omega) h3)⟩
   rw [if_neg (by rw [hz];simp)] at hR
   rw [hz]
   refine goS trivial ?_
   (refine goX trivial ?_;(repeat' (with_reducible apply Br.mk<;>intro _)))
   refine W.loop (fun z st=>∃ (x:Nat) (U0 U1:SS) (k0 k1:Int) (G:Gh),z+x=2∧(x=0∧U0=T0∧U1=T1∧k0≤m+400∧k1≤m+400∨x=1∧U0=dcS l0 id true T0∧U1=T1∧k0≤m+800∧k1≤m+400∨x=2∧U0=dcS l0 id true T0∧U1=dcS l1 id true T1∧k0≤m+800∧k1≤m+800) ∧
    Sep (zi kb (m+6) (zho dc id)::zj a 2 k0 U0::zj b 2 k1 U1::R) G ∧
    st=(E [(0,.d (.gp kb 0)),(2,.d (.int .i64 id)),(3,.d (.list [eL l0,eL l1])),(101,.d (zau a b)),(102,.d (.int .i64 2)),(103,.d (.int .i64 (x:Nat)))],HB [],σ,G))
    ⟨2,_,zb7,0,T0,T1,j,j,G3,rfl,.inl ⟨rfl,rfl,rfl,by omega,by omega⟩,h3,rfl⟩ ?_
   rintro z st ⟨x,U0,U1,k0,k1,G4,hx,hU,h6,rfl⟩
   rcases hU with ⟨rfl,rfl,rfl,b0,b1⟩|⟨rfl,rfl,rfl,b0,b1⟩|⟨rfl,rfl,rfl,b0,b1⟩
   · by_cases hl:l0=[]
     · have e1:(0<(l0.length:Int))=False:=eq_false (by rw [hl];simp)
       have e3:dcS l0 id true U0=U0:=if_pos hl
       (refine goX e1 ?_;(repeat' (with_reducible apply Br.mk<;>intro _)))
       exact ⟨z - 1,_,by omega,zb7,1,U0,U1,k0,k1,G4,by omega,.inr (.inl ⟨rfl,e3.symm,rfl,by omega,by omega⟩),h6,rfl⟩
     · have e1:(0<(l0.length:Int))=True:=eq_true (by have:=List.length_pos_iff.2 hl;omega)
       have e3:dcS l0 id true U0=zfl id true U0:=if_neg hl
       have hdec:=z5r (sb:=a) g0' (m:=k0) (by omega) id true
       rw [hde,← e3] at hdec
       have h7:Sep (zj a 2 k0 U0::zi kb (m+6) (zho dc id)::zj b 2 k1 U1::R) G4:=h6.perm pp
       (refine goX e1 ?_;(repeat' (with_reducible apply Br.mk<;>intro _)))
       (refine goM (hdec) (h7) ?_)
       rintro _ _ G5 ⟨rfl,rfl⟩ h8
       have h8:Sep (zj a 2 (k0+400) (dcS l0 id true U0)::zi kb (m+6) (zho dc id)::zj b 2 k1 U1::R) G5:=h8
       have h9:Sep (zi kb (m+6) (zho dc id)::zj a 2 (k0+400) (dcS l0 id true U0)::zj b 2 k1 U1::R) G5:=h8.perm pp
       refine goS trivial ?_
       (refine goX trivial ?_;(repeat' (with_reducible apply Br.mk<;>intro _)))
       exact ⟨z - 1,_,by omega,zb7,1,_,U1,k0+400,k1,G5,by omega,.inr (.inl ⟨rfl,rfl,rfl,by omega,by omega⟩),h9,rfl⟩
   · by_cases hl:l1=[]
     · have e1:(0<(l1.length:Int))=False:=eq_false (by rw [hl];simp)
       have e3:dcS l1 id true U1=U1:=if_pos hl
       (refine goX e1 ?_;(repeat' (with_reducible apply Br.mk<;>intro _)))
       exact ⟨z - 1,_,by omega,zb7,2,_,U1,k0,k1,G4,by omega,.inr (.inr ⟨rfl,rfl,e3.symm,by omega,by omega⟩),h6,rfl⟩
     · have e1:(0<(l1.length:Int))=True:=eq_true (by have:=List.length_pos_iff.2 hl;omega)
       have e3:dcS l1 id true U1=zfl id true U1:=if_neg hl
       have hdec:=z5r (sb:=b) g1' (m:=k1) (by omega) id true
       rw [hde,← e3] at hdec
       have h7:Sep (zj b 2 k1 U1::zi kb (m+6) (zho dc id)::zj a 2 k0 (dcS l0 id true T0)::R) G4:=h6.perm pp
       (refine goX e1 ?_;(repeat' (with_reducible apply Br.mk<;>intro _)))
       (refine goM (hdec) (h7) ?_)
       rintro _ _ G5 ⟨rfl,rfl⟩ h8
       have h8:Sep (zj b 2 (k1+400) (dcS l1 id true U1)::zi kb (m+6) (zho dc id)::zj a 2 k0 (dcS l0 id true T0)::R) G5:=h8
       have h9:Sep (zi kb (m+6) (zho dc id)::zj a 2 k0 (dcS l0 id true T0)::zj b 2 (k1+400) (dcS l1 id true U1)::R) G5:=h8.perm pp
       refine goS trivial ?_
       (refine goX trivial ?_;(repeat' (with_reducible apply Br.mk<;>intro _)))
       exact ⟨z - 1,_,by omega,zb7,2,_,_,k0,k1+400,G5,by omega,.inr (.inr ⟨rfl,rfl,rfl,by omega,by omega⟩),h9,rfl⟩
   · have hfor:=zox kb (m+6) (zho dc id) (by omega) (hd.rec id) id
     rw [hout] at hfor
     (refine goX trivial ?_;(repeat' (with_reducible apply Br.mk<;>intro _)))
     (refine goM (hfor) (h6) ?_)
     rintro _ _ G5 ⟨rfl,rfl⟩ h7
     refine goS trivial ?_
     (refine goX trivial ?_;(repeat' (with_reducible apply Br.mk<;>intro _)))
     exact Fin.eq rfl ⟨rfl,fin hR (up (by omega) (by omega) (by omega) h7)⟩
end Go.Proofs.Ytlejjdbmmdghmaa
