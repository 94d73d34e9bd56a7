/-
 Layer 22 (slots): the slots of the specification: number,read,slot.
 Conditions: of each contract as it says.
-/
import Derived.Test.YtioojmlhmhgeeaaF22rc
import Derived.Test.YtioojmlhmhgeeaaF22x
import Derived.Test.YtioojmlhmhgeeaaS22e
namespace Go.Proofs.Ytioojmlhmhgeeaa
open Go Go.E2 C22
set_option linter.unusedSimpArgs false
set_option maxHeartbeats 1000000
theorem byte_at (s:Sec) {i:Nat} (h:i < 64):(List.drop i (s.1.map eB)).head?=some (.int .u8 (byteAt s i:Int)):=by
 rw [List.head?_drop,List.getElem?_map,List.getElem?_eq_getElem (by rw [s.2];exact h),byteAt_get s h];rfl
theorem rnumber_ok (s:Sec) (a:Nat) (ha:a+3 < 64):CallP Try.prog f_zz22 [eS s,.int .i64 a] (·=.d (.int .i64 (numAt s a))):=by
 refine callP_of_W fol zz22_cp ?_
 have h0:=byte_at s (i:=a*1) (by omega)
 have h1:=byte_at s (i:=(a+1)*1) (by omega)
 have h2:=byte_at s (i:=(a+2)*1) (by omega)
 have h3:=byte_at s (i:=(a+3)*1) (by omega)
 have t1:((a:Int)+1).toNat=a+1:=by omega
 have t2:((a:Int)+2).toNat=a+2:=by omega
 have t3:((a:Int)+3).toNat=a+3:=by omega
 have l0:=byteAt_lt s a
 have l1:=byteAt_lt s (a+1)
 have l2:=byteAt_lt s (a+2)
 have l3:=byteAt_lt s (a+3)
 simp only [Nat.mul_one] at h0 h1 h2 h3
 have h0':=h0
 refine goS trivial ?_
 (repeat' (first|(with_reducible first|refine W.seq ?_|refine W.block ?_)|((first|(with_reducible first|refine W.reg ?_|refine W.skip ?_|refine W.exit ?_|refine W.ret ?_|refine W.ifc ?_)|((with_reducible first|refine wG_decE (fun _ hG=>?_) (fun _ hG=>?_)|refine wG_decFE (fun _ hG=>?_) (fun _ hG=>?_))<;>(try simp -dsimp only [hG,decide_true,decide_false,not_true_eq_false,not_false_eq_true])<;>clear hG))<;>(try simp -dsimp (disch:=first|omega|(simp only [go_sem];omega)) only [go_sem,seval,Nat.reduceEqDiff,Nat.reduceLeDiff,h0,h1,h2,h3,t1,t2,t3,Nat.mul_one]))|simp -dsimp (disch:=first|omega|(simp only [go_sem];omega)) only [go_sem,seval,Nat.reduceEqDiff,Nat.reduceLeDiff,h0,h1,h2,h3,t1,t2,t3,Nat.mul_one]))
 exact Fin.p rfl (iE (by unfold numAt;omega))
def eFd (x:Fnd×Int):D:=.agg (x.1.s.1.map eB ++ [.bool x.1.good,.int .i64 x.2])
theorem rd_z {d:Dk} {i:Int} (h:(rd d i).2≠0):(rd d i).1=z0:=by
 unfold rd at h ⊢
 split
 · rfl
 · rename_i hk
   rw [if_neg hk] at h
   split
   · rename_i c hc
     rw [hc] at h
     simp only at h
     unfold celRd at h ⊢
     split
     · rename_i s hs;rw [hs] at h;simp at h
     · split
       · rfl
       · rename_i hs hb;rw [hs] at h;simp [hb] at h
   · rfl
theorem gCel_len (s:Sec) (x:D):(s.1.map eB ++ [x]).length=65:=by rw [List.length_append,sec_len];rfl
theorem gCel_64 (s:Sec) (x:D):(List.drop 64 (s.1.map eB ++ [x])).head?=some x:=by rw [List.drop_left' (sec_len s)];rfl
theorem gCel_0 (s:Sec) (x:D):List.take 64 (s.1.map eB ++ [x])=s.1.map eB:=List.take_left' (sec_len s)
theorem gCel_36 (s:Sec) (x:D):(List.drop 36 (s.1.map eB) ++ [x]).head?=some (.int .u8 (byteAt s 36:Int)):=by
 rw [List.head?_append,byte_at s (by decide)];rfl
theorem rread_ok (p:Nat) (d:Dk) (i:Int):CallR Try.prog f_zz33 [.gp p 0,.int .i64 i] [RefA p d] (·=.d (eFd (readC d i))):=by
 refine callR_of_W fol zz33_cp fun R G σ hs=>?_
 have hq:=(rRead_ok p d i).q hs
 have hz:=rd_z (d:=d) (i:=i)
 have hrc:readC d i=(⟨(rd d i).1,i,decide ((rd d i).2=0)&&goodS (rd d i).1⟩,if (rd d i).2=14 then 0 else (rd d i).2):=rfl
 rw [hrc]
 obtain⟨s,e,hse⟩:∃ s e,(s,e)=rd d i:=⟨_,_,rfl⟩
 rw [← hse] at hq hz ⊢
 simp only at hz ⊢
 unfold eGot at hq
 simp only at hq
 have hl:=gCel_len s (.int .i64 e)
 have h64:=gCel_64 s (.int .i64 e)
 have h0:=gCel_0 s (.int .i64 e)
 have h36:=gCel_36 s (.int .i64 e)
 have hzz:zr 64 (D.int .u8 0) ++ [.bool false,.int .i64 0]=z0.1.map eB ++ [.bool false,.int .i64 0]:=rfl
 by_cases e14:e=14
 · subst e14
   rw [hz (by decide)]
   refine goS trivial ?_
   (repeat' (first|(with_reducible first|refine W.seq ?_|refine W.block ?_)|((first|(with_reducible first|refine W.reg ?_|refine W.skip ?_|refine W.exit ?_|refine W.ret ?_|refine W.ifc ?_)|(apply wC_Q (hq);(focus (simp -dsimp (disch:=first|omega|(simp only [go_sem];omega)) only [go_sem,seval,Nat.reduceEqDiff,Nat.reduceLeDiff]<;>rfl));rintro _ rfl)|((with_reducible first|refine wG_decE (fun _ hG=>?_) (fun _ hG=>?_)|refine wG_decFE (fun _ hG=>?_) (fun _ hG=>?_))<;>(try simp -dsimp only [hG,decide_true,decide_false,not_true_eq_false,not_false_eq_true])<;>clear hG))<;>(try simp -dsimp (disch:=first|omega|(simp only [go_sem];omega)) only [go_sem,seval,Nat.reduceEqDiff,Nat.reduceLeDiff,hl,h64,h0]))|simp -dsimp (disch:=first|omega|(simp only [go_sem];omega)) only [go_sem,seval,Nat.reduceEqDiff,Nat.reduceLeDiff,hl,h64,h0]))
   (apply Fin.eq;(focus (simp -dsimp (disch:=first|omega|(simp only [go_sem];omega)) only [go_sem,seval,Nat.reduceEqDiff,Nat.reduceLeDiff]<;>rfl)))
   exact⟨rfl,rfl,rfl⟩
 by_cases e0:e=0
 · subst e0
   have l36:=byteAt_lt s 36
   have n0:=numAt_lt s 0
   have n32:=numAt_lt s 32
   have hf:(((numAt s 0:Int)=numAt s 32)=False∧True=True∧goodS s=false)∨(((numAt s 0:Int)=numAt s 32)=True∧(1≤(numAt s 0:Int))=False∧goodS s=false) ∨
    (((numAt s 0:Int)=numAt s 32)=True∧(1≤(numAt s 0:Int))=True∧goodS s=decide ((byteAt s 36:Int)≤55)):=by
    unfold goodS
    by_cases a1:numAt s 0=numAt s 32
    · by_cases a2:1≤numAt s 0
      · refine .inr (.inr ⟨eq_true (by omega),eq_true (by omega),?_⟩)
        simp only [a1,decide_true,Bool.true_and]
        rw [← a1,decide_eq_true a2,Bool.true_and]
        exact decide_eq_decide.2 (by omega)
      · exact .inr (.inl ⟨eq_true (by omega),eq_false (by omega),by rw [decide_eq_false a2];simp⟩)
    · exact .inl ⟨eq_false (by omega),rfl,by rw [decide_eq_false a1];simp⟩
   have c0:=rnumber_ok s 0 (by decide)
   have c32:=rnumber_ok s 32 (by decide)
   rcases hf with ⟨f1,f2,hg⟩|⟨f1,f2,hg⟩|⟨f1,f2,hg⟩
   all_goals
    rw [hg]
    refine goS trivial ?_
    (repeat' (first|(with_reducible first|refine W.seq ?_|refine W.block ?_)|((first|(with_reducible first|refine W.reg ?_|refine W.skip ?_|refine W.exit ?_|refine W.ret ?_|refine W.ifc ?_)|(apply wC_Q (hq);(focus (simp -dsimp (disch:=first|omega|(simp only [go_sem];omega)) only [go_sem,seval,Nat.reduceEqDiff,Nat.reduceLeDiff]<;>rfl));rintro _ rfl)|(apply wC_P (c0);(focus (simp -dsimp (disch:=first|omega|(simp only [go_sem];omega)) only [go_sem,seval,Nat.reduceEqDiff,Nat.reduceLeDiff]<;>rfl));rintro _ rfl)|(apply wC_P (c32);(focus (simp -dsimp (disch:=first|omega|(simp only [go_sem];omega)) only [go_sem,seval,Nat.reduceEqDiff,Nat.reduceLeDiff]<;>rfl));rintro _ rfl)|((with_reducible first|refine wG_decE (fun _ hG=>?_) (fun _ hG=>?_)|refine wG_decFE (fun _ hG=>?_) (fun _ hG=>?_))<;>(try simp -dsimp only [hG,decide_true,decide_false,not_true_eq_false,not_false_eq_true])<;>clear hG))<;>(try simp -dsimp (disch:=first|omega|(simp only [go_sem];omega)) only [go_sem,seval,Nat.reduceEqDiff,Nat.reduceLeDiff,hl,h64,h0,h36,f1,f2]))|simp -dsimp (disch:=first|omega|(simp only [go_sem];omega)) only [go_sem,seval,Nat.reduceEqDiff,Nat.reduceLeDiff,hl,h64,h0,h36,f1,f2]))
   all_goals
    (apply Fin.eq;(focus (simp -dsimp (disch:=first|omega|(simp only [go_sem];omega)) only [go_sem,seval,Nat.reduceEqDiff,Nat.reduceLeDiff]<;>rfl)))
    exact⟨rfl,rfl,by rw [List.append_assoc];rfl⟩
 · have e14':(e=14)=False:=eq_false e14
   have e0':(e=0)=False:=eq_false e0
   rw [hz e0]
   refine goS trivial ?_
   (repeat' (first|(with_reducible first|refine W.seq ?_|refine W.block ?_)|((first|(with_reducible first|refine W.reg ?_|refine W.skip ?_|refine W.exit ?_|refine W.ret ?_|refine W.ifc ?_)|(apply wC_Q (hq);(focus (simp -dsimp (disch:=first|omega|(simp only [go_sem];omega)) only [go_sem,seval,Nat.reduceEqDiff,Nat.reduceLeDiff]<;>rfl));rintro _ rfl)|((with_reducible first|refine wG_decE (fun _ hG=>?_) (fun _ hG=>?_)|refine wG_decFE (fun _ hG=>?_) (fun _ hG=>?_))<;>(try simp -dsimp only [hG,decide_true,decide_false,not_true_eq_false,not_false_eq_true])<;>clear hG))<;>(try simp -dsimp (disch:=first|omega|(simp only [go_sem];omega)) only [go_sem,seval,Nat.reduceEqDiff,Nat.reduceLeDiff,hl,h64,h0,e14',e0']))|simp -dsimp (disch:=first|omega|(simp only [go_sem];omega)) only [go_sem,seval,Nat.reduceEqDiff,Nat.reduceLeDiff,hl,h64,h0,e14',e0']))
   (apply Fin.eq;(focus (simp -dsimp (disch:=first|omega|(simp only [go_sem];omega)) only [go_sem,seval,Nat.reduceEqDiff,Nat.reduceLeDiff]<;>rfl)))
   refine⟨rfl,rfl,?_⟩
   simp only [e0',e14',decide_false,Bool.false_and,if_false]
   rfl
end Go.Proofs.Ytioojmlhmhgeeaa
/-
 Layer 22 (slots): the slots of the specification: slot,heal.
 Conditions: of each contract as it says.
-/
namespace Go.Proofs.Ytioojmlhmhgeeaa
open Go Go.E2 C22
set_option linter.unusedSimpArgs false
set_option maxHeartbeats 1000000
def btR (a b:Fnd):Int:=if b.good=true∧(a.good=false∨numAt a.s 0 < numAt b.s 0) then 1 else if a.good=true then 0 else -1
def fdC (x:Fnd×Int):List D:=x.1.s.1.map eB ++ [.bool x.1.good,.int .i64 x.2]
theorem eFd_eq (x:Fnd×Int):eFd x=.agg (fdC x):=rfl
theorem fdC_len (x:Fnd×Int):(fdC x).length=66:=rCel_len _ _ _
theorem fdC_64 (x:Fnd×Int):(List.drop 64 (fdC x)).head?=some (.bool x.1.good):=rCel_64 _ _ _
theorem fdC_65 (x:Fnd×Int):(List.drop 65 (fdC x)).head?=some (.int .i64 x.2):=rCel_65 _ _ _
theorem fdC_0 (x:Fnd×Int):List.take 64 (fdC x)=x.1.s.1.map eB:=rCel_0 _ _ _
theorem fdC_66 (x:Fnd×Int):List.take 66 (fdC x)=fdC x:=List.take_of_length_le (by rw [fdC_len];exact Nat.le_refl _)
theorem fdC_one (x:Fnd×Int):(fdC x).all D.one=true:=by unfold fdC;rw [List.all_append,eB_one];rfl
def slC (a b:Fnd×Int) (bt e:Int):List D:=fdC a ++ fdC b ++ [.int .i64 bt,.int .i64 e]
def zFd:Fnd×Int:=(zF,0)
def slotS (d:Dk) (first i:Int):(Fnd×Int)×(Fnd×Int)×Int×Int :=
 if (readC d (first+2*i)).2≠0 then (zFd,zFd,0,(readC d (first+2*i)).2) else
 if (readC d (first+2*i+1)).2≠0 then (zFd,zFd,0,(readC d (first+2*i+1)).2) else
 (readC d (first+2*i),readC d (first+2*i+1),btR (readC d (first+2*i)).1 (readC d (first+2*i+1)).1,0)
def eSl (x:(Fnd×Int)×(Fnd×Int)×Int×Int):D:=.agg (slC x.1 x.2.1 x.2.2.1 x.2.2.2)
def eSt (p:Nat) (first n:Int):D:=.agg [.gp p 0,.int .i64 first,.int .i64 n]
attribute [go_sem] eSt
theorem rslot_ok (p:Nat) (d:Dk) (first n i:Int) (h0:0≤first) (h1:0≤i) (h2:first+2*i+1≤1000000) :
 CallR Try.prog f_zz9 [eSt p first n,.int .i64 i] [RefA p d] (·=.d (eSl (slotS d first i))):=by
 refine callR_of_W fol zz9_cp fun R G σ hs=>?_
 have hqa:=(rread_ok p d (first+2*i)).q hs
 have hqb:=(rread_ok p d (first+2*i+1)).q hs
 unfold slotS
 generalize readC d (first+2*i)=a at hqa ⊢
 generalize readC d (first+2*i+1)=b at hqb ⊢
 rw [eFd_eq] at hqa hqb
 have la:=fdC_len a
 have lb:=fdC_len b
 have oa:=fdC_one a
 have ob:=fdC_one b
 have a64:=fdC_64 a
 have b64:=fdC_64 b
 have a65:=fdC_65 a
 have b65:=fdC_65 b
 have a0:=fdC_0 a
 have b0:=fdC_0 b
 have a66:=fdC_66 a
 have b66:=fdC_66 b
 have d132:List.drop 132 (fdC a)=[]:=List.drop_of_length_le (by rw [la];decide)
 have t132:List.take 132 (fdC a)=fdC a:=List.take_of_length_le (by rw [la];decide)
 have d133:List.drop 133 (fdC a)=[]:=List.drop_of_length_le (by rw [la];decide)
 have d67:List.drop 67 (fdC b)=[]:=List.drop_of_length_le (by rw [lb];decide)
 have t134:List.take 134 (fdC a)=fdC a:=List.take_of_length_le (by rw [la];decide)
 have t68:List.take 68 (fdC b)=fdC b:=List.take_of_length_le (by rw [lb];decide)
 have zz:zr 64 (D.int .u8 0) ++ [.bool false,.int .i64 0]=fdC zFd:=rfl
 have zzz:zr 64 (D.int .u8 0) ++ [.bool false,.int .i64 0] ++ zr 64 (.int .u8 0) ++ [.bool false,.int .i64 0,.int .i64 0,.int .i64 0]=slC zFd zFd 0 0:=rfl
 by_cases ea:a.2=0
 · by_cases eb:b.2=0
   · rw [if_neg (by rw [ea];simp),if_neg (by rw [eb];simp)]
     have ca:=rnumber_ok a.1.s 0 (by decide)
     have cb:=rnumber_ok b.1.s 0 (by decide)
     have na:=numAt_lt a.1.s 0
     have nb:=numAt_lt b.1.s 0
     have hcm:(((numAt b.1.s 0:Int)≤numAt a.1.s 0)=True∧(numAt a.1.s 0 < numAt b.1.s 0)=False)∨(((numAt b.1.s 0:Int)≤numAt a.1.s 0)=False∧(numAt a.1.s 0 < numAt b.1.s 0)=True):=by
      by_cases h:numAt a.1.s 0 < numAt b.1.s 0
      · exact .inr ⟨eq_false (by omega),eq_true h⟩
      · exact .inl ⟨eq_true (by omega),eq_false h⟩
     cases ga:a.1.good<;>cases gb:b.1.good
     all_goals rcases hcm with ⟨hc1,hc2⟩|⟨hc1,hc2⟩
     all_goals
      have hbt:btR a.1 b.1=btR a.1 b.1:=rfl
      conv at hbt=>rhs;unfold btR
      simp only [ga,gb,hc2,Bool.false_eq_true,Bool.true_eq_false,false_and,true_and,and_true,and_false,or_true,true_or,or_false,false_or,if_true,if_false] at hbt
      rw [hbt]
      rw [ga] at a64
      rw [gb] at b64
      rw [ea] at a65
      rw [eb] at b65
      refine goS trivial ?_
      (repeat' (first|(with_reducible first|refine W.seq ?_|refine W.block ?_)|((first|(with_reducible first|refine W.reg ?_|refine W.skip ?_|refine W.exit ?_|refine W.ret ?_|refine W.ifc ?_)|(apply wC_Q (hqa);(focus (simp -dsimp (disch:=first|omega|(simp only [go_sem];omega)) only [go_sem,seval,Nat.reduceEqDiff,Nat.reduceLeDiff]<;>rfl));rintro _ rfl)|(apply wC_Q (hqb);(focus (simp -dsimp (disch:=first|omega|(simp only [go_sem];omega)) only [go_sem,seval,Nat.reduceEqDiff,Nat.reduceLeDiff]<;>rfl));rintro _ rfl)|(apply wC_P (ca);(focus (simp -dsimp (disch:=first|omega|(simp only [go_sem];omega)) only [go_sem,seval,Nat.reduceEqDiff,Nat.reduceLeDiff]<;>rfl));rintro _ rfl)|(apply wC_P (cb);(focus (simp -dsimp (disch:=first|omega|(simp only [go_sem];omega)) only [go_sem,seval,Nat.reduceEqDiff,Nat.reduceLeDiff]<;>rfl));rintro _ rfl)|((with_reducible first|refine wG_decE (fun _ hG=>?_) (fun _ hG=>?_)|refine wG_decFE (fun _ hG=>?_) (fun _ hG=>?_))<;>(try simp -dsimp only [hG,decide_true,decide_false,not_true_eq_false,not_false_eq_true])<;>clear hG))<;>(try simp -dsimp (disch:=first|omega|(simp only [go_sem];omega)) only [go_sem,seval,Nat.reduceEqDiff,Nat.reduceLeDiff,la,lb,oa,ob,a64,b64,a65,b65,a0,b0,a66,b66,d132,t132,d133,d67,hc1]))|simp -dsimp (disch:=first|omega|(simp only [go_sem];omega)) only [go_sem,seval,Nat.reduceEqDiff,Nat.reduceLeDiff,la,lb,oa,ob,a64,b64,a65,b65,a0,b0,a66,b66,d132,t132,d133,d67,hc1]))
      (apply Fin.eq;(focus (simp -dsimp (disch:=first|omega|(simp only [go_sem];omega)) only [go_sem,seval,Nat.reduceEqDiff,Nat.reduceLeDiff,la,lb,t134,t68]<;>rfl)))
      exact⟨rfl,rfl,by unfold eSl slC;rw [List.append_assoc (fdC a ++ fdC b)];rfl⟩
   · rw [if_neg (by rw [ea];simp),if_pos eb]
     have eb':(b.2=0)=False:=eq_false eb
     rw [ea] at a65
     refine goS trivial ?_
     (repeat' (first|(with_reducible first|refine W.seq ?_|refine W.block ?_)|((first|(with_reducible first|refine W.reg ?_|refine W.skip ?_|refine W.exit ?_|refine W.ret ?_|refine W.ifc ?_)|(apply wC_Q (hqa);(focus (simp -dsimp (disch:=first|omega|(simp only [go_sem];omega)) only [go_sem,seval,Nat.reduceEqDiff,Nat.reduceLeDiff]<;>rfl));rintro _ rfl)|(apply wC_Q (hqb);(focus (simp -dsimp (disch:=first|omega|(simp only [go_sem];omega)) only [go_sem,seval,Nat.reduceEqDiff,Nat.reduceLeDiff]<;>rfl));rintro _ rfl)|((with_reducible first|refine wG_decE (fun _ hG=>?_) (fun _ hG=>?_)|refine wG_decFE (fun _ hG=>?_) (fun _ hG=>?_))<;>(try simp -dsimp only [hG,decide_true,decide_false,not_true_eq_false,not_false_eq_true])<;>clear hG))<;>(try simp -dsimp (disch:=first|omega|(simp only [go_sem];omega)) only [go_sem,seval,Nat.reduceEqDiff,Nat.reduceLeDiff,la,lb,oa,ob,a64,b64,a65,b65,a0,b0,a66,b66,eb']))|simp -dsimp (disch:=first|omega|(simp only [go_sem];omega)) only [go_sem,seval,Nat.reduceEqDiff,Nat.reduceLeDiff,la,lb,oa,ob,a64,b64,a65,b65,a0,b0,a66,b66,eb']))
     (apply Fin.eq;(focus (simp -dsimp (disch:=first|omega|(simp only [go_sem];omega)) only [go_sem,seval,Nat.reduceEqDiff,Nat.reduceLeDiff]<;>rfl)))
     exact⟨rfl,rfl,rfl⟩
 · rw [if_pos ea]
   have ea':(a.2=0)=False:=eq_false ea
   refine goS trivial ?_
   (repeat' (first|(with_reducible first|refine W.seq ?_|refine W.block ?_)|((first|(with_reducible first|refine W.reg ?_|refine W.skip ?_|refine W.exit ?_|refine W.ret ?_|refine W.ifc ?_)|(apply wC_Q (hqa);(focus (simp -dsimp (disch:=first|omega|(simp only [go_sem];omega)) only [go_sem,seval,Nat.reduceEqDiff,Nat.reduceLeDiff]<;>rfl));rintro _ rfl)|(apply wC_Q (hqb);(focus (simp -dsimp (disch:=first|omega|(simp only [go_sem];omega)) only [go_sem,seval,Nat.reduceEqDiff,Nat.reduceLeDiff]<;>rfl));rintro _ rfl)|((with_reducible first|refine wG_decE (fun _ hG=>?_) (fun _ hG=>?_)|refine wG_decFE (fun _ hG=>?_) (fun _ hG=>?_))<;>(try simp -dsimp only [hG,decide_true,decide_false,not_true_eq_false,not_false_eq_true])<;>clear hG))<;>(try simp -dsimp (disch:=first|omega|(simp only [go_sem];omega)) only [go_sem,seval,Nat.reduceEqDiff,Nat.reduceLeDiff,la,lb,oa,ob,a64,b64,a65,b65,a0,b0,a66,b66,ea']))|simp -dsimp (disch:=first|omega|(simp only [go_sem];omega)) only [go_sem,seval,Nat.reduceEqDiff,Nat.reduceLeDiff,la,lb,oa,ob,a64,b64,a65,b65,a0,b0,a66,b66,ea']))
   (apply Fin.eq;(focus (simp -dsimp (disch:=first|omega|(simp only [go_sem];omega)) only [go_sem,seval,Nat.reduceEqDiff,Nat.reduceLeDiff]<;>rfl)))
   exact⟨rfl,rfl,rfl⟩
end Go.Proofs.Ytioojmlhmhgeeaa
