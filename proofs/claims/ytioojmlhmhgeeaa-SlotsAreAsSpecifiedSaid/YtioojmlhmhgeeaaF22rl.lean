/-
 Layer 22 (slots): the slots of the specification: change,Put,Kill.
 Conditions: of each contract as it says.
-/
import Derived.Test.YtioojmlhmhgeeaaF22rj
import Derived.Test.YtioojmlhmhgeeaaF22x
import Derived.Test.YtioojmlhmhgeeaaF22zo
namespace Go.Proofs.Ytioojmlhmhgeeaa
open Go Go.E2 C22
set_option linter.unusedSimpArgs false
set_option maxHeartbeats 2000000
theorem mk1_wrap {q:Int} (h0:0≤q) (h1:q≤4294967296) (b:Str):mk1 (q % 4294967296) b=mk1 q b:=by
 by_cases h:q=4294967296
 · subst h
   have e:qb ((4294967296:Int) % 4294967296)=qb 4294967296:=by decide
   unfold mk1
   apply Subtype.ext
   simp only [e]
 · rw [Int.emod_eq_of_lt h0 (by omega)]
theorem rchange_ok (p:Nat) (d:Dk) (first n i:Int) (b:Str) (h0:0≤first) (h1:0≤i) (h2:first+2*i+1≤1000000) (hb:b.length≤55) (hn:d.steps≤800000000) :
 CallS Try.prog f_zz1 [eSt p first n,.int .i64 i,.str b] [RefA p d] (fun r post=>r=.d (.int .i64 (changeR d first i b).2)∧post=[RefA p (changeR d first i b).1]):=by
 refine callS_of_W fol zz1_cp fun R G σ hs=>?_
 have hok:Okd d:=Okd_of_ref hs
 have hch:changeR d first i b=if (slotR d first i).2.2≠0 then (d,(slotR d first i).2.2) else
  if (healR d (slotR d first i).1 (slotR d first i).2.1).2≠0 then healR d (slotR d first i).1 (slotR d first i).2.1 else
  change2 (healR d (slotR d first i).1 (slotR d first i).2.1).1 first i (mk1 (nextQ (slotR d first i).1) b):=rfl
 have hqs:=(rslot_ok p d first n i h0 h1 h2).q hs
 have hv:=slV d first i
 obtain⟨sl,hsl⟩:∃ sl,sl=slotS d first i:=⟨_,rfl⟩
 rw [← hsl] at hqs hv
 unfold eSl at hqs
 rw [hch]
 cases hv with
 | err e he0 hr =>
  rw [hr]
  simp only
  rw [if_pos he0]
  simp only at hqs
  have so:=slC_one zFd zFd 0 e
  have sl:=slC_len zFd zFd 0 e
  have s133:=slC_133 zFd zFd 0 e
  have he':(e=0)=False:=eq_false he0
  refine goS trivial ?_
  (repeat' (first|(with_reducible first|refine W.seq ?_|refine W.block ?_)|((first|(with_reducible first|refine W.reg ?_|refine W.skip ?_|refine W.exit ?_|refine W.ret ?_|refine W.ifc ?_)|(apply wC_Q (hqs);(focus (simp -dsimp (disch:=first|omega|(simp only [go_sem];omega)) only [go_sem,seval,Nat.reduceEqDiff,Nat.reduceLeDiff]<;>rfl));rintro _ rfl)|((with_reducible first|refine wG_decE (fun _ hG=>?_) (fun _ hG=>?_)|refine wG_decFE (fun _ hG=>?_) (fun _ hG=>?_))<;>(try simp -dsimp only [hG,decide_true,decide_false,not_true_eq_false,not_false_eq_true])<;>clear hG))<;>(try simp -dsimp (disch:=first|omega|(simp only [go_sem];omega)) only [go_sem,seval,Nat.reduceEqDiff,Nat.reduceLeDiff,so,sl,s133,he']))|simp -dsimp (disch:=first|omega|(simp only [go_sem];omega)) only [go_sem,seval,Nat.reduceEqDiff,Nat.reduceLeDiff,so,sl,s133,he']))
  exact Fin.eq rfl ⟨rfl,_,⟨rfl,rfl⟩,hs⟩
 | good a c best other bt ha hc hr hbt hcs hheal =>
  rw [hr]
  simp only
  rw [if_neg (by simp)]
  simp only at hqs
  have so:=slC_one (a,0) (c,0) bt 0
  have sl2:=slC_len (a,0) (c,0) bt 0
  have s132:=slC_132 (a,0) (c,0) bt 0
  have s133:=slC_133 (a,0) (c,0) bt 0
  have t134:List.take 134 (slC (a,0) (c,0) bt 0)=slC (a,0) (c,0) bt 0:=List.take_of_length_le (by rw [sl2];decide)
  refine goS trivial ?_
  (repeat' (first|(with_reducible first|refine W.seq ?_|refine W.block ?_)|((first|(with_reducible first|refine W.reg ?_|refine W.skip ?_|refine W.exit ?_|refine W.ret ?_|refine W.ifc ?_)|(apply wC_Q (hqs);(focus (simp -dsimp (disch:=first|omega|(simp only [go_sem];omega)) only [go_sem,seval,Nat.reduceEqDiff,Nat.reduceLeDiff]<;>rfl));rintro _ rfl)|((with_reducible first|refine wG_decE (fun _ hG=>?_) (fun _ hG=>?_)|refine wG_decFE (fun _ hG=>?_) (fun _ hG=>?_))<;>(try simp -dsimp only [hG,decide_true,decide_false,not_true_eq_false,not_false_eq_true])<;>clear hG))<;>(try simp -dsimp (disch:=first|omega|(simp only [go_sem];omega)) only [go_sem,seval,Nat.reduceEqDiff,Nat.reduceLeDiff,so,sl2,s133,t134]))|simp -dsimp (disch:=first|omega|(simp only [go_sem];omega)) only [go_sem,seval,Nat.reduceEqDiff,Nat.reduceLeDiff,so,sl2,s133,t134]))
  have hcall:=rheal_ok p d first n i (a,0) (c,0) h0 h1 h2 (by omega) ha hc
  rw [← hbt] at hcall
  (refine goM (hcall) (hs) ?_)
  rintro _ _ G3 ⟨x,hx,rfl,rfl⟩ hs3'
  have hs3:Sep (RefA p x.1::R) G3:=hs3'
  clear hs3' hcall
  simp only at hx
  rw [hheal] at hx
  have hho:=healR_up hok (by omega) best other
  rw [← hx] at hho ⊢
  have hho2:=hho.2.2
  have hok1:=hho.1
  obtain⟨d1,e1⟩:=x
  simp only at hs3 hho2 hok1 ⊢
  by_cases he1:e1=0
  case neg =>
   have he':(e1=0)=False:=eq_false he1
   rw [if_pos he1]
   refine goS trivial ?_
   (repeat' (first|(with_reducible first|refine W.seq ?_|refine W.block ?_)|((first|(with_reducible first|refine W.reg ?_|refine W.skip ?_|refine W.exit ?_|refine W.ret ?_|refine W.ifc ?_)|((with_reducible first|refine wG_decE (fun _ hG=>?_) (fun _ hG=>?_)|refine wG_decFE (fun _ hG=>?_) (fun _ hG=>?_))<;>(try simp -dsimp only [hG,decide_true,decide_false,not_true_eq_false,not_false_eq_true])<;>clear hG))<;>(try simp -dsimp (disch:=first|omega|(simp only [go_sem];omega)) only [go_sem,seval,Nat.reduceEqDiff,Nat.reduceLeDiff,he']))|simp -dsimp (disch:=first|omega|(simp only [go_sem];omega)) only [go_sem,seval,Nat.reduceEqDiff,Nat.reduceLeDiff,he']))
   exact Fin.eq rfl ⟨rfl,_,⟨rfl,rfl⟩,hs3⟩
  subst he1
  rw [if_neg (by simp)]
  have hq:∃ q:Int,0≤q∧q≤4294967295∧mk1 (nextQ best) b=mk1 (q+1) b∧(bt < 0∧q=0∨bt=0∧q=numAt a.s 0∨bt=1∧q=numAt c.s 0):=by
   rcases hcs with ⟨hb1,hg⟩|⟨hb1,hba,hg⟩|⟨hb1,hba,hg⟩
   · exact⟨0,by omega,by omega,by unfold nextQ;rw [if_neg (by rw [hg];simp)];rfl,.inl ⟨by omega,rfl⟩⟩
   · have:=numAt_lt a.s 0
     refine⟨numAt a.s 0,by omega,by omega,?_,.inr (.inl ⟨hb1,rfl⟩)⟩
     unfold nextQ;rw [if_pos hg,hba,mk1_wrap (by omega) (by omega)]
   · have:=numAt_lt c.s 0
     refine⟨numAt c.s 0,by omega,by omega,?_,.inr (.inr ⟨hb1,rfl⟩)⟩
     unfold nextQ;rw [if_pos hg,hba,mk1_wrap (by omega) (by omega)]
  obtain⟨q,hq0,hq1,hqm,hqc⟩:=hq
  rw [hqm]
  have hcopy:=Copy_ok (q+1) (by omega) (by omega) b hb
  obtain⟨N,hN⟩:∃ N,N=mk1 (q+1) b:=⟨_,rfl⟩
  rw [← hN] at hcopy ⊢
  have hc2:change2 d1 first i N=if (writeR d1 (first+2*i+1) N).2≠0 then writeR d1 (first+2*i+1) N else writeR (writeR d1 (first+2*i+1) N).1 (first+2*i) N:=rfl
  rw [hc2]
  have hnum:(bt < 0)=True∧q=0∨(bt < 0)=False∧bt=0∧q=numAt a.s 0∨(bt < 0)=False∧bt=1∧q=numAt c.s 0:=by
   rcases hqc with ⟨h,h'⟩|⟨h,h'⟩|⟨h,h'⟩
   · exact .inl ⟨eq_true h,h'⟩
   · exact .inr (.inl ⟨eq_false (by omega),h,h'⟩)
   · exact .inr (.inr ⟨eq_false (by omega),h,h'⟩)
  have ca:=rnumber_ok a.s 0 (by decide)
  have cc:=rnumber_ok c.s 0 (by decide)
  have hla:List.take 64 (slC (a,0) (c,0) bt 0)=a.s.1.map eB:=by
   unfold slC
   rw [List.append_assoc,List.take_append_of_le_length (by rw [fdC_len];decide)];exact fdC_0 (a,0)
  have hlc:List.take 64 (List.drop 66 (slC (a,0) (c,0) bt 0))=c.s.1.map eB:=by
   unfold slC
   rw [List.append_assoc,List.drop_left' (fdC_len (a,0)),List.take_append_of_le_length (by rw [fdC_len];decide)];exact fdC_0 (c,0)
  refine hnum.elim (fun h=>?n0) (fun h=>h.elim (fun h=>?n1) (fun h=>?n2))
  case' n0 =>
   obtain⟨f1,hqv⟩:=h
   have f1':(0≤bt)=False:=eq_false (by have:=of_eq_true f1;omega)
   refine goS trivial ?_
   (repeat' (first|(with_reducible first|refine W.seq ?_|refine W.block ?_)|((first|(with_reducible first|refine W.reg ?_|refine W.skip ?_|refine W.exit ?_|refine W.ret ?_|refine W.ifc ?_)|((with_reducible first|refine wG_decE (fun _ hG=>?_) (fun _ hG=>?_)|refine wG_decFE (fun _ hG=>?_) (fun _ hG=>?_))<;>(try simp -dsimp only [hG,decide_true,decide_false,not_true_eq_false,not_false_eq_true])<;>clear hG))<;>(try simp -dsimp (disch:=first|omega|(simp only [go_sem];omega)) only [go_sem,seval,Nat.reduceEqDiff,Nat.reduceLeDiff,sl2,s132,f1']))|simp -dsimp (disch:=first|omega|(simp only [go_sem];omega)) only [go_sem,seval,Nat.reduceEqDiff,Nat.reduceLeDiff,sl2,s132,f1']))
  case' n1 =>
   obtain⟨f1,rfl,hqv⟩:=h
   have f1':((0:Int)≤0)=True:=eq_true (by decide)
   refine goS trivial ?_
   (repeat' (first|(with_reducible first|refine W.seq ?_|refine W.block ?_)|((first|(with_reducible first|refine W.reg ?_|refine W.skip ?_|refine W.exit ?_|refine W.ret ?_|refine W.ifc ?_)|(apply wC_P (ca);(focus (simp -dsimp (disch:=first|omega|(simp only [go_sem];omega)) only [go_sem,seval,Nat.reduceEqDiff,Nat.reduceLeDiff]<;>rfl));rintro _ rfl)|((with_reducible first|refine wG_decE (fun _ hG=>?_) (fun _ hG=>?_)|refine wG_decFE (fun _ hG=>?_) (fun _ hG=>?_))<;>(try simp -dsimp only [hG,decide_true,decide_false,not_true_eq_false,not_false_eq_true])<;>clear hG))<;>(try simp -dsimp (disch:=first|omega|(simp only [go_sem];omega)) only [go_sem,seval,Nat.reduceEqDiff,Nat.reduceLeDiff,sl2,s132,f1',hla]))|simp -dsimp (disch:=first|omega|(simp only [go_sem];omega)) only [go_sem,seval,Nat.reduceEqDiff,Nat.reduceLeDiff,sl2,s132,f1',hla]))
  case' n2 =>
   obtain⟨f1,rfl,hqv⟩:=h
   have f1':((0:Int)≤1)=True:=eq_true (by decide)
   refine goS trivial ?_
   (repeat' (first|(with_reducible first|refine W.seq ?_|refine W.block ?_)|((first|(with_reducible first|refine W.reg ?_|refine W.skip ?_|refine W.exit ?_|refine W.ret ?_|refine W.ifc ?_)|(apply wC_P (cc);(focus (simp -dsimp (disch:=first|omega|(simp only [go_sem];omega)) only [go_sem,seval,Nat.reduceEqDiff,Nat.reduceLeDiff]<;>rfl));rintro _ rfl)|((with_reducible first|refine wG_decE (fun _ hG=>?_) (fun _ hG=>?_)|refine wG_decFE (fun _ hG=>?_) (fun _ hG=>?_))<;>(try simp -dsimp only [hG,decide_true,decide_false,not_true_eq_false,not_false_eq_true])<;>clear hG))<;>(try simp -dsimp (disch:=first|omega|(simp only [go_sem];omega)) only [go_sem,seval,Nat.reduceEqDiff,Nat.reduceLeDiff,sl2,s132,f1',hlc]))|simp -dsimp (disch:=first|omega|(simp only [go_sem];omega)) only [go_sem,seval,Nat.reduceEqDiff,Nat.reduceLeDiff,sl2,s132,f1',hlc]))
  all_goals
   refine W.loop (fun z st=>∃ (j:Nat) (q9:Int) (kx:Int) (dx:Dk) (b7:Blk) (G:Gh),j≤2∧z=2 - j∧q9=q∧kx=1 - (j:Int)∧dx.steps≤d.steps+2+2*j ∧
    (j=0∧dx=d1∨j=1∧dx=(writeR d1 (first+2*i+1) N).1∧(writeR d1 (first+2*i+1) N).2=0 ∨
      j=2∧(writeR d1 (first+2*i+1) N).2=0∧dx=(writeR (writeR d1 (first+2*i+1) N).1 (first+2*i) N).1∧(writeR (writeR d1 (first+2*i+1) N).1 (first+2*i) N).2=0) ∧
    Sep (RefA p dx::R) G ∧
    st=(E [(1,.d (.int .i64 i)),(2,.d (.str b)),(3,.ptr 0 3 1 0),(9,.d (.int .i64 q9)),(10,.d (.int .i64 kx))],HB [(3,⟨1,some [.gp p 0,.int .i64 first,.int .i64 n]⟩),(7,b7)],σ,G))
    ⟨_,_,stle,0,_,_,d1,_,G3,by omega,rfl,hqv.symm,by decide,by omega,.inl ⟨rfl,rfl⟩,hs3,rfl⟩ ?_
   rintro z st ⟨j,q9,kx,dx,b7,G4,hj,rfl,rfl,hkx,hdst,hcs2,hs4,rfl⟩
   rcases hcs2 with ⟨rfl,hdx⟩|⟨rfl,hdx,hz1⟩|⟨rfl,hz1,hdx,hz2⟩
   · obtain rfl:kx=1:=by omega
     have hw:writeR dx (first+2*i+1) N=if (wr dx (first+2*i+1) N).2≠0 then wr dx (first+2*i+1) N else sy (wr dx (first+2*i+1) N).1:=rfl
     have hokx:Okd dx:=Okd_of_ref hs4
     have hwu:=(wr_ok hokx (by omega) (first+2*i+1) N).2
     have hwr:=(writeR_up hokx (by omega) (first+2*i+1) N).2.2
     have ead:first+2*i+1=first+2*i+1:=by omega
     have hge:(0≤(1:Int))=True:=eq_true (by decide)
     refine goR hge ?_
     (repeat' (first|(with_reducible first|refine W.seq ?_|refine W.block ?_)|((first|(with_reducible first|refine W.reg ?_|refine W.skip ?_|refine W.exit ?_|refine W.ret ?_|refine W.ifc ?_)|(apply wC_P (hcopy);(focus (simp -dsimp (disch:=first|omega|(simp only [go_sem];omega)) only [go_sem,seval,Nat.reduceEqDiff,Nat.reduceLeDiff]<;>rfl));rintro _ rfl)|((with_reducible first|refine wG_decE (fun _ hG=>?_) (fun _ hG=>?_)|refine wG_decFE (fun _ hG=>?_) (fun _ hG=>?_))<;>(try simp -dsimp only [hG,decide_true,decide_false,not_true_eq_false,not_false_eq_true])<;>clear hG))<;>(try simp -dsimp (disch:=first|omega|(simp only [go_sem];omega)) only [go_sem,seval,Nat.reduceEqDiff,Nat.reduceLeDiff,ead,hge]))|simp -dsimp (disch:=first|omega|(simp only [go_sem];omega)) only [go_sem,seval,Nat.reduceEqDiff,Nat.reduceLeDiff,ead,hge]))
     (refine goM (rWrite_ok p dx (first+2*i+1) N (by omega)) (hs4) ?_)
     rintro _ _ G5 ⟨rfl,rfl⟩ hs5'
     have hs5:Sep (RefA p (wr dx (first+2*i+1) N).1::R) G5:=hs5'
     clear hs5'
     obtain⟨d2,e2,hd2⟩:∃ d2 e2,(d2,e2)=wr dx (first+2*i+1) N:=⟨_,_,rfl⟩
     rw [← hd2] at hw hs5 hwu
     rw [← hd2]
     simp only at hw hs5 hwu ⊢
     by_cases he2:e2=0
     · subst he2
       rw [if_neg (by simp)] at hw
       refine goS trivial ?_
       (repeat' (first|(with_reducible first|refine W.seq ?_|refine W.block ?_)|((first|(with_reducible first|refine W.reg ?_|refine W.skip ?_|refine W.exit ?_|refine W.ret ?_|refine W.ifc ?_)|((with_reducible first|refine wG_decE (fun _ hG=>?_) (fun _ hG=>?_)|refine wG_decFE (fun _ hG=>?_) (fun _ hG=>?_))<;>(try simp -dsimp only [hG,decide_true,decide_false,not_true_eq_false,not_false_eq_true])<;>clear hG))<;>(try simp -dsimp (disch:=first|omega|(simp only [go_sem];omega)) only [go_sem,seval,Nat.reduceEqDiff,Nat.reduceLeDiff]))|simp -dsimp (disch:=first|omega|(simp only [go_sem];omega)) only [go_sem,seval,Nat.reduceEqDiff,Nat.reduceLeDiff]))
       (refine goM (rSync_ok p d2 (by omega)) (hs5) ?_)
       rintro _ _ G6 ⟨rfl,rfl⟩ hs6'
       have hs6:Sep (RefA p (sy d2).1::R) G6:=hs6'
       clear hs6'
       rw [← hw] at hs6 ⊢
       by_cases he3:(writeR dx (first+2*i+1) N).2=0
       · refine goS he3 ?_
         (repeat' (first|(with_reducible first|refine W.seq ?_|refine W.block ?_)|((first|(with_reducible first|refine W.reg ?_|refine W.skip ?_|refine W.exit ?_|refine W.ret ?_|refine W.ifc ?_)|((with_reducible first|refine wG_decE (fun _ hG=>?_) (fun _ hG=>?_)|refine wG_decFE (fun _ hG=>?_) (fun _ hG=>?_))<;>(try simp -dsimp only [hG,decide_true,decide_false,not_true_eq_false,not_false_eq_true])<;>clear hG))<;>(try simp -dsimp (disch:=first|omega|(simp only [go_sem];omega)) only [go_sem,seval,Nat.reduceEqDiff,Nat.reduceLeDiff,he3]))|simp -dsimp (disch:=first|omega|(simp only [go_sem];omega)) only [go_sem,seval,Nat.reduceEqDiff,Nat.reduceLeDiff,he3]))
         refine⟨_,_,?_,stle,1,q9,_,_,_,G6,by omega,rfl,rfl,by decide,by have:=hwr;omega,.inr (.inl ⟨rfl,by rw [hdx],by rw [← hdx];exact he3⟩),hs6,rfl⟩
         omega
       · have he3':((writeR dx (first+2*i+1) N).2=0)=False:=eq_false he3
         refine goS he3' ?_
         (repeat' (first|(with_reducible first|refine W.seq ?_|refine W.block ?_)|((first|(with_reducible first|refine W.reg ?_|refine W.skip ?_|refine W.exit ?_|refine W.ret ?_|refine W.ifc ?_)|((with_reducible first|refine wG_decE (fun _ hG=>?_) (fun _ hG=>?_)|refine wG_decFE (fun _ hG=>?_) (fun _ hG=>?_))<;>(try simp -dsimp only [hG,decide_true,decide_false,not_true_eq_false,not_false_eq_true])<;>clear hG))<;>(try simp -dsimp (disch:=first|omega|(simp only [go_sem];omega)) only [go_sem,seval,Nat.reduceEqDiff,Nat.reduceLeDiff,he3']))|simp -dsimp (disch:=first|omega|(simp only [go_sem];omega)) only [go_sem,seval,Nat.reduceEqDiff,Nat.reduceLeDiff,he3']))
         rw [hdx] at he3 hs6 ⊢
         rw [if_pos he3]
         exact Fin.eq rfl ⟨rfl,_,⟨rfl,rfl⟩,hs6⟩
     · have he2':(e2=0)=False:=eq_false he2
       rw [if_pos he2] at hw
       refine goS trivial ?_
       (repeat' (first|(with_reducible first|refine W.seq ?_|refine W.block ?_)|((first|(with_reducible first|refine W.reg ?_|refine W.skip ?_|refine W.exit ?_|refine W.ret ?_|refine W.ifc ?_)|((with_reducible first|refine wG_decE (fun _ hG=>?_) (fun _ hG=>?_)|refine wG_decFE (fun _ hG=>?_) (fun _ hG=>?_))<;>(try simp -dsimp only [hG,decide_true,decide_false,not_true_eq_false,not_false_eq_true])<;>clear hG))<;>(try simp -dsimp (disch:=first|omega|(simp only [go_sem];omega)) only [go_sem,seval,Nat.reduceEqDiff,Nat.reduceLeDiff,he2']))|simp -dsimp (disch:=first|omega|(simp only [go_sem];omega)) only [go_sem,seval,Nat.reduceEqDiff,Nat.reduceLeDiff,he2']))
       have hs6:Sep (RefA p (writeR dx (first+2*i+1) N).1::R) G5:=by rw [hw];exact hs5
       have he3:(writeR dx (first+2*i+1) N).2≠0:=by rw [hw];exact he2
       have hval:e2=(writeR dx (first+2*i+1) N).2:=by rw [hw]
       rw [hval]
       rw [hdx] at he3 hs6 ⊢
       rw [if_pos he3]
       exact Fin.eq rfl ⟨rfl,_,⟨rfl,rfl⟩,hs6⟩
   · obtain rfl:kx=0:=by omega
     have hw:writeR dx (first+2*i) N=if (wr dx (first+2*i) N).2≠0 then wr dx (first+2*i) N else sy (wr dx (first+2*i) N).1:=rfl
     have hokx:Okd dx:=Okd_of_ref hs4
     have hwu:=(wr_ok hokx (by omega) (first+2*i) N).2
     have hwr:=(writeR_up hokx (by omega) (first+2*i) N).2.2
     have ead:first+2*i+0=first+2*i:=by omega
     have hge:(0≤(0:Int))=True:=eq_true (by decide)
     refine goR hge ?_
     (repeat' (first|(with_reducible first|refine W.seq ?_|refine W.block ?_)|((first|(with_reducible first|refine W.reg ?_|refine W.skip ?_|refine W.exit ?_|refine W.ret ?_|refine W.ifc ?_)|(apply wC_P (hcopy);(focus (simp -dsimp (disch:=first|omega|(simp only [go_sem];omega)) only [go_sem,seval,Nat.reduceEqDiff,Nat.reduceLeDiff]<;>rfl));rintro _ rfl)|((with_reducible first|refine wG_decE (fun _ hG=>?_) (fun _ hG=>?_)|refine wG_decFE (fun _ hG=>?_) (fun _ hG=>?_))<;>(try simp -dsimp only [hG,decide_true,decide_false,not_true_eq_false,not_false_eq_true])<;>clear hG))<;>(try simp -dsimp (disch:=first|omega|(simp only [go_sem];omega)) only [go_sem,seval,Nat.reduceEqDiff,Nat.reduceLeDiff,ead,hge]))|simp -dsimp (disch:=first|omega|(simp only [go_sem];omega)) only [go_sem,seval,Nat.reduceEqDiff,Nat.reduceLeDiff,ead,hge]))
     (refine goM (rWrite_ok p dx (first+2*i) N (by omega)) (hs4) ?_)
     rintro _ _ G5 ⟨rfl,rfl⟩ hs5'
     have hs5:Sep (RefA p (wr dx (first+2*i) N).1::R) G5:=hs5'
     clear hs5'
     obtain⟨d2,e2,hd2⟩:∃ d2 e2,(d2,e2)=wr dx (first+2*i) N:=⟨_,_,rfl⟩
     rw [← hd2] at hw hs5 hwu
     rw [← hd2]
     simp only at hw hs5 hwu ⊢
     by_cases he2:e2=0
     · subst he2
       rw [if_neg (by simp)] at hw
       refine goS trivial ?_
       (repeat' (first|(with_reducible first|refine W.seq ?_|refine W.block ?_)|((first|(with_reducible first|refine W.reg ?_|refine W.skip ?_|refine W.exit ?_|refine W.ret ?_|refine W.ifc ?_)|((with_reducible first|refine wG_decE (fun _ hG=>?_) (fun _ hG=>?_)|refine wG_decFE (fun _ hG=>?_) (fun _ hG=>?_))<;>(try simp -dsimp only [hG,decide_true,decide_false,not_true_eq_false,not_false_eq_true])<;>clear hG))<;>(try simp -dsimp (disch:=first|omega|(simp only [go_sem];omega)) only [go_sem,seval,Nat.reduceEqDiff,Nat.reduceLeDiff]))|simp -dsimp (disch:=first|omega|(simp only [go_sem];omega)) only [go_sem,seval,Nat.reduceEqDiff,Nat.reduceLeDiff]))
       (refine goM (rSync_ok p d2 (by omega)) (hs5) ?_)
       rintro _ _ G6 ⟨rfl,rfl⟩ hs6'
       have hs6:Sep (RefA p (sy d2).1::R) G6:=hs6'
       clear hs6'
       rw [← hw] at hs6 ⊢
       by_cases he3:(writeR dx (first+2*i) N).2=0
       · refine goS he3 ?_
         (repeat' (first|(with_reducible first|refine W.seq ?_|refine W.block ?_)|((first|(with_reducible first|refine W.reg ?_|refine W.skip ?_|refine W.exit ?_|refine W.ret ?_|refine W.ifc ?_)|((with_reducible first|refine wG_decE (fun _ hG=>?_) (fun _ hG=>?_)|refine wG_decFE (fun _ hG=>?_) (fun _ hG=>?_))<;>(try simp -dsimp only [hG,decide_true,decide_false,not_true_eq_false,not_false_eq_true])<;>clear hG))<;>(try simp -dsimp (disch:=first|omega|(simp only [go_sem];omega)) only [go_sem,seval,Nat.reduceEqDiff,Nat.reduceLeDiff,he3]))|simp -dsimp (disch:=first|omega|(simp only [go_sem];omega)) only [go_sem,seval,Nat.reduceEqDiff,Nat.reduceLeDiff,he3]))
         refine⟨_,_,?_,stle,2,q9,_,_,_,G6,by omega,rfl,rfl,by decide,by have:=hwr;omega,.inr (.inr ⟨rfl,hz1,by rw [hdx],by rw [← hdx];exact he3⟩),hs6,rfl⟩
         omega
       · have he3':((writeR dx (first+2*i) N).2=0)=False:=eq_false he3
         refine goS he3' ?_
         (repeat' (first|(with_reducible first|refine W.seq ?_|refine W.block ?_)|((first|(with_reducible first|refine W.reg ?_|refine W.skip ?_|refine W.exit ?_|refine W.ret ?_|refine W.ifc ?_)|((with_reducible first|refine wG_decE (fun _ hG=>?_) (fun _ hG=>?_)|refine wG_decFE (fun _ hG=>?_) (fun _ hG=>?_))<;>(try simp -dsimp only [hG,decide_true,decide_false,not_true_eq_false,not_false_eq_true])<;>clear hG))<;>(try simp -dsimp (disch:=first|omega|(simp only [go_sem];omega)) only [go_sem,seval,Nat.reduceEqDiff,Nat.reduceLeDiff,he3']))|simp -dsimp (disch:=first|omega|(simp only [go_sem];omega)) only [go_sem,seval,Nat.reduceEqDiff,Nat.reduceLeDiff,he3']))
         rw [hdx] at he3 hs6 ⊢
         rw [if_neg (by rw [hz1];simp)]
         exact Fin.eq rfl ⟨rfl,_,⟨rfl,rfl⟩,hs6⟩
     · have he2':(e2=0)=False:=eq_false he2
       rw [if_pos he2] at hw
       refine goS trivial ?_
       (repeat' (first|(with_reducible first|refine W.seq ?_|refine W.block ?_)|((first|(with_reducible first|refine W.reg ?_|refine W.skip ?_|refine W.exit ?_|refine W.ret ?_|refine W.ifc ?_)|((with_reducible first|refine wG_decE (fun _ hG=>?_) (fun _ hG=>?_)|refine wG_decFE (fun _ hG=>?_) (fun _ hG=>?_))<;>(try simp -dsimp only [hG,decide_true,decide_false,not_true_eq_false,not_false_eq_true])<;>clear hG))<;>(try simp -dsimp (disch:=first|omega|(simp only [go_sem];omega)) only [go_sem,seval,Nat.reduceEqDiff,Nat.reduceLeDiff,he2']))|simp -dsimp (disch:=first|omega|(simp only [go_sem];omega)) only [go_sem,seval,Nat.reduceEqDiff,Nat.reduceLeDiff,he2']))
       have hs6:Sep (RefA p (writeR dx (first+2*i) N).1::R) G5:=by rw [hw];exact hs5
       have he3:(writeR dx (first+2*i) N).2≠0:=by rw [hw];exact he2
       have hval:e2=(writeR dx (first+2*i) N).2:=by rw [hw]
       rw [hval]
       rw [hdx] at he3 hs6 ⊢
       rw [if_neg (by rw [hz1];simp)]
       exact Fin.eq rfl ⟨rfl,_,⟨rfl,rfl⟩,hs6⟩
   · obtain rfl:kx=-1:=by omega
     have hge:(0≤(-1:Int))=False:=eq_false (by decide)
     (repeat' (first|(with_reducible first|refine W.seq ?_|refine W.block ?_)|((first|(with_reducible first|refine W.reg ?_|refine W.skip ?_|refine W.exit ?_|refine W.ret ?_|refine W.ifc ?_)|((with_reducible first|refine wG_decE (fun _ hG=>?_) (fun _ hG=>?_)|refine wG_decFE (fun _ hG=>?_) (fun _ hG=>?_))<;>(try simp -dsimp only [hG,decide_true,decide_false,not_true_eq_false,not_false_eq_true])<;>clear hG))<;>(try simp -dsimp (disch:=first|omega|(simp only [go_sem];omega)) only [go_sem,seval,Nat.reduceEqDiff,Nat.reduceLeDiff,hge]))|simp -dsimp (disch:=first|omega|(simp only [go_sem];omega)) only [go_sem,seval,Nat.reduceEqDiff,Nat.reduceLeDiff,hge]))
     rw [hdx] at hs4
     rw [if_neg (by rw [hz1];simp),hz2]
     exact Fin.eq rfl ⟨rfl,_,⟨rfl,rfl⟩,hs4⟩
theorem rPut_ok (p:Nat) (d:Dk) (first n i:Int) (b:Str) (h0:0≤first) (h2:first+2*n≤1000000) (hn:d.steps≤800000000) :
 CallS Try.prog f_zz15 [eSt p first n,.int .i64 i,.str b] [RefA p d] (fun r post=>r=.d (.int .i64 (putR d first n i b).2)∧post=[RefA p (putR d first n i b).1]):=by
 refine callS_of_W fol zz15_cp fun R G σ hs=>?_
 have hh:((i < 0)=True∧True=True∧True=True∧True=True∧putR d first n i b=(d,1))∨((i < 0)=False∧(n≤i)=True∧True=True∧True=True∧putR d first n i b=(d,1)) ∨
  ((i < 0)=False∧(n≤i)=False∧((b.length:Int) < 1)=True∧True=True∧putR d first n i b=(d,1))∨((i < 0)=False∧(n≤i)=False∧((b.length:Int) < 1)=False∧(55 < (b.length:Int))=True∧putR d first n i b=(d,1)) ∨
  ((i < 0)=False∧(n≤i)=False∧((b.length:Int) < 1)=False∧(55 < (b.length:Int))=False∧putR d first n i b=changeR d first i b):=by
  unfold putR
  by_cases a1:i < 0
  · exact .inl ⟨eq_true a1,rfl,rfl,rfl,by rw [if_pos (.inl a1)]⟩
  by_cases a2:n≤i
  · exact .inr (.inl ⟨eq_false a1,eq_true a2,rfl,rfl,by rw [if_pos (.inr (.inl a2))]⟩)
  by_cases a3:(b.length:Int) < 1
  · exact .inr (.inr (.inl ⟨eq_false a1,eq_false a2,eq_true a3,rfl,by rw [if_pos (.inr (.inr (.inl (by omega))))]⟩))
  by_cases a4:55 < (b.length:Int)
  · exact .inr (.inr (.inr (.inl ⟨eq_false a1,eq_false a2,eq_false a3,eq_true a4,by rw [if_pos (.inr (.inr (.inr (by omega))))]⟩)))
  · exact .inr (.inr (.inr (.inr ⟨eq_false a1,eq_false a2,eq_false a3,eq_false a4,by rw [if_neg (by omega)]⟩)))
 rcases hh with ⟨f1,f2,f3,f4,hr⟩|⟨f1,f2,f3,f4,hr⟩|⟨f1,f2,f3,f4,hr⟩|⟨f1,f2,f3,f4,hr⟩|⟨f1,f2,f3,f4,hr⟩
 all_goals
  rw [hr]
  refine goS f1 ?_
  (repeat' (first|(with_reducible first|refine W.seq ?_|refine W.block ?_)|((first|(with_reducible first|refine W.reg ?_|refine W.skip ?_|refine W.exit ?_|refine W.ret ?_|refine W.ifc ?_)|((with_reducible first|refine wG_decE (fun _ hG=>?_) (fun _ hG=>?_)|refine wG_decFE (fun _ hG=>?_) (fun _ hG=>?_))<;>(try simp -dsimp only [hG,decide_true,decide_false,not_true_eq_false,not_false_eq_true])<;>clear hG))<;>(try simp -dsimp (disch:=first|omega|(simp only [go_sem];omega)) only [go_sem,seval,Nat.reduceEqDiff,Nat.reduceLeDiff,f1,f2,f3,f4]))|simp -dsimp (disch:=first|omega|(simp only [go_sem];omega)) only [go_sem,seval,Nat.reduceEqDiff,Nat.reduceLeDiff,f1,f2,f3,f4]))
 iterate 4
  · exact Fin.eq rfl ⟨rfl,_,⟨rfl,rfl⟩,hs⟩
 have g1:¬ i < 0:=of_eq_false f1
 have g2:¬ n≤i:=of_eq_false f2
 have g4:¬ 55 < (b.length:Int):=of_eq_false f4
 (refine goM (rchange_ok p d first n i b h0 (by omega) (by omega) (by omega) hn) (hs) ?_)
 rintro _ _ G2 ⟨rfl,rfl⟩ hs2
 refine goS trivial ?_
 refine goR trivial ?_
 exact Fin.eq rfl ⟨rfl,_,⟨rfl,rfl⟩,hs2⟩
theorem rKill_ok (p:Nat) (d:Dk) (first n i:Int) (h0:0≤first) (h2:first+2*n≤1000000) (hn:d.steps≤800000000) :
 CallS Try.prog f_zz7 [eSt p first n,.int .i64 i] [RefA p d] (fun r post=>r=.d (.int .i64 (killR d first n i).2)∧post=[RefA p (killR d first n i).1]):=by
 refine callS_of_W fol zz7_cp fun R G σ hs=>?_
 have hh:((i < 0)=True∧True=True∧killR d first n i=(d,1))∨((i < 0)=False∧(n≤i)=True∧killR d first n i=(d,1))∨((i < 0)=False∧(n≤i)=False∧killR d first n i=changeR d first i []):=by
  unfold killR
  by_cases a1:i < 0
  · exact .inl ⟨eq_true a1,rfl,by rw [if_pos (.inl a1)]⟩
  by_cases a2:n≤i
  · exact .inr (.inl ⟨eq_false a1,eq_true a2,by rw [if_pos (.inr a2)]⟩)
  · exact .inr (.inr ⟨eq_false a1,eq_false a2,by rw [if_neg (by omega)]⟩)
 rcases hh with ⟨f1,f2,hr⟩|⟨f1,f2,hr⟩|⟨f1,f2,hr⟩
 all_goals
  rw [hr]
  refine goS f1 ?_
  (repeat' (first|(with_reducible first|refine W.seq ?_|refine W.block ?_)|((first|(with_reducible first|refine W.reg ?_|refine W.skip ?_|refine W.exit ?_|refine W.ret ?_|refine W.ifc ?_)|((with_reducible first|refine wG_decE (fun _ hG=>?_) (fun _ hG=>?_)|refine wG_decFE (fun _ hG=>?_) (fun _ hG=>?_))<;>(try simp -dsimp only [hG,decide_true,decide_false,not_true_eq_false,not_false_eq_true])<;>clear hG))<;>(try simp -dsimp (disch:=first|omega|(simp only [go_sem];omega)) only [go_sem,seval,Nat.reduceEqDiff,Nat.reduceLeDiff,f1,f2]))|simp -dsimp (disch:=first|omega|(simp only [go_sem];omega)) only [go_sem,seval,Nat.reduceEqDiff,Nat.reduceLeDiff,f1,f2]))
 iterate 2
  · exact Fin.eq rfl ⟨rfl,_,⟨rfl,rfl⟩,hs⟩
 have g1:¬ i < 0:=of_eq_false f1
 have g2:¬ n≤i:=of_eq_false f2
 (refine goM (rchange_ok p d first n i [] h0 (by omega) (by omega) (by simp) hn) (hs) ?_)
 rintro _ _ G2 ⟨rfl,rfl⟩ hs2
 refine goS trivial ?_
 refine goR trivial ?_
 exact Fin.eq rfl ⟨rfl,_,⟨rfl,rfl⟩,hs2⟩
end Go.Proofs.Ytioojmlhmhgeeaa
/-
 Layer 22 (slots): both disks side by side: same,open.
 Conditions: of each contract as it says.
-/
namespace Go.Proofs.Ytioojmlhmhgeeaa
open Go Go.E2 C22
set_option linter.unusedSimpArgs false
set_option maxHeartbeats 1000000
theorem SameN_ok:CallP Try.prog f_zz29 [.nilS,.nilS] (·=.d (.bool true)):=by
 refine callP_of_W fol zz29_cp ?_
 refine goS trivial ?_
 (repeat' (first|(with_reducible first|refine W.seq ?_|refine W.block ?_)|((first|(with_reducible first|refine W.reg ?_|refine W.skip ?_|refine W.exit ?_|refine W.ret ?_|refine W.ifc ?_)|((with_reducible first|refine wG_decE (fun _ hG=>?_) (fun _ hG=>?_)|refine wG_decFE (fun _ hG=>?_) (fun _ hG=>?_))<;>(try simp -dsimp only [hG,decide_true,decide_false,not_true_eq_false,not_false_eq_true])<;>clear hG))<;>(try simp -dsimp (disch:=first|omega|(simp only [go_sem];omega)) only [go_sem,seval,Nat.reduceEqDiff,Nat.reduceLeDiff]))|simp -dsimp (disch:=first|omega|(simp only [go_sem];omega)) only [go_sem,seval,Nat.reduceEqDiff,Nat.reduceLeDiff]))
 refine W.loop (fun z st=>z=0∧st=(E [(0,.d .nilS),(1,.d .nilS),(5,.d (.int .i64 0))],HB [],[],noGh)) ⟨_,_,stle,rfl,rfl⟩ ?_
 rintro z st ⟨rfl,rfl⟩
 (repeat' (first|(with_reducible first|refine W.seq ?_|refine W.block ?_)|((first|(with_reducible first|refine W.reg ?_|refine W.skip ?_|refine W.exit ?_|refine W.ret ?_|refine W.ifc ?_)|((with_reducible first|refine wG_decE (fun _ hG=>?_) (fun _ hG=>?_)|refine wG_decFE (fun _ hG=>?_) (fun _ hG=>?_))<;>(try simp -dsimp only [hG,decide_true,decide_false,not_true_eq_false,not_false_eq_true])<;>clear hG))<;>(try simp -dsimp (disch:=first|omega|(simp only [go_sem];omega)) only [go_sem,seval,Nat.reduceEqDiff,Nat.reduceLeDiff]))|simp -dsimp (disch:=first|omega|(simp only [go_sem];omega)) only [go_sem,seval,Nat.reduceEqDiff,Nat.reduceLeDiff]))
 exact Fin.p rfl rfl
theorem openN_llen (d:Dk) (first:Int):∀ k,(openN d first k).2.1.length≤k
 | 0=>Nat.le_refl _
 | k+1=>by
   have h:=openN_llen d first k
   unfold openN
   split
   · omega
   · simp only
     split
     · rw [List.length_append,List.length_singleton];omega
     · omega
theorem openR_len (d:Dk) (first n:Int) (hm:d.cs.length≤65536):(openR d first n).2.1.length≤1000000000:=by
 unfold openR
 split
 · exact Nat.zero_le _
 · rename_i h
   split
   · exact Nat.zero_le _
   · have:=openN_llen d first n.toNat
     obtain⟨q1,q2,q3⟩:=placeB_true (by simpa using h)
     omega
theorem same22_ok (w p m:Nat) (d:Dk) (s r1 r2 r3:D) (f n:Int) :
 CallR Try.prog f_zz3 [.gp w 0] [CellA w [.gp p 0,s,.gp m 0,r1,r2,r3,.int .i64 f,.int .i64 n],DiskA p d,RefA m d] (·=.d (.bool true)):=by
 refine callR_of_W fol zz3_cp fun R G σ hs=>?_
 have hs:Sep (CellA w [.gp p 0,s,.gp m 0,r1,r2,r3,.int .i64 f,.int .i64 n]::DiskA p d::RefA m d::R) G:=hs
 have hcw:=hs.get
 have hs1:Sep (DiskA p d::CellA w [.gp p 0,s,.gp m 0,r1,r2,r3,.int .i64 f,.int .i64 n]::RefA m d::R) G:=hs.swap
 have hs2:Sep (RefA m d::CellA w [.gp p 0,s,.gp m 0,r1,r2,r3,.int .i64 f,.int .i64 n]::DiskA p d::R) G:=hs.f3
 obtain⟨cb,cap,hd⟩:=RefP.open hs2
 have hcm:=hd.cell
 have hmost:=hd.ok.most
 have hq1:=(Steps_ok p d).q hs1
 have hq2:=(Down_ok p d).q hs1
 refine goS trivial ?_
 (repeat' (first|(with_reducible first|refine W.seq ?_|refine W.block ?_)|((first|(with_reducible first|refine W.reg ?_|refine W.skip ?_|refine W.exit ?_|refine W.ret ?_|refine W.ifc ?_)|(apply wC_Q (hq1);(focus (simp -dsimp (disch:=first|omega|(simp only [go_sem];omega)) only [go_sem,seval,Nat.reduceEqDiff,Nat.reduceLeDiff]<;>rfl));rintro _ rfl)|(apply wC_Q (hq2);(focus (simp -dsimp (disch:=first|omega|(simp only [go_sem];omega)) only [go_sem,seval,Nat.reduceEqDiff,Nat.reduceLeDiff]<;>rfl));rintro _ rfl)|((with_reducible first|refine wG_decE (fun _ hG=>?_) (fun _ hG=>?_)|refine wG_decFE (fun _ hG=>?_) (fun _ hG=>?_))<;>(try simp -dsimp only [hG,decide_true,decide_false,not_true_eq_false,not_false_eq_true])<;>clear hG))<;>(try simp -dsimp (disch:=first|omega|(simp only [go_sem];omega)) only [go_sem,seval,Nat.reduceEqDiff,Nat.reduceLeDiff,hcw,hcm]))|simp -dsimp (disch:=first|omega|(simp only [go_sem];omega)) only [go_sem,seval,Nat.reduceEqDiff,Nat.reduceLeDiff,hcw,hcm]))
 refine W.loop (fun z st=>∃ (k:Nat) (b4 b6:Blk),k≤d.cs.length∧z=d.cs.length - k∧st=(E [(0,.d (.gp w 0)),(42,.d (.int .i64 d.cs.length)),(43,.d (.int .i64 k))],HB [(4,b4),(6,b6)],σ,G))
  ⟨_,_,stleB (HB_pad [] [4,6] rfl).symm,0,_,_,by omega,rfl,rfl⟩ ?_
 rintro z st ⟨k,b4,b6,hk,rfl,rfl⟩
 refine goR trivial ?_
 refine wG_dec (fun g1=>?_) (fun g1=>?_)
 · have hq3:=(Read_ok p d k).q hs1
   have hq4:=(rRead_ok m d k).q hs2
   obtain⟨s,e,hse⟩:∃ s e,(s,e)=rd d k:=⟨_,_,rfl⟩
   rw [← hse] at hq3 hq4
   unfold eGot at hq4
   simp only at hq3 hq4
   have hl:=gCel_len s (.int .i64 e)
   have h64:=gCel_64 s (.int .i64 e)
   have h0:=gCel_0 s (.int .i64 e)
   have hsl:=sec_len s
   have htk:List.take 64 (s.1.map eB)=s.1.map eB:=List.take_of_length_le (Nat.le_of_eq hsl)
   (repeat' (first|(with_reducible first|refine W.seq ?_|refine W.block ?_)|((first|(with_reducible first|refine W.reg ?_|refine W.skip ?_|refine W.exit ?_|refine W.ret ?_|refine W.ifc ?_)|(apply wC_Q (hq3);(focus (simp -dsimp (disch:=first|omega|(simp only [go_sem];omega)) only [go_sem,seval,Nat.reduceEqDiff,Nat.reduceLeDiff]<;>rfl));rintro _ rfl)|(apply wC_Q (hq4);(focus (simp -dsimp (disch:=first|omega|(simp only [go_sem];omega)) only [go_sem,seval,Nat.reduceEqDiff,Nat.reduceLeDiff]<;>rfl));rintro _ rfl)|((with_reducible first|refine wG_decE (fun _ hG=>?_) (fun _ hG=>?_)|refine wG_decFE (fun _ hG=>?_) (fun _ hG=>?_))<;>(try simp -dsimp only [hG,decide_true,decide_false,not_true_eq_false,not_false_eq_true])<;>clear hG))<;>(try simp -dsimp (disch:=first|omega|(simp only [go_sem];omega)) only [go_sem,seval,Nat.reduceEqDiff,Nat.reduceLeDiff,hcw,hl,h64,h0,hsl,htk]))|simp -dsimp (disch:=first|omega|(simp only [go_sem];omega)) only [go_sem,seval,Nat.reduceEqDiff,Nat.reduceLeDiff,hcw,hl,h64,h0,hsl,htk]))
   refine⟨_,_,?_,stle,k+1,_,_,by omega,rfl,rfl⟩
   omega
 · obtain rfl:k=d.cs.length:=by omega
   refine goR trivial ?_
   exact Fin.eq rfl ⟨rfl,rfl,rfl⟩
def wO (p q m:Nat) (o:Bool) (f n:Int):List D :=
 if o then [.gp p 0,.gp q 0,.gp m 0,.gp m 0,.int .i64 f,.int .i64 n,.int .i64 f,.int .i64 n] else [.gp p 0,.nilP,.gp m 0,.nilP,.int .i64 0,.int .i64 0,.int .i64 f,.int .i64 n]
def WO (w p m:Nat) (d:Dk) (f n:Int) (o:Bool) (q:Nat):List As:=CellA w (wO p q m o f n)::(if o then [StA q p f n] else []) ++ [DiskA p d,RefA m d]
theorem open22_ok (w p m:Nat) (d:Dk) (s r1 r2 r3:D) (f n:Int) (hn:d.steps≤800000000) :
 CallS Try.prog f_zz2 [.gp w 0] [CellA w [.gp p 0,s,.gp m 0,r1,r2,r3,.int .i64 f,.int .i64 n],DiskA p d,RefA m d] (fun r post=>r=.d (.bool true)∧∃ q,post=WO w p m (openR d f n).1 f n (decide ((openR d f n).2.2=0)) q):=by
 refine callS_of_W fol zz2_cp fun R G σ hs=>?_
 have hs:Sep (CellA w [.gp p 0,s,.gp m 0,r1,r2,r3,.int .i64 f,.int .i64 n]::DiskA p d::RefA m d::R) G:=hs
 have hcw:=hs.get
 have hok:Okd d:=Okd_of_ref hs.f3
 have hll:(openR d f n).2.1.length≤1000000000:=openR_len d f n hok.most
 refine goS trivial ?_
 refine goR hcw ?_
 (refine goM (openS_ok p d f n hn) (hs.swap) ?_)
 rintro rr post1 G1 h1 hs1
 rcases h1 with ⟨he,q,rfl,rfl⟩|⟨he,rfl,rfl⟩
 · have hs1:Sep (StA q p f n::DiskA p (openR d f n).1::CellA w [.gp p 0,s,.gp m 0,r1,r2,r3,.int .i64 f,.int .i64 n]::RefA m d::R) G1:=hs1
   have hs2:Sep (CellA w [.gp p 0,s,.gp m 0,r1,r2,r3,.int .i64 f,.int .i64 n]::StA q p f n::DiskA p (openR d f n).1::RefA m d::R) G1:=hs1.perm (by (repeat (first|exact List.Perm.refl _|with_reducible refine sp0 ?_|with_reducible refine sp1 ?_|with_reducible refine sp2 ?_|with_reducible refine sp3 ?_|with_reducible refine sp4 ?_|with_reducible refine sp5 ?_|with_reducible refine sp6 ?_|with_reducible refine sp7 ?_|with_reducible refine sp8 ?_|with_reducible refine sp9 ?_|with_reducible refine sp10 ?_|with_reducible refine sp11 ?_)))
   have hc2:=hs2.get
   refine goS trivial ?_
   refine goR hc2 ?_
   (refine goM (rOpen_ok m d f n hn) ((hs2.perm (l':=RefA m d::CellA w [.gp p 0,s,.gp m 0,r1,r2,r3,.int .i64 f,.int .i64 n]::StA q p f n::DiskA p (openR d f n).1::R) (by (repeat (first|exact List.Perm.refl _|with_reducible refine sp0 ?_|with_reducible refine sp1 ?_|with_reducible refine sp2 ?_|with_reducible refine sp3 ?_|with_reducible refine sp4 ?_|with_reducible refine sp5 ?_|with_reducible refine sp6 ?_|with_reducible refine sp7 ?_|with_reducible refine sp8 ?_|with_reducible refine sp9 ?_|with_reducible refine sp10 ?_|with_reducible refine sp11 ?_))))) ?_)
   rintro rr post3 G3 ⟨h3,rfl⟩ hs3
   obtain rfl:rr=_:=by
    rcases h3 with ⟨_,h⟩|⟨h,_⟩
    · exact h
    · exact absurd he h
   have hs3:Sep (RefA m (openR d f n).1::CellA w [.gp p 0,s,.gp m 0,r1,r2,r3,.int .i64 f,.int .i64 n]::StA q p f n::DiskA p (openR d f n).1::R) G3:=hs3
   have hs4:Sep (CellA w [.gp p 0,s,.gp m 0,r1,r2,r3,.int .i64 f,.int .i64 n]::StA q p f n::DiskA p (openR d f n).1::RefA m (openR d f n).1::R) G3:=hs3.perm (by (repeat (first|exact List.Perm.refl _|with_reducible refine sp0 ?_|with_reducible refine sp1 ?_|with_reducible refine sp2 ?_|with_reducible refine sp3 ?_|with_reducible refine sp4 ?_|with_reducible refine sp5 ?_|with_reducible refine sp6 ?_|with_reducible refine sp7 ?_|with_reducible refine sp8 ?_|with_reducible refine sp9 ?_|with_reducible refine sp10 ?_|with_reducible refine sp11 ?_)))
   have hc4:=hs4.get
   have hs5:=hs4.set (cs':=wO p q m true f n)
   rw [he]
   generalize (openR d f n).2.1=ll at hll ⊢
   have hsm:=Same_ok ll ll hll hll
   rw [decide_eq_true rfl] at hsm
   refine goS trivial ?_
   (repeat' (first|(with_reducible first|refine W.seq ?_|refine W.block ?_)|((first|(with_reducible first|refine W.reg ?_|refine W.skip ?_|refine W.exit ?_|refine W.ret ?_|refine W.ifc ?_)|(apply wC_P (hsm);(focus (simp -dsimp (disch:=first|omega|(simp only [go_sem];omega)) only [go_sem,seval,Nat.reduceEqDiff,Nat.reduceLeDiff]<;>rfl));rintro _ rfl)|((with_reducible first|refine wG_decE (fun _ hG=>?_) (fun _ hG=>?_)|refine wG_decFE (fun _ hG=>?_) (fun _ hG=>?_))<;>(try simp -dsimp only [hG,decide_true,decide_false,not_true_eq_false,not_false_eq_true])<;>clear hG))<;>(try simp -dsimp (disch:=first|omega|(simp only [go_sem];omega)) only [go_sem,seval,Nat.reduceEqDiff,Nat.reduceLeDiff,hc4]))|simp -dsimp (disch:=first|omega|(simp only [go_sem];omega)) only [go_sem,seval,Nat.reduceEqDiff,Nat.reduceLeDiff,hc4]))
   exact Fin.eq rfl ⟨rfl,_,⟨rfl,q,rfl⟩,hs5⟩
 · have hs1:Sep (DiskA p (openR d f n).1::CellA w [.gp p 0,s,.gp m 0,r1,r2,r3,.int .i64 f,.int .i64 n]::RefA m d::R) G1:=hs1
   have hs2:Sep (CellA w [.gp p 0,s,.gp m 0,r1,r2,r3,.int .i64 f,.int .i64 n]::DiskA p (openR d f n).1::RefA m d::R) G1:=hs1.swap
   have hc2:=hs2.get
   refine goS trivial ?_
   refine goR hc2 ?_
   (refine goM (rOpen_ok m d f n hn) (hs2.f3) ?_)
   rintro rr post3 G3 ⟨h3,rfl⟩ hs3
   obtain rfl:rr=_:=by
    rcases h3 with ⟨h,_⟩|⟨_,h⟩
    · exact absurd h he
    · exact h
   have hs3:Sep (RefA m (openR d f n).1::CellA w [.gp p 0,s,.gp m 0,r1,r2,r3,.int .i64 f,.int .i64 n]::DiskA p (openR d f n).1::R) G3:=hs3
   have hs4:Sep (CellA w [.gp p 0,s,.gp m 0,r1,r2,r3,.int .i64 f,.int .i64 n]::DiskA p (openR d f n).1::RefA m (openR d f n).1::R) G3:=hs3.perm (by (repeat (first|exact List.Perm.refl _|with_reducible refine sp0 ?_|with_reducible refine sp1 ?_|with_reducible refine sp2 ?_|with_reducible refine sp3 ?_|with_reducible refine sp4 ?_|with_reducible refine sp5 ?_|with_reducible refine sp6 ?_|with_reducible refine sp7 ?_|with_reducible refine sp8 ?_|with_reducible refine sp9 ?_|with_reducible refine sp10 ?_|with_reducible refine sp11 ?_)))
   have hc4:=hs4.get
   have hs5:=hs4.set (cs':=wO p 0 m false f n)
   rw [decide_eq_false he]
   generalize (openR d f n).2.2=er at he ⊢
   have he':(er=0)=False:=eq_false he
   refine goS trivial ?_
   (repeat' (first|(with_reducible first|refine W.seq ?_|refine W.block ?_)|((first|(with_reducible first|refine W.reg ?_|refine W.skip ?_|refine W.exit ?_|refine W.ret ?_|refine W.ifc ?_)|(apply wC_P (SameN_ok);(focus (simp -dsimp (disch:=first|omega|(simp only [go_sem];omega)) only [go_sem,seval,Nat.reduceEqDiff,Nat.reduceLeDiff]<;>rfl));rintro _ rfl)|((with_reducible first|refine wG_decE (fun _ hG=>?_) (fun _ hG=>?_)|refine wG_decFE (fun _ hG=>?_) (fun _ hG=>?_))<;>(try simp -dsimp only [hG,decide_true,decide_false,not_true_eq_false,not_false_eq_true])<;>clear hG))<;>(try simp -dsimp (disch:=first|omega|(simp only [go_sem];omega)) only [go_sem,seval,Nat.reduceEqDiff,Nat.reduceLeDiff,hc4,he']))|simp -dsimp (disch:=first|omega|(simp only [go_sem];omega)) only [go_sem,seval,Nat.reduceEqDiff,Nat.reduceLeDiff,hc4,he']))
   exact Fin.eq rfl ⟨rfl,_,⟨rfl,0,rfl⟩,hs5⟩
end Go.Proofs.Ytioojmlhmhgeeaa
/-
 Layer 22 (slots): both disks side by side: a call.
 Conditions: of each contract as it says.
-/
namespace Go.Proofs.Ytioojmlhmhgeeaa
open Go Go.E2 C22
set_option linter.unusedSimpArgs false
set_option maxHeartbeats 1000000
theorem gext_sub {G G':Gh} (h:GExt G G'):GSub G G':=⟨h.1,h.2⟩
theorem getG_ok (q p:Nat) (d:Dk) (first n i:Int) (h0:0≤first) (h2:first+2*n≤1000000) {R:List As} {G:Gh} (hs:Sep (StA q p first n::DiskA p d::R) G) (σ:List Hp) :
 CallT Try.prog f_zz42 ([.gp q 0,.int .i64 i].map .d) σ G fun r σ' G'=>σ'=σ∧(r=.tup [.str (getR d first n i).1,.int .i64 (getR d first n i).2]∧GExt G G'):=by
 obtain⟨G1,G2,h1,h2',h3,h4,h5⟩:=hs
 have h4:G1.c q=some [.gp p 0,.int .i64 first,.int .i64 n]:=h4
 have hq2:G2.c q=none:=(h3.c q).resolve_left (by rw [h4];simp)
 have hqG:G.c q=some [.gp p 0,.int .i64 first,.int .i64 n]:=h1.c _ _ h4
 obtain⟨G3,G4,g1,g2,g3,g4,g5⟩:=h5
 have hsub:GSub G3 (G.set q none):=by
  refine⟨fun b v e=>?_,fun b v e=>h2'.m _ _ (g1.m _ _ e)⟩
  rw [Gh.set_c,upd_off]
  · exact h2'.c _ _ (g1.c _ _ e)
  · intro hb
    subst hb
    rw [g1.none hq2] at e
    cases e
 have hX:∀ R G',Sep ((fun H=>H=G.set q none)::R) G'→Sep (DiskA p d::R) G':=by
  rintro R G' ⟨K1,K2,k1,k2,k3,rfl,k5⟩
  exact⟨G3,K2,hsub.trans k1,k2,k3.sub hsub (.refl _),g4,k5⟩
 have hs2:Sep ([StA q p first n,fun H=>H=G.set q none] ++ []) G:=by
  refine⟨⟨fun b=>if b=q then G.c q else none,fun _=>none⟩,G.set q none,⟨fun b v e=>?_,fun b v e=>(by cases e)⟩,⟨fun b v e=>?_,fun b v e=>e⟩,⟨fun b=>?_,fun b=>.inl rfl⟩,?_,G.set q none,noGh,.refl _,⟨fun b v e=>(by cases e),fun b v e=>(by cases e)⟩,⟨fun b=>.inr rfl,fun b=>.inr rfl⟩,rfl,trivial⟩
  · simp only at e
    split at e
    · rename_i hb;rw [hb];exact e
    · cases e
  · rw [Gh.set_c] at e
    unfold upd at e
    split at e
    · cases e
    · exact e
  · rw [Gh.set_c]
    unfold upd
    by_cases hb:b=q
    · exact .inr (if_pos hb)
    · exact .inl (if_neg hb)
  · show (if q=q then G.c q else none)=_
    rw [if_pos rfl,hqG]
 refine (getSX_ok q p d _ hX first n i h0 h2 [] G σ hs2).mono ?_
 rintro r σ' G' ⟨rfl,post,⟨rfl,rfl⟩,hs3⟩
 refine⟨rfl,rfl,?_⟩
 have hc:=Sep.get (b:=q) (cs:=[.gp p 0,.int .i64 first,.int .i64 n]) hs3
 obtain⟨K1,K2,k1,k2,k3,k4,K3,K4,l1,l2,l3,rfl,l5⟩:=hs3
 refine⟨fun b cs e=>?_,fun b o e=>k2.m _ _ (l1.m _ _ e)⟩
 by_cases hb:b=q
 · subst hb
   rw [hc];rw [← hqG];exact e
 · exact k2.c _ _ (l1.c _ _ (by rw [Gh.set_c,upd_off hb];exact e))
def doR (d:Dk) (o:Bool) (f n:Int) (x:Op5):Dk×Bool :=
 if x.kind=4 then ((openR (arm (crash d x.keep) x.a) f n).1,decide ((openR (arm (crash d x.keep) x.a) f n).2.2=0)) else
 if d.dead=true∨o=false then (d,o) else
 if x.kind=0 then ((putR d f n x.a x.b).1,o) else
 if x.kind=1 then ((killR d f n x.a).1,o) else
 if x.kind=2 then (d,o) else
 if x.kind=3 then (arm d x.a,o) else
 if x.kind=5 then ((rot d x.a).1,o) else
 if x.kind=6 then ((flp d x.a x.b.length).1,o) else (d,o)
theorem WO_any {w p m:Nat} {d:Dk} {f n:Int} {o:Bool} {q:Nat} {R:List As} {G:Gh} (h:Sep (WO w p m d f n o q ++ R) G) :
 ∃ s r1 r2 r3 R',Sep (CellA w [.gp p 0,s,.gp m 0,r1,r2,r3,.int .i64 f,.int .i64 n]::DiskA p d::RefA m d::R') G∧∀ G',Sep R' G'→Sep R G':=by
 cases o
 · exact⟨_,_,_,_,R,h,fun _ h=>h⟩
 · have h:Sep (CellA w [.gp p 0,.gp q 0,.gp m 0,.gp m 0,.int .i64 f,.int .i64 n,.int .i64 f,.int .i64 n]::StA q p f n::DiskA p d::RefA m d::R) G:=h
   exact⟨.gp q 0,.gp m 0,.int .i64 f,.int .i64 n,StA q p f n::R,h.perm (by (repeat (first|exact List.Perm.refl _|with_reducible refine sp0 ?_|with_reducible refine sp1 ?_|with_reducible refine sp2 ?_|with_reducible refine sp3 ?_|with_reducible refine sp4 ?_|with_reducible refine sp5 ?_|with_reducible refine sp6 ?_|with_reducible refine sp7 ?_|with_reducible refine sp8 ?_|with_reducible refine sp9 ?_|with_reducible refine sp10 ?_|with_reducible refine sp11 ?_))),fun _ h=>h.tail⟩
theorem sep_tl {R R':List As}:∀ (l:List As) {G:Gh},(∀ G',Sep R' G'→Sep R G')→Sep (l ++ R') G→Sep (l ++ R) G
 | [],_,hR,h=>hR _ h
 | _::l,_,hR,h=>h.cons fun _ h=>sep_tl l hR h
theorem do22_ok (w p m q:Nat) (d:Dk) (o:Bool) (f n:Int) (x:Op5) (hx:WfO x) (hn:d.steps≤700000000) (hpl:o=true→0≤f∧f+2*n≤1000000) :
 CallS Try.prog f_zz16 [.gp w 0,eQ x] (WO w p m d f n o q) (fun r post=>r=.d (.bool true)∧∃ p' m' q',post=WO w p' m' (doR d o f n x).1 f n (doR d o f n x).2 q'):=by
 refine callS_of_W fol zz16_cp fun R G σ hs=>?_
 obtain⟨k,a,b,kp⟩:=x
 obtain⟨ha0,ha1,hkp⟩:=hx
 simp only at ha0 ha1 hkp
 by_cases k4:k=4
 · subst k4
   unfold doR
   rw [if_pos rfl]
   simp only
   obtain⟨s,r1,r2,r3,R',hs1,hR⟩:=WO_any hs
   clear hs
   have hc1:=hs1.get
   have hs2:Sep (DiskA p d::CellA w [.gp p 0,s,.gp m 0,r1,r2,r3,.int .i64 f,.int .i64 n]::RefA m d::R') G:=hs1.perm (by (repeat (first|exact List.Perm.refl _|with_reducible refine sp0 ?_|with_reducible refine sp1 ?_|with_reducible refine sp2 ?_|with_reducible refine sp3 ?_|with_reducible refine sp4 ?_|with_reducible refine sp5 ?_|with_reducible refine sp6 ?_|with_reducible refine sp7 ?_|with_reducible refine sp8 ?_|with_reducible refine sp9 ?_|with_reducible refine sp10 ?_|with_reducible refine sp11 ?_)))
   refine goS trivial ?_
   refine goR hc1 ?_
   (refine goM (Crash_ok p d kp hkp) (hs2) ?_)
   rintro _ _ G1 ⟨p',rfl,rfl⟩ hs3'
   have hs3:Sep (DiskA p' (crash d kp)::DiskA p d::CellA w [.gp p 0,s,.gp m 0,r1,r2,r3,.int .i64 f,.int .i64 n]::RefA m d::R') G1:=hs3'
   clear hs3'
   have hs4:Sep (RefA m d::CellA w [.gp p 0,s,.gp m 0,r1,r2,r3,.int .i64 f,.int .i64 n]::DiskA p' (crash d kp)::R') G1:=(hs3.perm (l':=DiskA p d::RefA m d::CellA w [.gp p 0,s,.gp m 0,r1,r2,r3,.int .i64 f,.int .i64 n]::DiskA p' (crash d kp)::R') (by (repeat (first|exact List.Perm.refl _|with_reducible refine sp0 ?_|with_reducible refine sp1 ?_|with_reducible refine sp2 ?_|with_reducible refine sp3 ?_|with_reducible refine sp4 ?_|with_reducible refine sp5 ?_|with_reducible refine sp6 ?_|with_reducible refine sp7 ?_|with_reducible refine sp8 ?_|with_reducible refine sp9 ?_|with_reducible refine sp10 ?_|with_reducible refine sp11 ?_)))).tail
   have hc4:=hs4.tail.get
   refine goS (nn hc1 hc4) ?_
   refine goR (nn hc1 hc4) ?_
   (refine goM (rCrash_ok m d kp hkp) (hs4) ?_)
   rintro _ _ G2 ⟨m',rfl,rfl⟩ hs5'
   have hs5:Sep (RefA m' (crash d kp)::RefA m d::CellA w [.gp p 0,s,.gp m 0,r1,r2,r3,.int .i64 f,.int .i64 n]::DiskA p' (crash d kp)::R') G2:=hs5'
   clear hs5'
   have hs6:Sep (CellA w [.gp p 0,s,.gp m 0,r1,r2,r3,.int .i64 f,.int .i64 n]::DiskA p' (crash d kp)::RefA m' (crash d kp)::R') G2:=(hs5.perm (l':=RefA m d::CellA w [.gp p 0,s,.gp m 0,r1,r2,r3,.int .i64 f,.int .i64 n]::DiskA p' (crash d kp)::RefA m' (crash d kp)::R') (by (repeat (first|exact List.Perm.refl _|with_reducible refine sp0 ?_|with_reducible refine sp1 ?_|with_reducible refine sp2 ?_|with_reducible refine sp3 ?_|with_reducible refine sp4 ?_|with_reducible refine sp5 ?_|with_reducible refine sp6 ?_|with_reducible refine sp7 ?_|with_reducible refine sp8 ?_|with_reducible refine sp9 ?_|with_reducible refine sp10 ?_|with_reducible refine sp11 ?_)))).tail
   have hc6:=hs6.get
   have hs7:=hs6.set (cs':=[.gp p' 0,s,.gp m' 0,r1,r2,r3,.int .i64 f,.int .i64 n])
   refine goS hc6 ?_
   refine goR hc6 ?_
   generalize G2.set w (some [.gp p' 0,s,.gp m' 0,r1,r2,r3,.int .i64 f,.int .i64 n])=G3 at hs7 ⊢
   have hc7:=hs7.get
   have hs8:Sep (DiskA p' (crash d kp)::CellA w [.gp p' 0,s,.gp m' 0,r1,r2,r3,.int .i64 f,.int .i64 n]::RefA m' (crash d kp)::R') G3:=hs7.swap
   (refine goM (Arm_ok p' (crash d kp) a ha1) (hs8) ?_)
   rintro _ _ G4 rfl hs9'
   have hs9:Sep (DiskA p' (arm (crash d kp) a)::CellA w [.gp p' 0,s,.gp m' 0,r1,r2,r3,.int .i64 f,.int .i64 n]::RefA m' (crash d kp)::R') G4:=hs9'
   clear hs9'
   have hc9:=hs9.swap.get
   have hs10:Sep (RefA m' (crash d kp)::CellA w [.gp p' 0,s,.gp m' 0,r1,r2,r3,.int .i64 f,.int .i64 n]::DiskA p' (arm (crash d kp) a)::R') G4:=hs9.perm (by (repeat (first|exact List.Perm.refl _|with_reducible refine sp0 ?_|with_reducible refine sp1 ?_|with_reducible refine sp2 ?_|with_reducible refine sp3 ?_|with_reducible refine sp4 ?_|with_reducible refine sp5 ?_|with_reducible refine sp6 ?_|with_reducible refine sp7 ?_|with_reducible refine sp8 ?_|with_reducible refine sp9 ?_|with_reducible refine sp10 ?_|with_reducible refine sp11 ?_)))
   refine goS hc9 ?_
   refine goR hc9 ?_
   (refine goM (rArm_ok m' (crash d kp) a ha1) (hs10) ?_)
   rintro _ _ G5 rfl hs11'
   have hs11:Sep (RefA m' (arm (crash d kp) a)::CellA w [.gp p' 0,s,.gp m' 0,r1,r2,r3,.int .i64 f,.int .i64 n]::DiskA p' (arm (crash d kp) a)::R') G5:=hs11'
   clear hs11'
   have hs12:Sep (CellA w [.gp p' 0,s,.gp m' 0,r1,r2,r3,.int .i64 f,.int .i64 n]::DiskA p' (arm (crash d kp) a)::RefA m' (arm (crash d kp) a)::R') G5:=hs11.perm (by (repeat (first|exact List.Perm.refl _|with_reducible refine sp0 ?_|with_reducible refine sp1 ?_|with_reducible refine sp2 ?_|with_reducible refine sp3 ?_|with_reducible refine sp4 ?_|with_reducible refine sp5 ?_|with_reducible refine sp6 ?_|with_reducible refine sp7 ?_|with_reducible refine sp8 ?_|with_reducible refine sp9 ?_|with_reducible refine sp10 ?_|with_reducible refine sp11 ?_)))
   have hst:(arm (crash d kp) a).steps≤800000000:=by show (0:Int)≤_;decide
   refine goS trivial ?_
   refine goR trivial ?_
   (refine goM (open22_ok w p' m' (arm (crash d kp) a) s r1 r2 r3 f n hst) (hs12) ?_)
   rintro _ _ G6 ⟨rfl,q',rfl⟩ hs13
   refine goS trivial ?_
   refine goR trivial ?_
   exact Fin.eq rfl ⟨rfl,_,⟨rfl,p',m',q',rfl⟩,sep_tl _ hR hs13⟩
 have k4':(k=4)=False:=eq_false k4
 by_cases hdo:d.dead=true∨o=false
 · have hR:doR d o f n ⟨k,a,b,kp⟩=(d,o):=by unfold doR;rw [if_neg k4,if_pos hdo]
   rw [hR]
   cases o
   · have hs1:Sep (CellA w [.gp p 0,.nilP,.gp m 0,.nilP,.int .i64 0,.int .i64 0,.int .i64 f,.int .i64 n]::DiskA p d::RefA m d::R) G:=hs
     have hc1:=hs1.get
     have hq:=(Down_ok p d).q hs1.swap
     cases hdd:d.dead
     all_goals
      rw [hdd] at hq
      refine goS k4' ?_
      (repeat' (first|(with_reducible first|refine W.seq ?_|refine W.block ?_)|((first|(with_reducible first|refine W.reg ?_|refine W.skip ?_|refine W.exit ?_|refine W.ret ?_|refine W.ifc ?_)|(apply wC_Q (hq);(focus (simp -dsimp (disch:=first|omega|(simp only [go_sem];omega)) only [go_sem,seval,Nat.reduceEqDiff,Nat.reduceLeDiff]<;>rfl));rintro _ rfl)|((with_reducible first|refine wG_decE (fun _ hG=>?_) (fun _ hG=>?_)|refine wG_decFE (fun _ hG=>?_) (fun _ hG=>?_))<;>(try simp -dsimp only [hG,decide_true,decide_false,not_true_eq_false,not_false_eq_true])<;>clear hG))<;>(try simp -dsimp (disch:=first|omega|(simp only [go_sem];omega)) only [go_sem,seval,Nat.reduceEqDiff,Nat.reduceLeDiff,hc1,k4']))|simp -dsimp (disch:=first|omega|(simp only [go_sem];omega)) only [go_sem,seval,Nat.reduceEqDiff,Nat.reduceLeDiff,hc1,k4']))
      exact Fin.eq rfl ⟨rfl,_,⟨rfl,p,m,q,rfl⟩,hs⟩
   · have hdd:d.dead=true:=by simpa using hdo
     have hs1:Sep (CellA w [.gp p 0,.gp q 0,.gp m 0,.gp m 0,.int .i64 f,.int .i64 n,.int .i64 f,.int .i64 n]::StA q p f n::DiskA p d::RefA m d::R) G:=hs
     have hc1:=hs1.get
     have hq:=(Down_ok p d).q (hs1.perm (l':=DiskA p d::CellA w [.gp p 0,.gp q 0,.gp m 0,.gp m 0,.int .i64 f,.int .i64 n,.int .i64 f,.int .i64 n]::StA q p f n::RefA m d::R) (by (repeat (first|exact List.Perm.refl _|with_reducible refine sp0 ?_|with_reducible refine sp1 ?_|with_reducible refine sp2 ?_|with_reducible refine sp3 ?_|with_reducible refine sp4 ?_|with_reducible refine sp5 ?_|with_reducible refine sp6 ?_|with_reducible refine sp7 ?_|with_reducible refine sp8 ?_|with_reducible refine sp9 ?_|with_reducible refine sp10 ?_|with_reducible refine sp11 ?_))))
     rw [hdd] at hq
     refine goS k4' ?_
     (repeat' (first|(with_reducible first|refine W.seq ?_|refine W.block ?_)|((first|(with_reducible first|refine W.reg ?_|refine W.skip ?_|refine W.exit ?_|refine W.ret ?_|refine W.ifc ?_)|(apply wC_Q (hq);(focus (simp -dsimp (disch:=first|omega|(simp only [go_sem];omega)) only [go_sem,seval,Nat.reduceEqDiff,Nat.reduceLeDiff]<;>rfl));rintro _ rfl)|((with_reducible first|refine wG_decE (fun _ hG=>?_) (fun _ hG=>?_)|refine wG_decFE (fun _ hG=>?_) (fun _ hG=>?_))<;>(try simp -dsimp only [hG,decide_true,decide_false,not_true_eq_false,not_false_eq_true])<;>clear hG))<;>(try simp -dsimp (disch:=first|omega|(simp only [go_sem];omega)) only [go_sem,seval,Nat.reduceEqDiff,Nat.reduceLeDiff,hc1,k4']))|simp -dsimp (disch:=first|omega|(simp only [go_sem];omega)) only [go_sem,seval,Nat.reduceEqDiff,Nat.reduceLeDiff,hc1,k4']))
     exact Fin.eq rfl ⟨rfl,_,⟨rfl,p,m,q,rfl⟩,hs⟩
 have hoo:o=true:=by cases o<;>simp_all
 subst hoo
 have hdd:d.dead=false:=by simpa using hdo
 obtain⟨h0,h2⟩:=hpl rfl
 have hs1:Sep (CellA w [.gp p 0,.gp q 0,.gp m 0,.gp m 0,.int .i64 f,.int .i64 n,.int .i64 f,.int .i64 n]::StA q p f n::DiskA p d::RefA m d::R) G:=hs
 have hc1:=hs1.get
 have hD:Sep (DiskA p d::CellA w [.gp p 0,.gp q 0,.gp m 0,.gp m 0,.int .i64 f,.int .i64 n,.int .i64 f,.int .i64 n]::StA q p f n::RefA m d::R) G:=hs1.perm (by (repeat (first|exact List.Perm.refl _|with_reducible refine sp0 ?_|with_reducible refine sp1 ?_|with_reducible refine sp2 ?_|with_reducible refine sp3 ?_|with_reducible refine sp4 ?_|with_reducible refine sp5 ?_|with_reducible refine sp6 ?_|with_reducible refine sp7 ?_|with_reducible refine sp8 ?_|with_reducible refine sp9 ?_|with_reducible refine sp10 ?_|with_reducible refine sp11 ?_)))
 have hq:=(Down_ok p d).q hD
 rw [hdd] at hq
 by_cases k0:k=0
 · subst k0
   have hR:doR d true f n ⟨0,a,b,kp⟩=((putR d f n a b).1,true):=by unfold doR;rw [if_neg k4,if_neg hdo,if_pos rfl]
   rw [hR]
   refine goS trivial ?_
   (repeat' (first|(with_reducible first|refine W.seq ?_|refine W.block ?_)|((first|(with_reducible first|refine W.reg ?_|refine W.skip ?_|refine W.exit ?_|refine W.ret ?_|refine W.ifc ?_)|(apply wC_Q (hq);(focus (simp -dsimp (disch:=first|omega|(simp only [go_sem];omega)) only [go_sem,seval,Nat.reduceEqDiff,Nat.reduceLeDiff]<;>rfl));rintro _ rfl)|((with_reducible first|refine wG_decE (fun _ hG=>?_) (fun _ hG=>?_)|refine wG_decFE (fun _ hG=>?_) (fun _ hG=>?_))<;>(try simp -dsimp only [hG,decide_true,decide_false,not_true_eq_false,not_false_eq_true])<;>clear hG))<;>(try simp -dsimp (disch:=first|omega|(simp only [go_sem];omega)) only [go_sem,seval,Nat.reduceEqDiff,Nat.reduceLeDiff,hc1]))|simp -dsimp (disch:=first|omega|(simp only [go_sem];omega)) only [go_sem,seval,Nat.reduceEqDiff,Nat.reduceLeDiff,hc1]))
   (refine goM (put_ok q p d f n a b h0 h2 (by omega)) ((hs1.perm (l':=StA q p f n::DiskA p d::CellA w [.gp p 0,.gp q 0,.gp m 0,.gp m 0,.int .i64 f,.int .i64 n,.int .i64 f,.int .i64 n]::RefA m d::R) (by (repeat (first|exact List.Perm.refl _|with_reducible refine sp0 ?_|with_reducible refine sp1 ?_|with_reducible refine sp2 ?_|with_reducible refine sp3 ?_|with_reducible refine sp4 ?_|with_reducible refine sp5 ?_|with_reducible refine sp6 ?_|with_reducible refine sp7 ?_|with_reducible refine sp8 ?_|with_reducible refine sp9 ?_|with_reducible refine sp10 ?_|with_reducible refine sp11 ?_))))) ?_)
   rintro _ _ G1 ⟨rfl,rfl⟩ hs2'
   have hs2:Sep (StA q p f n::DiskA p (putR d f n a b).1::CellA w [.gp p 0,.gp q 0,.gp m 0,.gp m 0,.int .i64 f,.int .i64 n,.int .i64 f,.int .i64 n]::RefA m d::R) G1:=hs2'
   clear hs2'
   have hs3:Sep (CellA w [.gp p 0,.gp q 0,.gp m 0,.gp m 0,.int .i64 f,.int .i64 n,.int .i64 f,.int .i64 n]::StA q p f n::DiskA p (putR d f n a b).1::RefA m d::R) G1:=hs2.perm (by (repeat (first|exact List.Perm.refl _|with_reducible refine sp0 ?_|with_reducible refine sp1 ?_|with_reducible refine sp2 ?_|with_reducible refine sp3 ?_|with_reducible refine sp4 ?_|with_reducible refine sp5 ?_|with_reducible refine sp6 ?_|with_reducible refine sp7 ?_|with_reducible refine sp8 ?_|with_reducible refine sp9 ?_|with_reducible refine sp10 ?_|with_reducible refine sp11 ?_)))
   have hc3:=hs3.get
   refine goS (nn hc1 hc3) ?_
   refine goR (nn hc1 hc3) ?_
   (refine goM (rPut_ok m d f n a b h0 h2 (by omega)) ((hs3.perm (l':=RefA m d::CellA w [.gp p 0,.gp q 0,.gp m 0,.gp m 0,.int .i64 f,.int .i64 n,.int .i64 f,.int .i64 n]::StA q p f n::DiskA p (putR d f n a b).1::R) (by (repeat (first|exact List.Perm.refl _|with_reducible refine sp0 ?_|with_reducible refine sp1 ?_|with_reducible refine sp2 ?_|with_reducible refine sp3 ?_|with_reducible refine sp4 ?_|with_reducible refine sp5 ?_|with_reducible refine sp6 ?_|with_reducible refine sp7 ?_|with_reducible refine sp8 ?_|with_reducible refine sp9 ?_|with_reducible refine sp10 ?_|with_reducible refine sp11 ?_))))) ?_)
   rintro _ _ G2 ⟨rfl,rfl⟩ hs4'
   have hs4:Sep (RefA m (putR d f n a b).1::CellA w [.gp p 0,.gp q 0,.gp m 0,.gp m 0,.int .i64 f,.int .i64 n,.int .i64 f,.int .i64 n]::StA q p f n::DiskA p (putR d f n a b).1::R) G2:=hs4'
   clear hs4'
   have hs5:Sep (CellA w [.gp p 0,.gp q 0,.gp m 0,.gp m 0,.int .i64 f,.int .i64 n,.int .i64 f,.int .i64 n]::StA q p f n::DiskA p (putR d f n a b).1::RefA m (putR d f n a b).1::R) G2:=hs4.perm (by (repeat (first|exact List.Perm.refl _|with_reducible refine sp0 ?_|with_reducible refine sp1 ?_|with_reducible refine sp2 ?_|with_reducible refine sp3 ?_|with_reducible refine sp4 ?_|with_reducible refine sp5 ?_|with_reducible refine sp6 ?_|with_reducible refine sp7 ?_|with_reducible refine sp8 ?_|with_reducible refine sp9 ?_|with_reducible refine sp10 ?_|with_reducible refine sp11 ?_)))
   refine goS trivial ?_
   refine goR trivial ?_
   exact Fin.eq rfl ⟨rfl,_,⟨rfl,p,m,q,rfl⟩,hs5⟩
 by_cases k1:k=1
 · subst k1
   have hR:doR d true f n ⟨1,a,b,kp⟩=((killR d f n a).1,true):=by unfold doR;rw [if_neg k4,if_neg hdo,if_neg k0,if_pos rfl]
   rw [hR]
   refine goS trivial ?_
   (repeat' (first|(with_reducible first|refine W.seq ?_|refine W.block ?_)|((first|(with_reducible first|refine W.reg ?_|refine W.skip ?_|refine W.exit ?_|refine W.ret ?_|refine W.ifc ?_)|(apply wC_Q (hq);(focus (simp -dsimp (disch:=first|omega|(simp only [go_sem];omega)) only [go_sem,seval,Nat.reduceEqDiff,Nat.reduceLeDiff]<;>rfl));rintro _ rfl)|((with_reducible first|refine wG_decE (fun _ hG=>?_) (fun _ hG=>?_)|refine wG_decFE (fun _ hG=>?_) (fun _ hG=>?_))<;>(try simp -dsimp only [hG,decide_true,decide_false,not_true_eq_false,not_false_eq_true])<;>clear hG))<;>(try simp -dsimp (disch:=first|omega|(simp only [go_sem];omega)) only [go_sem,seval,Nat.reduceEqDiff,Nat.reduceLeDiff,hc1]))|simp -dsimp (disch:=first|omega|(simp only [go_sem];omega)) only [go_sem,seval,Nat.reduceEqDiff,Nat.reduceLeDiff,hc1]))
   (refine goM (kill_ok q p d f n a h0 h2 (by omega)) ((hs1.perm (l':=StA q p f n::DiskA p d::CellA w [.gp p 0,.gp q 0,.gp m 0,.gp m 0,.int .i64 f,.int .i64 n,.int .i64 f,.int .i64 n]::RefA m d::R) (by (repeat (first|exact List.Perm.refl _|with_reducible refine sp0 ?_|with_reducible refine sp1 ?_|with_reducible refine sp2 ?_|with_reducible refine sp3 ?_|with_reducible refine sp4 ?_|with_reducible refine sp5 ?_|with_reducible refine sp6 ?_|with_reducible refine sp7 ?_|with_reducible refine sp8 ?_|with_reducible refine sp9 ?_|with_reducible refine sp10 ?_|with_reducible refine sp11 ?_))))) ?_)
   rintro _ _ G1 ⟨rfl,rfl⟩ hs2'
   have hs2:Sep (StA q p f n::DiskA p (killR d f n a).1::CellA w [.gp p 0,.gp q 0,.gp m 0,.gp m 0,.int .i64 f,.int .i64 n,.int .i64 f,.int .i64 n]::RefA m d::R) G1:=hs2'
   clear hs2'
   have hs3:Sep (CellA w [.gp p 0,.gp q 0,.gp m 0,.gp m 0,.int .i64 f,.int .i64 n,.int .i64 f,.int .i64 n]::StA q p f n::DiskA p (killR d f n a).1::RefA m d::R) G1:=hs2.perm (by (repeat (first|exact List.Perm.refl _|with_reducible refine sp0 ?_|with_reducible refine sp1 ?_|with_reducible refine sp2 ?_|with_reducible refine sp3 ?_|with_reducible refine sp4 ?_|with_reducible refine sp5 ?_|with_reducible refine sp6 ?_|with_reducible refine sp7 ?_|with_reducible refine sp8 ?_|with_reducible refine sp9 ?_|with_reducible refine sp10 ?_|with_reducible refine sp11 ?_)))
   have hc3:=hs3.get
   refine goS (nn hc1 hc3) ?_
   refine goR (nn hc1 hc3) ?_
   (refine goM (rKill_ok m d f n a h0 h2 (by omega)) ((hs3.perm (l':=RefA m d::CellA w [.gp p 0,.gp q 0,.gp m 0,.gp m 0,.int .i64 f,.int .i64 n,.int .i64 f,.int .i64 n]::StA q p f n::DiskA p (killR d f n a).1::R) (by (repeat (first|exact List.Perm.refl _|with_reducible refine sp0 ?_|with_reducible refine sp1 ?_|with_reducible refine sp2 ?_|with_reducible refine sp3 ?_|with_reducible refine sp4 ?_|with_reducible refine sp5 ?_|with_reducible refine sp6 ?_|with_reducible refine sp7 ?_|with_reducible refine sp8 ?_|with_reducible refine sp9 ?_|with_reducible refine sp10 ?_|with_reducible refine sp11 ?_))))) ?_)
   rintro _ _ G2 ⟨rfl,rfl⟩ hs4'
   have hs4:Sep (RefA m (killR d f n a).1::CellA w [.gp p 0,.gp q 0,.gp m 0,.gp m 0,.int .i64 f,.int .i64 n,.int .i64 f,.int .i64 n]::StA q p f n::DiskA p (killR d f n a).1::R) G2:=hs4'
   clear hs4'
   have hs5:Sep (CellA w [.gp p 0,.gp q 0,.gp m 0,.gp m 0,.int .i64 f,.int .i64 n,.int .i64 f,.int .i64 n]::StA q p f n::DiskA p (killR d f n a).1::RefA m (killR d f n a).1::R) G2:=hs4.perm (by (repeat (first|exact List.Perm.refl _|with_reducible refine sp0 ?_|with_reducible refine sp1 ?_|with_reducible refine sp2 ?_|with_reducible refine sp3 ?_|with_reducible refine sp4 ?_|with_reducible refine sp5 ?_|with_reducible refine sp6 ?_|with_reducible refine sp7 ?_|with_reducible refine sp8 ?_|with_reducible refine sp9 ?_|with_reducible refine sp10 ?_|with_reducible refine sp11 ?_)))
   refine goS trivial ?_
   refine goR trivial ?_
   exact Fin.eq rfl ⟨rfl,_,⟨rfl,p,m,q,rfl⟩,hs5⟩
 by_cases k2:k=2
 · subst k2
   have hR:doR d true f n ⟨2,a,b,kp⟩=(d,true):=by unfold doR;rw [if_neg k4,if_neg hdo,if_neg k0,if_neg k1,if_pos rfl]
   rw [hR]
   have hg:=getG_ok q p d f n a h0 h2 (hs1.perm (l':=StA q p f n::DiskA p d::CellA w [.gp p 0,.gp q 0,.gp m 0,.gp m 0,.int .i64 f,.int .i64 n,.int .i64 f,.int .i64 n]::RefA m d::R) (by (repeat (first|exact List.Perm.refl _|with_reducible refine sp0 ?_|with_reducible refine sp1 ?_|with_reducible refine sp2 ?_|with_reducible refine sp3 ?_|with_reducible refine sp4 ?_|with_reducible refine sp5 ?_|with_reducible refine sp6 ?_|with_reducible refine sp7 ?_|with_reducible refine sp8 ?_|with_reducible refine sp9 ?_|with_reducible refine sp10 ?_|with_reducible refine sp11 ?_))))
   generalize hgr:getR d f n a=g at hg
   refine goS trivial ?_
   (repeat' (first|(with_reducible first|refine W.seq ?_|refine W.block ?_)|((first|(with_reducible first|refine W.reg ?_|refine W.skip ?_|refine W.exit ?_|refine W.ret ?_|refine W.ifc ?_)|(apply wC_Q (hq);(focus (simp -dsimp (disch:=first|omega|(simp only [go_sem];omega)) only [go_sem,seval,Nat.reduceEqDiff,Nat.reduceLeDiff]<;>rfl));rintro _ rfl)|((with_reducible first|refine wG_decE (fun _ hG=>?_) (fun _ hG=>?_)|refine wG_decFE (fun _ hG=>?_) (fun _ hG=>?_))<;>(try simp -dsimp only [hG,decide_true,decide_false,not_true_eq_false,not_false_eq_true])<;>clear hG))<;>(try simp -dsimp (disch:=first|omega|(simp only [go_sem];omega)) only [go_sem,seval,Nat.reduceEqDiff,Nat.reduceLeDiff,hc1]))|simp -dsimp (disch:=first|omega|(simp only [go_sem];omega)) only [go_sem,seval,Nat.reduceEqDiff,Nat.reduceLeDiff,hc1]))
   refine wC_gx0 (Q:=fun r G'=>r=.tup [.str g.1,.int .i64 g.2]∧GExt G G') hg (fun _ _ h=>h.2) (by simp -dsimp (disch:=first|omega|(simp only [go_sem];omega)) only [go_sem,seval,Nat.reduceEqDiff,Nat.reduceLeDiff]) (by simp -dsimp (disch:=first|omega|(simp only [go_sem];omega)) only [go_sem,seval,Nat.reduceEqDiff,Nat.reduceLeDiff]) ?_
   rintro _ G1 ⟨rfl,hext⟩
   have hs3:=hs1.mono (gext_sub hext)
   have hc3:=hs3.get
   have hq4:=(rGet_ok m d f n a h0 h2).q (hs3.perm (l':=RefA m d::CellA w [.gp p 0,.gp q 0,.gp m 0,.gp m 0,.int .i64 f,.int .i64 n,.int .i64 f,.int .i64 n]::StA q p f n::DiskA p d::R) (by (repeat (first|exact List.Perm.refl _|with_reducible refine sp0 ?_|with_reducible refine sp1 ?_|with_reducible refine sp2 ?_|with_reducible refine sp3 ?_|with_reducible refine sp4 ?_|with_reducible refine sp5 ?_|with_reducible refine sp6 ?_|with_reducible refine sp7 ?_|with_reducible refine sp8 ?_|with_reducible refine sp9 ?_|with_reducible refine sp10 ?_|with_reducible refine sp11 ?_))))
   rw [hgr] at hq4
   refine goS hc3 ?_
   (repeat' (first|(with_reducible first|refine W.seq ?_|refine W.block ?_)|((first|(with_reducible first|refine W.reg ?_|refine W.skip ?_|refine W.exit ?_|refine W.ret ?_|refine W.ifc ?_)|(apply wC_Q (hq4);(focus (simp -dsimp (disch:=first|omega|(simp only [go_sem];omega)) only [go_sem,seval,Nat.reduceEqDiff,Nat.reduceLeDiff]<;>rfl));rintro _ rfl)|((with_reducible first|refine wG_decE (fun _ hG=>?_) (fun _ hG=>?_)|refine wG_decFE (fun _ hG=>?_) (fun _ hG=>?_))<;>(try simp -dsimp only [hG,decide_true,decide_false,not_true_eq_false,not_false_eq_true])<;>clear hG))<;>(try simp -dsimp (disch:=first|omega|(simp only [go_sem];omega)) only [go_sem,seval,Nat.reduceEqDiff,Nat.reduceLeDiff,hc3]))|simp -dsimp (disch:=first|omega|(simp only [go_sem];omega)) only [go_sem,seval,Nat.reduceEqDiff,Nat.reduceLeDiff,hc3]))
   exact Fin.eq rfl ⟨rfl,_,⟨rfl,p,m,q,rfl⟩,hs3⟩
 by_cases k3:k=3
 · subst k3
   have hR:doR d true f n ⟨3,a,b,kp⟩=(arm d a,true):=by unfold doR;rw [if_neg k4,if_neg hdo,if_neg k0,if_neg k1,if_neg k2,if_pos rfl]
   rw [hR]
   refine goS trivial ?_
   (repeat' (first|(with_reducible first|refine W.seq ?_|refine W.block ?_)|((first|(with_reducible first|refine W.reg ?_|refine W.skip ?_|refine W.exit ?_|refine W.ret ?_|refine W.ifc ?_)|(apply wC_Q (hq);(focus (simp -dsimp (disch:=first|omega|(simp only [go_sem];omega)) only [go_sem,seval,Nat.reduceEqDiff,Nat.reduceLeDiff]<;>rfl));rintro _ rfl)|((with_reducible first|refine wG_decE (fun _ hG=>?_) (fun _ hG=>?_)|refine wG_decFE (fun _ hG=>?_) (fun _ hG=>?_))<;>(try simp -dsimp only [hG,decide_true,decide_false,not_true_eq_false,not_false_eq_true])<;>clear hG))<;>(try simp -dsimp (disch:=first|omega|(simp only [go_sem];omega)) only [go_sem,seval,Nat.reduceEqDiff,Nat.reduceLeDiff,hc1]))|simp -dsimp (disch:=first|omega|(simp only [go_sem];omega)) only [go_sem,seval,Nat.reduceEqDiff,Nat.reduceLeDiff,hc1]))
   (refine goM (Arm_ok p d a ha1) (hD) ?_)
   rintro _ _ G1 rfl hs2'
   have hs2:Sep (DiskA p (arm d a)::CellA w [.gp p 0,.gp q 0,.gp m 0,.gp m 0,.int .i64 f,.int .i64 n,.int .i64 f,.int .i64 n]::StA q p f n::RefA m d::R) G1:=hs2'
   clear hs2'
   have hs3:Sep (CellA w [.gp p 0,.gp q 0,.gp m 0,.gp m 0,.int .i64 f,.int .i64 n,.int .i64 f,.int .i64 n]::StA q p f n::DiskA p (arm d a)::RefA m d::R) G1:=hs2.perm (by (repeat (first|exact List.Perm.refl _|with_reducible refine sp0 ?_|with_reducible refine sp1 ?_|with_reducible refine sp2 ?_|with_reducible refine sp3 ?_|with_reducible refine sp4 ?_|with_reducible refine sp5 ?_|with_reducible refine sp6 ?_|with_reducible refine sp7 ?_|with_reducible refine sp8 ?_|with_reducible refine sp9 ?_|with_reducible refine sp10 ?_|with_reducible refine sp11 ?_)))
   have hc3:=hs3.get
   refine goS hc3 ?_
   refine goR hc3 ?_
   (refine goM (rArm_ok m d a ha1) ((hs3.perm (l':=RefA m d::CellA w [.gp p 0,.gp q 0,.gp m 0,.gp m 0,.int .i64 f,.int .i64 n,.int .i64 f,.int .i64 n]::StA q p f n::DiskA p (arm d a)::R) (by (repeat (first|exact List.Perm.refl _|with_reducible refine sp0 ?_|with_reducible refine sp1 ?_|with_reducible refine sp2 ?_|with_reducible refine sp3 ?_|with_reducible refine sp4 ?_|with_reducible refine sp5 ?_|with_reducible refine sp6 ?_|with_reducible refine sp7 ?_|with_reducible refine sp8 ?_|with_reducible refine sp9 ?_|with_reducible refine sp10 ?_|with_reducible refine sp11 ?_))))) ?_)
   rintro _ _ G2 rfl hs4'
   have hs4:Sep (RefA m (arm d a)::CellA w [.gp p 0,.gp q 0,.gp m 0,.gp m 0,.int .i64 f,.int .i64 n,.int .i64 f,.int .i64 n]::StA q p f n::DiskA p (arm d a)::R) G2:=hs4'
   clear hs4'
   have hs5:Sep (CellA w [.gp p 0,.gp q 0,.gp m 0,.gp m 0,.int .i64 f,.int .i64 n,.int .i64 f,.int .i64 n]::StA q p f n::DiskA p (arm d a)::RefA m (arm d a)::R) G2:=hs4.perm (by (repeat (first|exact List.Perm.refl _|with_reducible refine sp0 ?_|with_reducible refine sp1 ?_|with_reducible refine sp2 ?_|with_reducible refine sp3 ?_|with_reducible refine sp4 ?_|with_reducible refine sp5 ?_|with_reducible refine sp6 ?_|with_reducible refine sp7 ?_|with_reducible refine sp8 ?_|with_reducible refine sp9 ?_|with_reducible refine sp10 ?_|with_reducible refine sp11 ?_)))
   refine goS trivial ?_
   refine goR trivial ?_
   exact Fin.eq rfl ⟨rfl,_,⟨rfl,p,m,q,rfl⟩,hs5⟩
 by_cases k5:k=5
 · subst k5
   have hR:doR d true f n ⟨5,a,b,kp⟩=((rot d a).1,true):=by unfold doR;rw [if_neg k4,if_neg hdo,if_neg k0,if_neg k1,if_neg k2,if_neg k3,if_pos rfl]
   rw [hR]
   refine goS trivial ?_
   (repeat' (first|(with_reducible first|refine W.seq ?_|refine W.block ?_)|((first|(with_reducible first|refine W.reg ?_|refine W.skip ?_|refine W.exit ?_|refine W.ret ?_|refine W.ifc ?_)|(apply wC_Q (hq);(focus (simp -dsimp (disch:=first|omega|(simp only [go_sem];omega)) only [go_sem,seval,Nat.reduceEqDiff,Nat.reduceLeDiff]<;>rfl));rintro _ rfl)|((with_reducible first|refine wG_decE (fun _ hG=>?_) (fun _ hG=>?_)|refine wG_decFE (fun _ hG=>?_) (fun _ hG=>?_))<;>(try simp -dsimp only [hG,decide_true,decide_false,not_true_eq_false,not_false_eq_true])<;>clear hG))<;>(try simp -dsimp (disch:=first|omega|(simp only [go_sem];omega)) only [go_sem,seval,Nat.reduceEqDiff,Nat.reduceLeDiff,hc1]))|simp -dsimp (disch:=first|omega|(simp only [go_sem];omega)) only [go_sem,seval,Nat.reduceEqDiff,Nat.reduceLeDiff,hc1]))
   (refine goM (Rot_ok p d a) (hD) ?_)
   rintro _ _ G1 ⟨rfl,rfl⟩ hs2'
   have hs2:Sep (DiskA p (rot d a).1::CellA w [.gp p 0,.gp q 0,.gp m 0,.gp m 0,.int .i64 f,.int .i64 n,.int .i64 f,.int .i64 n]::StA q p f n::RefA m d::R) G1:=hs2'
   clear hs2'
   have hs3:Sep (CellA w [.gp p 0,.gp q 0,.gp m 0,.gp m 0,.int .i64 f,.int .i64 n,.int .i64 f,.int .i64 n]::StA q p f n::DiskA p (rot d a).1::RefA m d::R) G1:=hs2.perm (by (repeat (first|exact List.Perm.refl _|with_reducible refine sp0 ?_|with_reducible refine sp1 ?_|with_reducible refine sp2 ?_|with_reducible refine sp3 ?_|with_reducible refine sp4 ?_|with_reducible refine sp5 ?_|with_reducible refine sp6 ?_|with_reducible refine sp7 ?_|with_reducible refine sp8 ?_|with_reducible refine sp9 ?_|with_reducible refine sp10 ?_|with_reducible refine sp11 ?_)))
   have hc3:=hs3.get
   refine goS (nn hc1 hc3) ?_
   refine goR (nn hc1 hc3) ?_
   (refine goM (rRot_ok m d a) ((hs3.perm (l':=RefA m d::CellA w [.gp p 0,.gp q 0,.gp m 0,.gp m 0,.int .i64 f,.int .i64 n,.int .i64 f,.int .i64 n]::StA q p f n::DiskA p (rot d a).1::R) (by (repeat (first|exact List.Perm.refl _|with_reducible refine sp0 ?_|with_reducible refine sp1 ?_|with_reducible refine sp2 ?_|with_reducible refine sp3 ?_|with_reducible refine sp4 ?_|with_reducible refine sp5 ?_|with_reducible refine sp6 ?_|with_reducible refine sp7 ?_|with_reducible refine sp8 ?_|with_reducible refine sp9 ?_|with_reducible refine sp10 ?_|with_reducible refine sp11 ?_))))) ?_)
   rintro _ _ G2 ⟨rfl,rfl⟩ hs4'
   have hs4:Sep (RefA m (rot d a).1::CellA w [.gp p 0,.gp q 0,.gp m 0,.gp m 0,.int .i64 f,.int .i64 n,.int .i64 f,.int .i64 n]::StA q p f n::DiskA p (rot d a).1::R) G2:=hs4'
   clear hs4'
   have hs5:Sep (CellA w [.gp p 0,.gp q 0,.gp m 0,.gp m 0,.int .i64 f,.int .i64 n,.int .i64 f,.int .i64 n]::StA q p f n::DiskA p (rot d a).1::RefA m (rot d a).1::R) G2:=hs4.perm (by (repeat (first|exact List.Perm.refl _|with_reducible refine sp0 ?_|with_reducible refine sp1 ?_|with_reducible refine sp2 ?_|with_reducible refine sp3 ?_|with_reducible refine sp4 ?_|with_reducible refine sp5 ?_|with_reducible refine sp6 ?_|with_reducible refine sp7 ?_|with_reducible refine sp8 ?_|with_reducible refine sp9 ?_|with_reducible refine sp10 ?_|with_reducible refine sp11 ?_)))
   refine goS trivial ?_
   refine goR trivial ?_
   exact Fin.eq rfl ⟨rfl,_,⟨rfl,p,m,q,rfl⟩,hs5⟩
 by_cases k6:k=6
 · subst k6
   have hR:doR d true f n ⟨6,a,b,kp⟩=((flp d a b.length).1,true):=by unfold doR;rw [if_neg k4,if_neg hdo,if_neg k0,if_neg k1,if_neg k2,if_neg k3,if_neg k5,if_pos rfl]
   rw [hR]
   refine goS trivial ?_
   (repeat' (first|(with_reducible first|refine W.seq ?_|refine W.block ?_)|((first|(with_reducible first|refine W.reg ?_|refine W.skip ?_|refine W.exit ?_|refine W.ret ?_|refine W.ifc ?_)|(apply wC_Q (hq);(focus (simp -dsimp (disch:=first|omega|(simp only [go_sem];omega)) only [go_sem,seval,Nat.reduceEqDiff,Nat.reduceLeDiff]<;>rfl));rintro _ rfl)|((with_reducible first|refine wG_decE (fun _ hG=>?_) (fun _ hG=>?_)|refine wG_decFE (fun _ hG=>?_) (fun _ hG=>?_))<;>(try simp -dsimp only [hG,decide_true,decide_false,not_true_eq_false,not_false_eq_true])<;>clear hG))<;>(try simp -dsimp (disch:=first|omega|(simp only [go_sem];omega)) only [go_sem,seval,Nat.reduceEqDiff,Nat.reduceLeDiff,hc1]))|simp -dsimp (disch:=first|omega|(simp only [go_sem];omega)) only [go_sem,seval,Nat.reduceEqDiff,Nat.reduceLeDiff,hc1]))
   (refine goM (Flip_ok p d a b.length) (hD) ?_)
   rintro _ _ G1 ⟨rfl,rfl⟩ hs2'
   have hs2:Sep (DiskA p (flp d a b.length).1::CellA w [.gp p 0,.gp q 0,.gp m 0,.gp m 0,.int .i64 f,.int .i64 n,.int .i64 f,.int .i64 n]::StA q p f n::RefA m d::R) G1:=hs2'
   clear hs2'
   have hs3:Sep (CellA w [.gp p 0,.gp q 0,.gp m 0,.gp m 0,.int .i64 f,.int .i64 n,.int .i64 f,.int .i64 n]::StA q p f n::DiskA p (flp d a b.length).1::RefA m d::R) G1:=hs2.perm (by (repeat (first|exact List.Perm.refl _|with_reducible refine sp0 ?_|with_reducible refine sp1 ?_|with_reducible refine sp2 ?_|with_reducible refine sp3 ?_|with_reducible refine sp4 ?_|with_reducible refine sp5 ?_|with_reducible refine sp6 ?_|with_reducible refine sp7 ?_|with_reducible refine sp8 ?_|with_reducible refine sp9 ?_|with_reducible refine sp10 ?_|with_reducible refine sp11 ?_)))
   have hc3:=hs3.get
   refine goS (nn hc1 hc3) ?_
   refine goR (nn hc1 hc3) ?_
   (refine goM (rFlip_ok m d a b.length) ((hs3.perm (l':=RefA m d::CellA w [.gp p 0,.gp q 0,.gp m 0,.gp m 0,.int .i64 f,.int .i64 n,.int .i64 f,.int .i64 n]::StA q p f n::DiskA p (flp d a b.length).1::R) (by (repeat (first|exact List.Perm.refl _|with_reducible refine sp0 ?_|with_reducible refine sp1 ?_|with_reducible refine sp2 ?_|with_reducible refine sp3 ?_|with_reducible refine sp4 ?_|with_reducible refine sp5 ?_|with_reducible refine sp6 ?_|with_reducible refine sp7 ?_|with_reducible refine sp8 ?_|with_reducible refine sp9 ?_|with_reducible refine sp10 ?_|with_reducible refine sp11 ?_))))) ?_)
   rintro _ _ G2 ⟨rfl,rfl⟩ hs4'
   have hs4:Sep (RefA m (flp d a b.length).1::CellA w [.gp p 0,.gp q 0,.gp m 0,.gp m 0,.int .i64 f,.int .i64 n,.int .i64 f,.int .i64 n]::StA q p f n::DiskA p (flp d a b.length).1::R) G2:=hs4'
   clear hs4'
   have hs5:Sep (CellA w [.gp p 0,.gp q 0,.gp m 0,.gp m 0,.int .i64 f,.int .i64 n,.int .i64 f,.int .i64 n]::StA q p f n::DiskA p (flp d a b.length).1::RefA m (flp d a b.length).1::R) G2:=hs4.perm (by (repeat (first|exact List.Perm.refl _|with_reducible refine sp0 ?_|with_reducible refine sp1 ?_|with_reducible refine sp2 ?_|with_reducible refine sp3 ?_|with_reducible refine sp4 ?_|with_reducible refine sp5 ?_|with_reducible refine sp6 ?_|with_reducible refine sp7 ?_|with_reducible refine sp8 ?_|with_reducible refine sp9 ?_|with_reducible refine sp10 ?_|with_reducible refine sp11 ?_)))
   refine goS trivial ?_
   refine goR trivial ?_
   exact Fin.eq rfl ⟨rfl,_,⟨rfl,p,m,q,rfl⟩,hs5⟩
 have hR:doR d true f n ⟨k,a,b,kp⟩=(d,true):=by unfold doR;rw [if_neg k4,if_neg hdo,if_neg k0,if_neg k1,if_neg k2,if_neg k3,if_neg k5,if_neg k6]
 rw [hR]
 have f0:(k=0)=False:=eq_false k0
 have f1:(k=1)=False:=eq_false k1
 have f2:(k=2)=False:=eq_false k2
 have f3:(k=3)=False:=eq_false k3
 have f5:(k=5)=False:=eq_false k5
 have f6:(k=6)=False:=eq_false k6
 refine goS (nn k4' (nn f0 (nn f1 (nn f2 (nn f3 (nn f5 f6)))))) ?_
 (repeat' (first|(with_reducible first|refine W.seq ?_|refine W.block ?_)|((first|(with_reducible first|refine W.reg ?_|refine W.skip ?_|refine W.exit ?_|refine W.ret ?_|refine W.ifc ?_)|(apply wC_Q (hq);(focus (simp -dsimp (disch:=first|omega|(simp only [go_sem];omega)) only [go_sem,seval,Nat.reduceEqDiff,Nat.reduceLeDiff]<;>rfl));rintro _ rfl)|((with_reducible first|refine wG_decE (fun _ hG=>?_) (fun _ hG=>?_)|refine wG_decFE (fun _ hG=>?_) (fun _ hG=>?_))<;>(try simp -dsimp only [hG,decide_true,decide_false,not_true_eq_false,not_false_eq_true])<;>clear hG))<;>(try simp -dsimp (disch:=first|omega|(simp only [go_sem];omega)) only [go_sem,seval,Nat.reduceEqDiff,Nat.reduceLeDiff,hc1,k4',f0,f1,f2,f3,f5,f6]))|simp -dsimp (disch:=first|omega|(simp only [go_sem];omega)) only [go_sem,seval,Nat.reduceEqDiff,Nat.reduceLeDiff,hc1,k4',f0,f1,f2,f3,f5,f6]))
 exact Fin.eq rfl ⟨rfl,_,⟨rfl,p,m,q,rfl⟩,hs1⟩
end Go.Proofs.Ytioojmlhmhgeeaa
