/-
 Layer 22 (slots),continued: change,Put,Kill,Get.
 Conditions: of each contract as it says.
-/
import Derived.Test.YtioojmlhmhgeeaaF22v
namespace Go.Proofs.Ytioojmlhmhgeeaa
open Go Go.E2 C22
set_option linter.unusedSimpArgs false
set_option maxHeartbeats 1000000
theorem mod_u32 (x:Int):IntKind.u32.wrap x=x % 4294967296:=rfl
theorem changeS_ok (q p:Nat) (d:Dk) (first n i:Int) (b:Str) (h0:0≤first) (h1:0≤i) (h2:first+2*i+1≤1000000) (hb:b.length≤55) (hn:d.steps≤800000000) :
 CallS Try.prog f_zz27 [.gp q 0,.int .i64 i,.str b] [StA q p first n,DiskA p d] (fun r post=>r=.d (.int .i64 (changeR d first i b).2)∧post=[StA q p first n,DiskA p (changeR d first i b).1]):=by
 refine callS_of_W fol zz27_cp fun R G σ hs=>?_
 have hok:Okd d:=by obtain⟨_,_,_,_,h⟩:=DiskP.open hs.swap;exact h.ok
 have hs:Sep (CellA q [.gp p 0,.int .i64 first,.int .i64 n]::DiskA p d::R) G:=hs
 have hc:=hs.get
 have hch:changeR d first i b=if (slotR d first i).2.2≠0 then (d,(slotR d first i).2.2) else
  if (healR d (slotR d first i).1 (slotR d first i).2.1).2≠0 then healR d (slotR d first i).1 (slotR d first i).2.1 else
  change2 (healR d (slotR d first i).1 (slotR d first i).2.1).1 first i (mk1 (nextQ (slotR d first i).1) b):=rfl
 rw [hch]
 refine goS trivial ?_
 (repeat' (first|(with_reducible first|refine W.seq ?_|refine W.block ?_)|((first|(with_reducible first|refine W.reg ?_|refine W.skip ?_|refine W.exit ?_|refine W.ret ?_|refine W.ifc ?_)|((with_reducible first|refine wG_decE (fun _ hG=>?_) (fun _ hG=>?_)|refine wG_decFE (fun _ hG=>?_) (fun _ hG=>?_))<;>(try simp -dsimp only [hG,decide_true,decide_false,not_true_eq_false,not_false_eq_true])<;>clear hG))<;>(try simp -dsimp (disch:=first|omega|(simp only [go_sem];omega)) only [go_sem,seval,Nat.reduceEqDiff,Nat.reduceLeDiff,hc]))|simp -dsimp (disch:=first|omega|(simp only [go_sem];omega)) only [go_sem,seval,Nat.reduceEqDiff,Nat.reduceLeDiff,hc]))
 (refine goM (slot_ok p d first n i h0 h1 h2) (hs.swap) ?_)
 rintro _ _ G2 ⟨rfl,rfl⟩ hs2
 have hs2:Sep (DiskA p d::CellA q [.gp p 0,.int .i64 first,.int .i64 n]::R) G2:=hs2
 have hc2:=hs2.swap.get
 generalize (slotR d first i).1=best at *
 generalize (slotR d first i).2.1=other at *
 generalize (slotR d first i).2.2=er at *
 have kl1:=eF_len best
 have kl2:=eF_len other
 by_cases her:er=0
 · subst her
   rw [if_neg (by simp)]
   have hup:=(healR_up hok (by omega) best other).2.2
   refine goS (nn kl1 kl2) ?_
   (repeat' (first|(with_reducible first|refine W.seq ?_|refine W.block ?_)|((first|(with_reducible first|refine W.reg ?_|refine W.skip ?_|refine W.exit ?_|refine W.ret ?_|refine W.ifc ?_)|((with_reducible first|refine wG_decE (fun _ hG=>?_) (fun _ hG=>?_)|refine wG_decFE (fun _ hG=>?_) (fun _ hG=>?_))<;>(try simp -dsimp only [hG,decide_true,decide_false,not_true_eq_false,not_false_eq_true])<;>clear hG))<;>(try simp -dsimp (disch:=first|omega|(simp only [go_sem];omega)) only [go_sem,seval,Nat.reduceEqDiff,Nat.reduceLeDiff,kl1,kl2,hc2]))|simp -dsimp (disch:=first|omega|(simp only [go_sem];omega)) only [go_sem,seval,Nat.reduceEqDiff,Nat.reduceLeDiff,kl1,kl2,hc2]))
   (refine goM (heal_ok p d first n best other (by omega)) (hs2) ?_)
   rintro _ _ G3 ⟨rfl,rfl⟩ hs3'
   have hs3:Sep (DiskA p (healR d best other).1::CellA q [.gp p 0,.int .i64 first,.int .i64 n]::R) G3:=hs3'
   clear hs3'
   have hc3:=hs3.swap.get
   by_cases hf:(healR d best other).2=0
   · rw [if_neg (by rw [hf];simp)]
     generalize (healR d best other).1=d3 at hs3 hup ⊢
     obtain⟨bs,ba,bg⟩:=best
     cases bg
     · have hkb:=head65 ⟨bs,ba,false⟩
       have hnq:nextQ ⟨bs,ba,false⟩=1:=rfl
       rw [hnq]
       refine goS hf ?_
       (repeat' (first|(with_reducible first|refine W.seq ?_|refine W.block ?_)|((first|(with_reducible first|refine W.reg ?_|refine W.skip ?_|refine W.exit ?_|refine W.ret ?_|refine W.ifc ?_)|(apply wC_P (make1_ok 1 (by omega) (by omega) b hb);(focus (simp -dsimp (disch:=first|omega|(simp only [go_sem];omega)) only [go_sem,seval,Nat.reduceEqDiff,Nat.reduceLeDiff]<;>rfl));rintro _ rfl)|((with_reducible first|refine wG_decE (fun _ hG=>?_) (fun _ hG=>?_)|refine wG_decFE (fun _ hG=>?_) (fun _ hG=>?_))<;>(try simp -dsimp only [hG,decide_true,decide_false,not_true_eq_false,not_false_eq_true])<;>clear hG))<;>(try simp -dsimp (disch:=first|omega|(simp only [go_sem];omega)) only [go_sem,seval,Nat.reduceEqDiff,Nat.reduceLeDiff,hf,hkb,hc3,kl1,kl2]))|simp -dsimp (disch:=first|omega|(simp only [go_sem];omega)) only [go_sem,seval,Nat.reduceEqDiff,Nat.reduceLeDiff,hf,hkb,hc3,kl1,kl2]))
       generalize mk1 1 b=ns
       have hc2':change2 d3 first i ns=if (writeR d3 (first+2*i+1) ns).2≠0 then writeR d3 (first+2*i+1) ns else writeR (writeR d3 (first+2*i+1) ns).1 (first+2*i) ns:=rfl
       rw [hc2']
       have hok3:Okd d3:=by obtain⟨_,_,_,_,h⟩:=DiskP.open hs3;exact h.ok
       have hup3:=(writeR_up hok3 (by omega) (first+2*i+1) ns).2.2
       (refine goM (writeP_ok p d3 first n (first+2*i+1) ns (by omega)) (hs3) ?_)
       rintro _ _ G4 ⟨rfl,rfl⟩ hs4
       have hs4:Sep (DiskA p (writeR d3 (first+2*i+1) ns).1::CellA q [.gp p 0,.int .i64 first,.int .i64 n]::R) G4:=hs4
       have hc4:=hs4.swap.get
       by_cases hw:(writeR d3 (first+2*i+1) ns).2=0
       · rw [if_neg (by rw [hw];simp)]
         refine goS hw ?_
         (repeat' (first|(with_reducible first|refine W.seq ?_|refine W.block ?_)|((first|(with_reducible first|refine W.reg ?_|refine W.skip ?_|refine W.exit ?_|refine W.ret ?_|refine W.ifc ?_)|((with_reducible first|refine wG_decE (fun _ hG=>?_) (fun _ hG=>?_)|refine wG_decFE (fun _ hG=>?_) (fun _ hG=>?_))<;>(try simp -dsimp only [hG,decide_true,decide_false,not_true_eq_false,not_false_eq_true])<;>clear hG))<;>(try simp -dsimp (disch:=first|omega|(simp only [go_sem];omega)) only [go_sem,seval,Nat.reduceEqDiff,Nat.reduceLeDiff,hw,hc4]))|simp -dsimp (disch:=first|omega|(simp only [go_sem];omega)) only [go_sem,seval,Nat.reduceEqDiff,Nat.reduceLeDiff,hw,hc4]))
         (refine goM (writeP_ok p (writeR d3 (first+2*i+1) ns).1 first n (first+2*i) ns (by omega)) (hs4) ?_)
         rintro _ _ G5 ⟨rfl,rfl⟩ hs5
         refine goS trivial ?_
         refine goR trivial ?_
         exact Fin.eq rfl ⟨rfl,_,⟨rfl,rfl⟩,hs5.swap⟩
       · rw [if_pos hw]
         refine goS hw ?_
         (repeat' (first|(with_reducible first|refine W.seq ?_|refine W.block ?_)|((first|(with_reducible first|refine W.reg ?_|refine W.skip ?_|refine W.exit ?_|refine W.ret ?_|refine W.ifc ?_)|((with_reducible first|refine wG_decE (fun _ hG=>?_) (fun _ hG=>?_)|refine wG_decFE (fun _ hG=>?_) (fun _ hG=>?_))<;>(try simp -dsimp only [hG,decide_true,decide_false,not_true_eq_false,not_false_eq_true])<;>clear hG))<;>(try simp -dsimp (disch:=first|omega|(simp only [go_sem];omega)) only [go_sem,seval,Nat.reduceEqDiff,Nat.reduceLeDiff,hw]))|simp -dsimp (disch:=first|omega|(simp only [go_sem];omega)) only [go_sem,seval,Nat.reduceEqDiff,Nat.reduceLeDiff,hw]))
         exact Fin.eq rfl ⟨rfl,_,⟨rfl,rfl⟩,hs4.swap⟩
     · have hkb:=head65 ⟨bs,ba,true⟩
       have hnq:nextQ ⟨bs,ba,true⟩=((numAt bs 0:Int)+1) % 4294967296:=rfl
       rw [hnq]
       refine goS hf ?_
       (repeat' (first|(with_reducible first|refine W.seq ?_|refine W.block ?_)|((first|(with_reducible first|refine W.reg ?_|refine W.skip ?_|refine W.exit ?_|refine W.ret ?_|refine W.ifc ?_)|(apply wC_P (number_ok bs 0 (by omega));(focus (simp -dsimp (disch:=first|omega|(simp only [go_sem];omega)) only [go_sem,seval,Nat.reduceEqDiff,Nat.reduceLeDiff]<;>rfl));rintro _ rfl)|(apply wC_P (make1_ok (((numAt bs 0:Int)+1) % 4294967296) (by omega) (by omega) b hb);(focus (simp -dsimp (disch:=first|omega|(simp only [go_sem];omega)) only [go_sem,seval,Nat.reduceEqDiff,Nat.reduceLeDiff]<;>rfl));rintro _ rfl)|((with_reducible first|refine wG_decE (fun _ hG=>?_) (fun _ hG=>?_)|refine wG_decFE (fun _ hG=>?_) (fun _ hG=>?_))<;>(try simp -dsimp only [hG,decide_true,decide_false,not_true_eq_false,not_false_eq_true])<;>clear hG))<;>(try simp -dsimp (disch:=first|omega|(simp only [go_sem];omega)) only [go_sem,seval,Nat.reduceEqDiff,Nat.reduceLeDiff,hf,hkb,hc3,mod_u32,kl1,kl2]))|simp -dsimp (disch:=first|omega|(simp only [go_sem];omega)) only [go_sem,seval,Nat.reduceEqDiff,Nat.reduceLeDiff,hf,hkb,hc3,mod_u32,kl1,kl2]))
       generalize mk1 (((numAt bs 0:Int)+1) % 4294967296) b=ns
       have hc2':change2 d3 first i ns=if (writeR d3 (first+2*i+1) ns).2≠0 then writeR d3 (first+2*i+1) ns else writeR (writeR d3 (first+2*i+1) ns).1 (first+2*i) ns:=rfl
       rw [hc2']
       have hok3:Okd d3:=by obtain⟨_,_,_,_,h⟩:=DiskP.open hs3;exact h.ok
       have hup3:=(writeR_up hok3 (by omega) (first+2*i+1) ns).2.2
       (refine goM (writeP_ok p d3 first n (first+2*i+1) ns (by omega)) (hs3) ?_)
       rintro _ _ G4 ⟨rfl,rfl⟩ hs4
       have hs4:Sep (DiskA p (writeR d3 (first+2*i+1) ns).1::CellA q [.gp p 0,.int .i64 first,.int .i64 n]::R) G4:=hs4
       have hc4:=hs4.swap.get
       by_cases hw:(writeR d3 (first+2*i+1) ns).2=0
       · rw [if_neg (by rw [hw];simp)]
         refine goS hw ?_
         (repeat' (first|(with_reducible first|refine W.seq ?_|refine W.block ?_)|((first|(with_reducible first|refine W.reg ?_|refine W.skip ?_|refine W.exit ?_|refine W.ret ?_|refine W.ifc ?_)|((with_reducible first|refine wG_decE (fun _ hG=>?_) (fun _ hG=>?_)|refine wG_decFE (fun _ hG=>?_) (fun _ hG=>?_))<;>(try simp -dsimp only [hG,decide_true,decide_false,not_true_eq_false,not_false_eq_true])<;>clear hG))<;>(try simp -dsimp (disch:=first|omega|(simp only [go_sem];omega)) only [go_sem,seval,Nat.reduceEqDiff,Nat.reduceLeDiff,hw,hc4]))|simp -dsimp (disch:=first|omega|(simp only [go_sem];omega)) only [go_sem,seval,Nat.reduceEqDiff,Nat.reduceLeDiff,hw,hc4]))
         (refine goM (writeP_ok p (writeR d3 (first+2*i+1) ns).1 first n (first+2*i) ns (by omega)) (hs4) ?_)
         rintro _ _ G5 ⟨rfl,rfl⟩ hs5
         refine goS trivial ?_
         refine goR trivial ?_
         exact Fin.eq rfl ⟨rfl,_,⟨rfl,rfl⟩,hs5.swap⟩
       · rw [if_pos hw]
         refine goS hw ?_
         (repeat' (first|(with_reducible first|refine W.seq ?_|refine W.block ?_)|((first|(with_reducible first|refine W.reg ?_|refine W.skip ?_|refine W.exit ?_|refine W.ret ?_|refine W.ifc ?_)|((with_reducible first|refine wG_decE (fun _ hG=>?_) (fun _ hG=>?_)|refine wG_decFE (fun _ hG=>?_) (fun _ hG=>?_))<;>(try simp -dsimp only [hG,decide_true,decide_false,not_true_eq_false,not_false_eq_true])<;>clear hG))<;>(try simp -dsimp (disch:=first|omega|(simp only [go_sem];omega)) only [go_sem,seval,Nat.reduceEqDiff,Nat.reduceLeDiff,hw]))|simp -dsimp (disch:=first|omega|(simp only [go_sem];omega)) only [go_sem,seval,Nat.reduceEqDiff,Nat.reduceLeDiff,hw]))
         exact Fin.eq rfl ⟨rfl,_,⟨rfl,rfl⟩,hs4.swap⟩
   · rw [if_pos hf]
     refine goS hf ?_
     (repeat' (first|(with_reducible first|refine W.seq ?_|refine W.block ?_)|((first|(with_reducible first|refine W.reg ?_|refine W.skip ?_|refine W.exit ?_|refine W.ret ?_|refine W.ifc ?_)|((with_reducible first|refine wG_decE (fun _ hG=>?_) (fun _ hG=>?_)|refine wG_decFE (fun _ hG=>?_) (fun _ hG=>?_))<;>(try simp -dsimp only [hG,decide_true,decide_false,not_true_eq_false,not_false_eq_true])<;>clear hG))<;>(try simp -dsimp (disch:=first|omega|(simp only [go_sem];omega)) only [go_sem,seval,Nat.reduceEqDiff,Nat.reduceLeDiff,hf]))|simp -dsimp (disch:=first|omega|(simp only [go_sem];omega)) only [go_sem,seval,Nat.reduceEqDiff,Nat.reduceLeDiff,hf]))
     exact Fin.eq rfl ⟨rfl,_,⟨rfl,rfl⟩,hs3.swap⟩
 · rw [if_pos her]
   refine goS (nn her (nn kl1 kl2)) ?_
   (repeat' (first|(with_reducible first|refine W.seq ?_|refine W.block ?_)|((first|(with_reducible first|refine W.reg ?_|refine W.skip ?_|refine W.exit ?_|refine W.ret ?_|refine W.ifc ?_)|((with_reducible first|refine wG_decE (fun _ hG=>?_) (fun _ hG=>?_)|refine wG_decFE (fun _ hG=>?_) (fun _ hG=>?_))<;>(try simp -dsimp only [hG,decide_true,decide_false,not_true_eq_false,not_false_eq_true])<;>clear hG))<;>(try simp -dsimp (disch:=first|omega|(simp only [go_sem];omega)) only [go_sem,seval,Nat.reduceEqDiff,Nat.reduceLeDiff,her,kl1,kl2]))|simp -dsimp (disch:=first|omega|(simp only [go_sem];omega)) only [go_sem,seval,Nat.reduceEqDiff,Nat.reduceLeDiff,her,kl1,kl2]))
   exact Fin.eq rfl ⟨rfl,_,⟨rfl,rfl⟩,hs2.swap⟩
theorem put_ok (q p:Nat) (d:Dk) (first n i:Int) (b:Str) (h0:0≤first) (h2:first+2*n≤1000000) (hn:d.steps≤800000000) :
 CallS Try.prog f_zz43 [.gp q 0,.int .i64 i,.str b] [StA q p first n,DiskA p d] (fun r post=>r=.d (.int .i64 (putR d first n i b).2)∧post=[StA q p first n,DiskA p (putR d first n i b).1]):=by
 refine callS_of_W fol zz43_cp fun R G σ hs=>?_
 have hc:=Sep.get (b:=q) (cs:=[.gp p 0,.int .i64 first,.int .i64 n]) hs
 by_cases p1:i < 0∨n≤i∨b.length < 1∨55 < b.length
 · have hr:putR d first n i b=(d,1):=by unfold putR;rw [if_pos p1]
   rw [hr]
   refine goS trivial ?_
   (repeat' (first|(with_reducible first|refine W.seq ?_|refine W.block ?_)|((first|(with_reducible first|refine W.reg ?_|refine W.skip ?_|refine W.exit ?_|refine W.ret ?_|refine W.ifc ?_)|((with_reducible first|refine wG_decE (fun _ hG=>?_) (fun _ hG=>?_)|refine wG_decFE (fun _ hG=>?_) (fun _ hG=>?_))<;>(try simp -dsimp only [hG,decide_true,decide_false,not_true_eq_false,not_false_eq_true])<;>clear hG))<;>(try simp -dsimp (disch:=first|omega|(simp only [go_sem];omega)) only [go_sem,seval,Nat.reduceEqDiff,Nat.reduceLeDiff,hc]))|simp -dsimp (disch:=first|omega|(simp only [go_sem];omega)) only [go_sem,seval,Nat.reduceEqDiff,Nat.reduceLeDiff,hc]))
   all_goals first|exact Fin.eq rfl ⟨rfl,_,⟨rfl,rfl⟩,hs⟩|(exfalso;omega)
 · have hr:putR d first n i b=changeR d first i b:=by unfold putR;rw [if_neg p1]
   rw [hr]
   have e1:(i < 0)=False:=eq_false (by omega)
   have e2:(n≤i)=False:=eq_false (by omega)
   have e3:((b.length:Int) < 1)=False:=eq_false (by omega)
   have e4:(55 < (b.length:Int))=False:=eq_false (by omega)
   refine goS (nn e1 (nn e2 (nn e3 e4))) ?_
   (repeat' (first|(with_reducible first|refine W.seq ?_|refine W.block ?_)|((first|(with_reducible first|refine W.reg ?_|refine W.skip ?_|refine W.exit ?_|refine W.ret ?_|refine W.ifc ?_)|((with_reducible first|refine wG_decE (fun _ hG=>?_) (fun _ hG=>?_)|refine wG_decFE (fun _ hG=>?_) (fun _ hG=>?_))<;>(try simp -dsimp only [hG,decide_true,decide_false,not_true_eq_false,not_false_eq_true])<;>clear hG))<;>(try simp -dsimp (disch:=first|omega|(simp only [go_sem];omega)) only [go_sem,seval,Nat.reduceEqDiff,Nat.reduceLeDiff,hc,e1,e2,e3,e4]))|simp -dsimp (disch:=first|omega|(simp only [go_sem];omega)) only [go_sem,seval,Nat.reduceEqDiff,Nat.reduceLeDiff,hc,e1,e2,e3,e4]))
   (refine goM (changeS_ok q p d first n i b h0 (by omega) (by omega) (by omega) hn) (hs) ?_)
   rintro _ _ G2 ⟨rfl,rfl⟩ hs2
   refine goS trivial ?_
   refine goR trivial ?_
   exact Fin.eq rfl ⟨rfl,_,⟨rfl,rfl⟩,hs2⟩
theorem kill_ok (q p:Nat) (d:Dk) (first n i:Int) (h0:0≤first) (h2:first+2*n≤1000000) (hn:d.steps≤800000000) :
 CallS Try.prog f_zz36 [.gp q 0,.int .i64 i] [StA q p first n,DiskA p d] (fun r post=>r=.d (.int .i64 (killR d first n i).2)∧post=[StA q p first n,DiskA p (killR d first n i).1]):=by
 refine callS_of_W fol zz36_cp fun R G σ hs=>?_
 have hc:=Sep.get (b:=q) (cs:=[.gp p 0,.int .i64 first,.int .i64 n]) hs
 by_cases p1:i < 0∨n≤i
 · have hr:killR d first n i=(d,1):=by unfold killR;rw [if_pos p1]
   rw [hr]
   refine goS trivial ?_
   (repeat' (first|(with_reducible first|refine W.seq ?_|refine W.block ?_)|((first|(with_reducible first|refine W.reg ?_|refine W.skip ?_|refine W.exit ?_|refine W.ret ?_|refine W.ifc ?_)|((with_reducible first|refine wG_decE (fun _ hG=>?_) (fun _ hG=>?_)|refine wG_decFE (fun _ hG=>?_) (fun _ hG=>?_))<;>(try simp -dsimp only [hG,decide_true,decide_false,not_true_eq_false,not_false_eq_true])<;>clear hG))<;>(try simp -dsimp (disch:=first|omega|(simp only [go_sem];omega)) only [go_sem,seval,Nat.reduceEqDiff,Nat.reduceLeDiff,hc]))|simp -dsimp (disch:=first|omega|(simp only [go_sem];omega)) only [go_sem,seval,Nat.reduceEqDiff,Nat.reduceLeDiff,hc]))
   all_goals first|exact Fin.eq rfl ⟨rfl,_,⟨rfl,rfl⟩,hs⟩|(exfalso;omega)
 · have hr:killR d first n i=changeR d first i []:=by unfold killR;rw [if_neg p1]
   rw [hr]
   have e1:(i < 0)=False:=eq_false (by omega)
   have e2:(n≤i)=False:=eq_false (by omega)
   refine goS (nn e1 e2) ?_
   (repeat' (first|(with_reducible first|refine W.seq ?_|refine W.block ?_)|((first|(with_reducible first|refine W.reg ?_|refine W.skip ?_|refine W.exit ?_|refine W.ret ?_|refine W.ifc ?_)|((with_reducible first|refine wG_decE (fun _ hG=>?_) (fun _ hG=>?_)|refine wG_decFE (fun _ hG=>?_) (fun _ hG=>?_))<;>(try simp -dsimp only [hG,decide_true,decide_false,not_true_eq_false,not_false_eq_true])<;>clear hG))<;>(try simp -dsimp (disch:=first|omega|(simp only [go_sem];omega)) only [go_sem,seval,Nat.reduceEqDiff,Nat.reduceLeDiff,hc,e1,e2]))|simp -dsimp (disch:=first|omega|(simp only [go_sem];omega)) only [go_sem,seval,Nat.reduceEqDiff,Nat.reduceLeDiff,hc,e1,e2]))
   (refine goM (changeS_ok q p d first n i [] h0 (by omega) (by omega) (by simp) hn) (hs) ?_)
   rintro _ _ G2 ⟨rfl,rfl⟩ hs2
   refine goS trivial ?_
   refine goR trivial ?_
   exact Fin.eq rfl ⟨rfl,_,⟨rfl,rfl⟩,hs2⟩
end Go.Proofs.Ytioojmlhmhgeeaa
/-
 Layer 22 (slots),continued: Get.
 Conditions: of each contract as it says.
-/
namespace Go.Proofs.Ytioojmlhmhgeeaa
open Go Go.E2 C22
set_option linter.unusedSimpArgs false
set_option maxHeartbeats 1000000
theorem goodS_le {s:Sec} (h:goodS s=true):byteAt s 36≤55:=by
 unfold goodS at h
 simp only [Bool.and_eq_true,decide_eq_true_eq] at h
 exact h.2
theorem readC_le {d:Dk} {a:Int} (h:(readC d a).1.good=true):byteAt (readC d a).1.s 36≤55:=by
 unfold readC at h ⊢
 simp only [Bool.and_eq_true] at h
 exact goodS_le h.2
theorem slotR_le {d:Dk} {first i:Int} (h:(slotR d first i).1.good=true):byteAt (slotR d first i).1.s 36≤55:=by
 unfold slotR at h ⊢
 split at h
 · cases h
 · split at h
   · cases h
   · split at h
     · rename_i h1 h2 h3
       rw [if_neg h1,if_neg h2,if_pos h3]
       exact readC_le h
     · rename_i h1 h2 h3
       rw [if_neg h1,if_neg h2,if_neg h3]
       exact readC_le h
theorem flat_eB:∀ l:List UInt8,flat (l.map eB)=l.map eB
 | []=>rfl
 | a::l=>by rw [List.map_cons,flat_cons,flat_eB l];rfl
theorem eB_all1 (l:List UInt8):(l.map eB).all (sizeOk 1)=true:=by
 rw [List.all_eq_true]
 intro x hx
 obtain⟨b,_,rfl⟩:=List.mem_map.1 hx
 rfl
theorem view_part {G:Gh} {g off len cap:Nat} {s:Sec} {x y:D} (h:G.c g=some (s.1.map eB ++ [x] ++ [y])) (hl:off+len≤64):viewC G 1 (.gs g off len cap)=some (len,((s.1.drop off).take len).map eB):=by
 have hlen:(s.1.map eB ++ [x] ++ [y]).length=66:=by rw [List.length_append,List.length_append,sec_len];rfl
 simp only [viewC,h,hlen]
 rw [if_pos (by omega),Nat.mul_one,List.append_assoc,List.drop_append_of_le_length (by rw [sec_len];omega),List.take_append_of_le_length (by rw [List.length_drop,sec_len];omega),List.map_take,List.map_drop]
theorem getSX_ok (q p:Nat) (d:Dk) (X:As) (hX:∀ R G,Sep (X::R) G→Sep (DiskA p d::R) G) (first n i:Int) (h0:0≤first) (h2:first+2*n≤1000000) :
 CallS Try.prog f_zz42 [.gp q 0,.int .i64 i] [StA q p first n,X] (fun r post=>r=.tup [.str (getR d first n i).1,.int .i64 (getR d first n i).2]∧post=[StA q p first n,X]):=by
 refine callS_of_W fol zz42_cp fun R G σ hs=>?_
 have hs:Sep (CellA q [.gp p 0,.int .i64 first,.int .i64 n]::X::R) G:=hs
 have hc:=hs.get
 by_cases p1:i < 0∨n≤i
 · have hr:getR d first n i=([],1):=by unfold getR;rw [if_pos p1]
   rw [hr]
   refine goS trivial ?_
   (repeat' (first|(with_reducible first|refine W.seq ?_|refine W.block ?_)|((first|(with_reducible first|refine W.reg ?_|refine W.skip ?_|refine W.exit ?_|refine W.ret ?_|refine W.ifc ?_)|((with_reducible first|refine wG_decE (fun _ hG=>?_) (fun _ hG=>?_)|refine wG_decFE (fun _ hG=>?_) (fun _ hG=>?_))<;>(try simp -dsimp only [hG,decide_true,decide_false,not_true_eq_false,not_false_eq_true])<;>clear hG))<;>(try simp -dsimp (disch:=first|omega|(simp only [go_sem];omega)) only [go_sem,seval,Nat.reduceEqDiff,Nat.reduceLeDiff,hc]))|simp -dsimp (disch:=first|omega|(simp only [go_sem];omega)) only [go_sem,seval,Nat.reduceEqDiff,Nat.reduceLeDiff,hc]))
   all_goals first|exact Fin.eq rfl ⟨rfl,_,⟨rfl,rfl⟩,hs⟩|(exfalso;omega)
 have e1:(i < 0)=False:=eq_false (by omega)
 have e2:(n≤i)=False:=eq_false (by omega)
 have hg:getR d first n i=if (slotR d first i).2.2≠0 then ([],(slotR d first i).2.2) else if (slotR d first i).1.good=false then ([],14) else
  if byteAt (slotR d first i).1.s 36=0 then ([],8) else (bytesOf (slotR d first i).1.s,0):=by unfold getR;rw [if_neg p1]
 have hle:=slotR_le (d:=d) (first:=first) (i:=i)
 rw [hg]
 refine goS (nn e1 e2) ?_
 (repeat' (first|(with_reducible first|refine W.seq ?_|refine W.block ?_)|((first|(with_reducible first|refine W.reg ?_|refine W.skip ?_|refine W.exit ?_|refine W.ret ?_|refine W.ifc ?_)|((with_reducible first|refine wG_decE (fun _ hG=>?_) (fun _ hG=>?_)|refine wG_decFE (fun _ hG=>?_) (fun _ hG=>?_))<;>(try simp -dsimp only [hG,decide_true,decide_false,not_true_eq_false,not_false_eq_true])<;>clear hG))<;>(try simp -dsimp (disch:=first|omega|(simp only [go_sem];omega)) only [go_sem,seval,Nat.reduceEqDiff,Nat.reduceLeDiff,hc,e1,e2]))|simp -dsimp (disch:=first|omega|(simp only [go_sem];omega)) only [go_sem,seval,Nat.reduceEqDiff,Nat.reduceLeDiff,hc,e1,e2]))
 (refine goM (slotX_ok p d X hX first n i h0 (by omega) (by omega)) (hs.swap) ?_)
 rintro _ _ G2 ⟨rfl,rfl⟩ hs2'
 have hs2:Sep (X::CellA q [.gp p 0,.int .i64 first,.int .i64 n]::R) G2:=hs2'
 clear hs2'
 generalize (slotR d first i).1=best at *
 generalize (slotR d first i).2.1=other at *
 generalize (slotR d first i).2.2=er at *
 have kl1:=eF_len best
 have kl2:=eF_len other
 refine goS (nn kl1 kl2) ?_
 refine goR (nn kl1 kl2) ?_
 refine wNew_mk fun g6 hg6=>?_
 have hs3:=Sep.new (cs:=best.s.1.map eB ++ [D.int .i64 best.at'] ++ [D.bool best.good]) hg6 hs2
 have hc6:=hs3.get
 have zl:(z0.1.map eB ++ [D.int .i64 0,D.bool false]).length=66:=rfl
 have zd:List.drop 66 (z0.1.map eB ++ [D.int .i64 0,D.bool false])=[]:=rfl
 have k65:=head65 best
 have b36:(List.drop 36 (best.s.1.map eB ++ [D.int .i64 best.at'] ++ [D.bool best.good])).head?=some (.int .u8 (byteAt best.s 36:Int)):=by
  rw [List.head?_drop,List.append_assoc,List.getElem?_append_left (by rw [sec_len];decide),List.getElem?_map,List.getElem?_eq_getElem (by rw [best.s.2];decide),byteAt_get best.s (by decide)];rfl
 rw [List.append_assoc,List.drop_append_of_le_length (by rw [sec_len];decide),← List.append_assoc] at b36
 simp only [Gh.set_c] at hc6
 by_cases her:er=0
 · subst her
   rw [if_neg (by simp)]
   obtain⟨bs,ba,bg⟩:=best
   cases bg
   · refine goS (nn zl (nn zd (nn kl1 kl2))) ?_
     (repeat' (first|(with_reducible first|refine W.seq ?_|refine W.block ?_)|((first|(with_reducible first|refine W.reg ?_|refine W.skip ?_|refine W.exit ?_|refine W.ret ?_|refine W.ifc ?_)|((with_reducible first|refine wG_decE (fun _ hG=>?_) (fun _ hG=>?_)|refine wG_decFE (fun _ hG=>?_) (fun _ hG=>?_))<;>(try simp -dsimp only [hG,decide_true,decide_false,not_true_eq_false,not_false_eq_true])<;>clear hG))<;>(try simp -dsimp (disch:=first|omega|(simp only [go_sem];omega)) only [go_sem,seval,Nat.reduceEqDiff,Nat.reduceLeDiff,zl,zd,kl1,kl2,hc6,k65]))|simp -dsimp (disch:=first|omega|(simp only [go_sem];omega)) only [go_sem,seval,Nat.reduceEqDiff,Nat.reduceLeDiff,zl,zd,kl1,kl2,hc6,k65]))
     exact Fin.eq rfl ⟨rfl,_,⟨rfl,rfl⟩,hs3.tail.swap⟩
   · rw [if_neg (by simp)]
     by_cases hz:byteAt bs 36=0
     · rw [if_pos hz]
       rw [hz] at b36
       refine goS (nn zl (nn zd (nn kl1 kl2))) ?_
       (repeat' (first|(with_reducible first|refine W.seq ?_|refine W.block ?_)|((first|(with_reducible first|refine W.reg ?_|refine W.skip ?_|refine W.exit ?_|refine W.ret ?_|refine W.ifc ?_)|((with_reducible first|refine wG_decE (fun _ hG=>?_) (fun _ hG=>?_)|refine wG_decFE (fun _ hG=>?_) (fun _ hG=>?_))<;>(try simp -dsimp only [hG,decide_true,decide_false,not_true_eq_false,not_false_eq_true])<;>clear hG))<;>(try simp -dsimp (disch:=first|omega|(simp only [go_sem];omega)) only [go_sem,seval,Nat.reduceEqDiff,Nat.reduceLeDiff,zl,zd,kl1,kl2,hc6,k65,b36,hz]))|simp -dsimp (disch:=first|omega|(simp only [go_sem];omega)) only [go_sem,seval,Nat.reduceEqDiff,Nat.reduceLeDiff,zl,zd,kl1,kl2,hc6,k65,b36,hz]))
       exact Fin.eq rfl ⟨rfl,_,⟨rfl,rfl⟩,hs3.tail.swap⟩
     · rw [if_neg hz]
       have hle2:=hle rfl
       have hz':((byteAt bs 36:Int)=0)=False:=eq_false (by omega)
       simp only at hle2
       refine goS (nn zl (nn zd (nn kl1 kl2))) ?_
       (repeat' (first|(with_reducible first|refine W.seq ?_|refine W.block ?_)|((first|(with_reducible first|refine W.reg ?_|refine W.skip ?_|refine W.exit ?_|refine W.ret ?_|refine W.ifc ?_)|((with_reducible first|refine wG_decE (fun _ hG=>?_) (fun _ hG=>?_)|refine wG_decFE (fun _ hG=>?_) (fun _ hG=>?_))<;>(try simp -dsimp only [hG,decide_true,decide_false,not_true_eq_false,not_false_eq_true])<;>clear hG))<;>(try simp -dsimp (disch:=first|omega|(simp only [go_sem];omega)) only [go_sem,seval,Nat.reduceEqDiff,Nat.reduceLeDiff,zl,zd,kl1,kl2,hc6,k65,b36,hz']))|simp -dsimp (disch:=first|omega|(simp only [go_sem];omega)) only [go_sem,seval,Nat.reduceEqDiff,Nat.reduceLeDiff,zl,zd,kl1,kl2,hc6,k65,b36,hz']))
       refine wNew_mk fun g9 hg9=>?_
       have hs4:=Sep.toSl (sz:=1) (n:=0) (cap:=0) (es:=[]) (Sep.new (cs:=[]) hg9 hs3) ⟨rfl,rfl,Nat.le_refl _,Nat.zero_le _,rfl⟩
       rw [flat_nil]
       generalize (G2.set g6 (some (bs.1.map eB ++ [D.int .i64 ba] ++ [D.bool true]))).set g9 (some [])=G4 at hs4 ⊢
       have hc6':=hs4.tail.get
       have hmin:(4+min (byteAt bs 36:Int) 28).toNat - 4=min (byteAt bs 36) 28:=by omega
       refine goS hmin ?_
       refine goR (nn hc6' (nn hmin kl1)) ?_
       refine appV_GV2 (es2:=((bs.1.drop 4).take (min (byteAt bs 36) 28)).map eB) (m:=min (byteAt bs 36) 28) hs4.gv ?_ ?_ ?_ rfl ?_ fun x' G5 hv5 hto=>?_
       · rw [flat_eB];exact view_part hc6' (by omega)
       · simp;omega
       · exact eB_all1 _
       · rw [mostBytes_eq];simp;omega
       have hs5:=Sep.grow hs4 hto hv5
       have hc65:=hs5.tail.get
       by_cases hbig:28 < byteAt bs 36
       · have hbig':(28 < (byteAt bs 36:Int))=True:=eq_true (by omega)
         have hm2:(37+(byteAt bs 36:Int) - 28).toNat - 37=byteAt bs 36 - 28:=by omega
         refine goS (nn hbig' hm2) ?_
         (repeat' (first|(with_reducible first|refine W.seq ?_|refine W.block ?_)|((first|(with_reducible first|refine W.reg ?_|refine W.skip ?_|refine W.exit ?_|refine W.ret ?_|refine W.ifc ?_)|((with_reducible first|refine wG_decE (fun _ hG=>?_) (fun _ hG=>?_)|refine wG_decFE (fun _ hG=>?_) (fun _ hG=>?_))<;>(try simp -dsimp only [hG,decide_true,decide_false,not_true_eq_false,not_false_eq_true])<;>clear hG))<;>(try simp -dsimp (disch:=first|omega|(simp only [go_sem];omega)) only [go_sem,seval,Nat.reduceEqDiff,Nat.reduceLeDiff,hbig',hm2,hc65,kl1]))|simp -dsimp (disch:=first|omega|(simp only [go_sem];omega)) only [go_sem,seval,Nat.reduceEqDiff,Nat.reduceLeDiff,hbig',hm2,hc65,kl1]))
         refine appV_GV2 (es2:=((bs.1.drop 37).take (byteAt bs 36 - 28)).map eB) (m:=byteAt bs 36 - 28) hs5.gv ?_ ?_ ?_ rfl ?_ fun x2 G6 hv6 hto6=>?_
         · rw [flat_eB];exact view_part hc65 (by omega)
         · simp;omega
         · exact eB_all1 _
         · rw [mostBytes_eq];simp;omega
         have hs6:=Sep.grow hs5 hto6 hv6
         refine goS trivial ?_
         refine goR trivial ?_
         have ev:gdD .b2s [x2] G6=some (.d (.str (bytesOf bs)),G6):=by
          simp only [gdD,hv6.view]
          rw [List.nil_append,← List.map_append,flat_eB,bytesD_map]
          rfl
         refine wGd_mk ev ?_
         refine goS trivial ?_
         refine goR trivial ?_
         exact Fin.eq rfl ⟨rfl,_,⟨rfl,rfl⟩,hs6.tail.tail.swap⟩
       · have hbig':(28 < (byteAt bs 36:Int))=False:=eq_false (by omega)
         refine goS hbig' ?_
         (repeat' (first|(with_reducible first|refine W.seq ?_|refine W.block ?_)|((first|(with_reducible first|refine W.reg ?_|refine W.skip ?_|refine W.exit ?_|refine W.ret ?_|refine W.ifc ?_)|((with_reducible first|refine wG_decE (fun _ hG=>?_) (fun _ hG=>?_)|refine wG_decFE (fun _ hG=>?_) (fun _ hG=>?_))<;>(try simp -dsimp only [hG,decide_true,decide_false,not_true_eq_false,not_false_eq_true])<;>clear hG))<;>(try simp -dsimp (disch:=first|omega|(simp only [go_sem];omega)) only [go_sem,seval,Nat.reduceEqDiff,Nat.reduceLeDiff,hbig']))|simp -dsimp (disch:=first|omega|(simp only [go_sem];omega)) only [go_sem,seval,Nat.reduceEqDiff,Nat.reduceLeDiff,hbig']))
         have ev:gdD .b2s [x'] G5=some (.d (.str (bytesOf bs)),G5):=by
          have e0:byteAt bs 36 - 28=0:=by omega
          simp only [gdD,hv5.view,bytesOf,e0,List.take_zero,List.append_nil]
          rw [List.nil_append,flat_eB,bytesD_map]
          rfl
         refine wGd_mk ev ?_
         refine goS trivial ?_
         refine goR trivial ?_
         exact Fin.eq rfl ⟨rfl,_,⟨rfl,rfl⟩,hs5.tail.tail.swap⟩
 · rw [if_pos her]
   refine goS (nn her (nn zl (nn zd (nn kl1 kl2)))) ?_
   (repeat' (first|(with_reducible first|refine W.seq ?_|refine W.block ?_)|((first|(with_reducible first|refine W.reg ?_|refine W.skip ?_|refine W.exit ?_|refine W.ret ?_|refine W.ifc ?_)|((with_reducible first|refine wG_decE (fun _ hG=>?_) (fun _ hG=>?_)|refine wG_decFE (fun _ hG=>?_) (fun _ hG=>?_))<;>(try simp -dsimp only [hG,decide_true,decide_false,not_true_eq_false,not_false_eq_true])<;>clear hG))<;>(try simp -dsimp (disch:=first|omega|(simp only [go_sem];omega)) only [go_sem,seval,Nat.reduceEqDiff,Nat.reduceLeDiff,her,zl,zd,kl1,kl2]))|simp -dsimp (disch:=first|omega|(simp only [go_sem];omega)) only [go_sem,seval,Nat.reduceEqDiff,Nat.reduceLeDiff,her,zl,zd,kl1,kl2]))
   exact Fin.eq rfl ⟨rfl,_,⟨rfl,rfl⟩,hs3.tail.swap⟩
theorem getS_ok (q p:Nat) (d:Dk) (first n i:Int) (h0:0≤first) (h2:first+2*n≤1000000) :
 CallS Try.prog f_zz42 [.gp q 0,.int .i64 i] [StA q p first n,DiskA p d] (fun r post=>r=.tup [.str (getR d first n i).1,.int .i64 (getR d first n i).2]∧post=[StA q p first n,DiskA p d]) :=
 getSX_ok q p d (DiskA p d) (fun _ _ h=>h) first n i h0 h2
end Go.Proofs.Ytioojmlhmhgeeaa
/-
 Layer 22 (slots),continued: the reference's Copy.
 Conditions: of each contract as it says.
-/
namespace Go.Proofs.Ytioojmlhmhgeeaa
open Go Go.E2 C22
set_option linter.unusedSimpArgs false
set_option maxHeartbeats 1000000
def cK (q:Int) (b:Str) (k:Nat):List D :=
 (qb q).map eB ++ (((b.take k).take 28).map eB ++ zB (28 - ((b.take k).take 28).length)) ++ (qb q).map eB ++ [eB (UInt8.ofNat b.length)] ++ (((b.take k).drop 28).map eB ++ zB (27 - ((b.take k).drop 28).length))
theorem cK_len (q:Int) (b:Str) (hb:b.length≤55) (k:Nat):(cK q b k).length=64:=by
 unfold cK zB qb
 simp
 omega
theorem cK_end (q:Int) (b:Str) (hb:b.length≤55):cK q b b.length=(mk1 q b).1.map eB:=by
 rw [mk1_cells q b hb]
 unfold cK
 rw [List.take_length]
theorem zB_cons {n:Nat} (h:0 < n):zB n=.int .u8 0::zB (n - 1):=by
 obtain⟨m,rfl⟩:∃ m,n=m+1:=⟨n - 1,by omega⟩
 rfl
theorem cK_front (q:Int) (b:Str) {k:Nat} (hk:k < 28) (hkb:k < b.length):over (cK q b k) [eB b[k]] (4+k)=cK q b (k+1):=by
 have e1:(b.take k).take 28=b.take k:=List.take_of_length_le (by rw [List.length_take];omega)
 have e2:(b.take (k+1)).take 28=b.take (k+1):=List.take_of_length_le (by rw [List.length_take];omega)
 have e3:(b.take k).drop 28=[]:=List.drop_of_length_le (by rw [List.length_take];omega)
 have e4:(b.take (k+1)).drop 28=[]:=List.drop_of_length_le (by rw [List.length_take];omega)
 have l1:(b.take k).length=k:=by rw [List.length_take];omega
 have l2:(b.take (k+1)).length=k+1:=by rw [List.length_take];omega
 unfold cK
 rw [e1,e2,e3,e4,l1,l2,zB_cons (n:=28 - k) (by omega),List.take_succ_eq_append_getElem hkb]
 have e:=over_at (pre:=(qb q).map eB ++ (b.take k).map eB) (mid:=[.int .u8 0]) (post:=zB (28 - k - 1) ++ (qb q).map eB ++ [eB (UInt8.ofNat b.length)] ++ (([]:List UInt8).map eB ++ zB (27 - ([]:List UInt8).length))) (ys:=[eB b[k]]) (n:=4+k) (by rw [List.length_append,List.length_map,List.length_map,l1];rfl) rfl
 have e5:28 - k - 1=28 - (k+1):=by omega
 rw [e5] at e
 simp only [List.append_assoc,List.cons_append,List.nil_append,List.map_append,List.map_cons,List.map_nil] at e ⊢
 rw [e5]
 exact e
theorem cK_back (q:Int) (b:Str) (hb:b.length≤55) {k:Nat} (hk:28≤k) (hkb:k < b.length):over (cK q b k) [eB b[k]] (37+k - 28)=cK q b (k+1):=by
 have e1:(b.take k).take 28=b.take 28:=by rw [List.take_take,Nat.min_eq_left hk]
 have e2:(b.take (k+1)).take 28=b.take 28:=by rw [List.take_take,Nat.min_eq_left (by omega)]
 have l0:(b.take 28).length=28:=by rw [List.length_take];omega
 have e4:(b.take (k+1)).drop 28=(b.take k).drop 28 ++ [b[k]]:=by
  rw [List.take_succ_eq_append_getElem hkb,List.drop_append_of_le_length (by rw [List.length_take];omega)]
 have l1:((b.take k).drop 28).length=k - 28:=by rw [List.length_drop,List.length_take];omega
 unfold cK
 rw [e1,e2,e4,List.length_append,l1,l0,zB_cons (n:=27 - (k - 28)) (by omega)]
 have e:=over_at (pre:=(qb q).map eB ++ ((b.take 28).map eB ++ zB 0) ++ (qb q).map eB ++ [eB (UInt8.ofNat b.length)] ++ ((b.take k).drop 28).map eB) (mid:=[.int .u8 0]) (post:=zB (27 - (k - 28) - 1)) (ys:=[eB b[k]]) (n:=37+k - 28) (by simp [qb,zB,l1,l0];omega) rfl
 have e5:27 - (k - 28) - 1=27 - (k - 28+[b[k]].length):=by simp;omega
 rw [e5] at e
 simp only [List.append_assoc,List.cons_append,List.nil_append,List.map_append,List.map_cons,List.map_nil,Nat.sub_self] at e ⊢
 rw [e5]
 exact e
theorem byteI_mod (x:Int):byteI (x % 256)=byteI x:=by
 unfold byteI
 congr 1
 omega
theorem Copy_ok (q:Int) (h0:0≤q) (h1:q≤4294967296) (b:Str) (hb:b.length≤55):CallP Try.prog f_zz31 [.int .i64 q,.str b] (·=.d (eS (mk1 q b))):=by
 refine callP_of_W fol zz31_cp ?_
 have d1:q.tdiv 16777216=q / 16777216:=Int.tdiv_eq_ediv_of_nonneg h0
 have d2:q.tdiv 65536=q / 65536:=Int.tdiv_eq_ediv_of_nonneg h0
 have d3:q.tdiv 256=q / 256:=Int.tdiv_eq_ediv_of_nonneg h0
 have r2:(q / 65536).tmod 256=(q / 65536) % 256:=Int.tmod_eq_emod_of_nonneg (by omega)
 have r3:(q / 256).tmod 256=(q / 256) % 256:=Int.tmod_eq_emod_of_nonneg (by omega)
 have r4:q.tmod 256=q % 256:=Int.tmod_eq_emod_of_nonneg h0
 refine goS trivial ?_
 refine goR trivial ?_
 refine W.loop (fun n st=>∃ (t:Nat),t≤2∧n=2 - t ∧
  st=(E [(0,.d (.int .i64 q)),(1,.d (.str b)),(4,.ptr 0 4 1 0),(5,.ptr 0 5 1 0),(6,.d (.int .i64 t))],HB [(4,⟨1,some (z0.1.map eB)⟩),(5,⟨1,some (mkT q t)⟩)],[],noGh))
  ⟨_,_,stle,0,by omega,rfl,rfl⟩ ?_
 rintro n st ⟨t,ht,rfl,rfl⟩
 refine goR trivial ?_
 refine wG_dec (fun h4=>?_) (fun h4=>?_)
 · have hl:=mkT_len q t
   rcases (by omega:t=0∨t=1) with rfl|rfl
   · refine goR (nn hl (nn wrap_byteI (nn d1 (nn d2 (nn d3 (nn r2 (nn r3 (nn r4 byteI_mod)))))))) ?_
     exact⟨_,_,by omega,stle,1,by omega,rfl,rfl⟩
   · have hm:min 32 64=32:=rfl
     have hm1:min 33 32=32:=rfl
     have hm2:min 34 32=32:=rfl
     have hm3:min 35 32=32:=rfl
     have hm4:min 36 32=32:=rfl
     refine goR (nn hl (nn wrap_byteI (nn hm (nn hm1 (nn hm2 (nn hm3 (nn hm4 (nn d1 (nn d2 (nn d3 (nn r2 (nn r3 (nn r4 byteI_mod))))))))))))) ?_
     exact⟨_,_,by omega,stle,2,by omega,rfl,rfl⟩
 · obtain rfl:t=2:=by omega
   have hl:=mkT_len q 2
   have e1:List.take 36 (mkT q 2) ++ [D.int IntKind.u8 ((byteI (b.length:Int)).toNat:Int)] ++ List.drop 37 (mkT q 2)=cK q b 0:=by
    have:byteI (b.length:Int)=UInt8.ofNat b.length:=by
     unfold byteI
     congr 1
     omega
    rw [this];rfl
   refine goR (nn hl (nn wrap_byteI e1)) ?_
   refine W.loop (fun n st=>∃ (k:Nat) (cs:List D),cs=cK q b k∧k≤b.length∧n=b.length - k ∧
    st=(E [(1,.d (.str b)),(4,.ptr 0 4 1 0),(5,.ptr 0 5 1 0),(7,.d (.int .i64 k))],HB [(4,⟨1,some (z0.1.map eB)⟩),(5,⟨1,some cs⟩)],[],noGh))
    ⟨_,_,stle,0,_,rfl,by omega,rfl,rfl⟩ ?_
   rintro n st ⟨k,cs,hcs,hk,rfl,rfl⟩
   refine goR trivial ?_
   refine wG_dec (fun h5=>?_) (fun h5=>?_)
   · have hk':k < b.length:=by omega
     have hcl:cs.length=64:=by rw [hcs];exact cK_len q b hb k
     by_cases hf:k < 28
     · have hf':((k:Int) < 28)=True:=eq_true (by omega)
       have t1:((4:Int)+k).toNat=4+k:=by omega
       have hstep:=cK_front q b hf hk'
       rw [← hcs] at hstep
       have hp:4+k≤63:=by omega
       unfold over at hstep
       (repeat (first|(with_reducible first|refine W.seq ?_|refine W.block ?_)|((with_reducible first|refine W.reg ?_|refine W.skip ?_|refine W.exit ?_|refine W.ret ?_|refine W.ifc ?_);simp -dsimp (disch:=first|omega|(simp only [go_sem];omega)) only [go_sem,seval,Nat.reduceEqDiff,Nat.reduceLeDiff,hf',t1,hcl,hp,Nat.mul_one])))
       refine⟨_,_,?_,stle,k+1,_,hstep,by omega,rfl,rfl⟩
       omega
     · have hf':((k:Int) < 28)=False:=eq_false (by omega)
       have t1:((37:Int)+k - 28).toNat=37+k - 28:=by omega
       have hstep:=cK_back q b hb (by omega) hk'
       rw [← hcs] at hstep
       have hp:37+k - 28≤63:=by omega
       unfold over at hstep
       (repeat (first|(with_reducible first|refine W.seq ?_|refine W.block ?_)|((with_reducible first|refine W.reg ?_|refine W.skip ?_|refine W.exit ?_|refine W.ret ?_|refine W.ifc ?_);simp -dsimp (disch:=first|omega|(simp only [go_sem];omega)) only [go_sem,seval,Nat.reduceEqDiff,Nat.reduceLeDiff,hf',t1,hcl,hp,Nat.mul_one])))
       refine⟨_,_,?_,stle,k+1,_,hstep,by omega,rfl,rfl⟩
       omega
   · obtain rfl:k=b.length:=by omega
     rw [cK_end q b hb] at hcs
     subst hcs
     refine goR trivial ?_
     (apply Fin.eq;(focus (simp -dsimp (disch:=first|omega|(simp only [go_sem];omega)) only [go_sem,seval,Nat.reduceEqDiff,Nat.reduceLeDiff]<;>rfl)))
     exact⟨rfl,rfl,rfl⟩
end Go.Proofs.Ytioojmlhmhgeeaa
