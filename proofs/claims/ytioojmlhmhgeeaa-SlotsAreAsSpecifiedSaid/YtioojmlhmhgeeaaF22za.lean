/-
 Layer 22 (slots),continued: sanity.
 Conditions: none.
-/
import Derived.Test.YtioojmlhmhgeeaaF22x
import Derived.Test.YtioojmlhmhgeeaaS22g
namespace Go.Proofs.Ytioojmlhmhgeeaa
open Go Go.E2 C22
set_option linter.unusedSimpArgs false
set_option maxHeartbeats 1000000
theorem sanity22_ok:CallS Try.prog f_zz19 [] [] (fun r post=>r=.d (.bool true)∧post=[]):=by
 refine callS_of_W fol zz19_cp fun R G σ hs=>?_
 refine goS trivial ?_
 refine goR trivial ?_
 (refine goM (New_ok 8 (by omega) (by omega)) (hs) ?_)
 rintro _ _ G1 ⟨p,rfl,rfl⟩ hs1'
 have hs1:Sep (DiskA p (fresh 8)::R) G1:=hs1'
 clear hs1'
 refine goS trivial ?_
 refine goR trivial ?_
 (refine goM (Format_ok p (fresh 8) 0 4 (by decide)) (hs1) ?_)
 rintro _ _ G2 ⟨rfl,rfl⟩ hs2'
 have hs2:Sep (DiskA p C22.e1::R) G2:=hs2'
 clear hs2'
 simp -dsimp (disch:=first|omega|(simp only [go_sem];omega)) only [go_sem,seval,Nat.reduceEqDiff,Nat.reduceLeDiff,x1.1]
 (repeat' (first|(with_reducible first|refine W.seq ?_|refine W.block ?_)|((first|(with_reducible first|refine W.reg ?_|refine W.skip ?_|refine W.exit ?_|refine W.ret ?_|refine W.ifc ?_)|(apply wC_Q ((Steps_ok p C22.e1).q hs2);(focus (simp -dsimp (disch:=first|omega|(simp only [go_sem];omega)) only [go_sem,seval,Nat.reduceEqDiff,Nat.reduceLeDiff,x1.2]<;>rfl));rintro _ rfl;try simp -dsimp (disch:=first|omega|(simp only [go_sem];omega)) only [go_sem,seval,Nat.reduceEqDiff,Nat.reduceLeDiff,x1.2])|((with_reducible first|refine wG_decE (fun _ hG=>?_) (fun _ hG=>?_)|refine wG_decFE (fun _ hG=>?_) (fun _ hG=>?_))<;>(try simp -dsimp only [hG,decide_true,decide_false,not_true_eq_false,not_false_eq_true])<;>clear hG))<;>(try simp -dsimp (disch:=first|omega|(simp only [go_sem];omega)) only [go_sem,seval,Nat.reduceEqDiff,Nat.reduceLeDiff,x1.2]))|simp -dsimp (disch:=first|omega|(simp only [go_sem];omega)) only [go_sem,seval,Nat.reduceEqDiff,Nat.reduceLeDiff,x1.2]))
 (refine goM (openS_ok p C22.e1 0 4 (by rw [x1.2];decide)) (hs2) ?_)
 rintro r3 post3 G3 h3 hs3'
 obtain⟨q,rfl,rfl⟩:∃ q,r3=.tup [.gp q 0,.list [],.int .i64 0]∧post3=[StA q p 0 4,DiskA p C22.e2]:=by
  rcases h3 with ⟨_,q,h,h'⟩|⟨h,_⟩
  · exact⟨q,by rw [h,x2.2.1];rfl,h'⟩
  · exact absurd x2.1 h
 have hs3:Sep (StA q p 0 4::DiskA p C22.e2::R) G3:=hs3'
 clear hs3'
 refine goS trivial ?_
 (repeat' (first|(with_reducible first|refine W.seq ?_|refine W.block ?_)|((first|(with_reducible first|refine W.reg ?_|refine W.skip ?_|refine W.exit ?_|refine W.ret ?_|refine W.ifc ?_)|(apply wC_Q ((Steps_ok p C22.e2).q hs3.swap);(focus (simp -dsimp (disch:=first|omega|(simp only [go_sem];omega)) only [go_sem,seval,Nat.reduceEqDiff,Nat.reduceLeDiff,x2.2.2]<;>rfl));rintro _ rfl;try simp -dsimp (disch:=first|omega|(simp only [go_sem];omega)) only [go_sem,seval,Nat.reduceEqDiff,Nat.reduceLeDiff,x2.2.2])|((with_reducible first|refine wG_decE (fun _ hG=>?_) (fun _ hG=>?_)|refine wG_decFE (fun _ hG=>?_) (fun _ hG=>?_))<;>(try simp -dsimp only [hG,decide_true,decide_false,not_true_eq_false,not_false_eq_true])<;>clear hG))<;>(try simp -dsimp (disch:=first|omega|(simp only [go_sem];omega)) only [go_sem,seval,Nat.reduceEqDiff,Nat.reduceLeDiff,x2.2.2]))|simp -dsimp (disch:=first|omega|(simp only [go_sem];omega)) only [go_sem,seval,Nat.reduceEqDiff,Nat.reduceLeDiff,x2.2.2]))
 (refine goM (getS_ok q p C22.e2 0 4 1 (by omega) (by omega)) (hs3) ?_)
 rintro _ _ G4 ⟨rfl,rfl⟩ hs4'
 have hs4:Sep (StA q p 0 4::DiskA p C22.e2::R) G4:=hs4'
 clear hs4'
 refine goS x3 ?_
 refine goR trivial ?_
 (refine goM (put_ok q p C22.e2 0 4 1 kKey (by omega) (by omega) (by rw [x2.2.2];decide)) (hs4) ?_)
 rintro _ _ G5 ⟨rfl,rfl⟩ hs5'
 have hs5:Sep (StA q p 0 4::DiskA p C22.e3::R) G5:=hs5'
 clear hs5'
 simp -dsimp (disch:=first|omega|(simp only [go_sem];omega)) only [go_sem,seval,Nat.reduceEqDiff,Nat.reduceLeDiff,x4.1]
 refine goR trivial ?_
 (refine goM (getS_ok q p C22.e3 0 4 1 (by omega) (by omega)) (hs5) ?_)
 rintro _ _ G6 ⟨rfl,rfl⟩ hs6'
 have hs6:Sep (StA q p 0 4::DiskA p C22.e3::R) G6:=hs6'
 clear hs6'
 have hk3:(List.drop 3 ((mk1 2 kKey).1.map eB)).head?=some (.int .u8 2):=rfl
 have hk4:(List.drop 4 ((mk1 2 kKey).1.map eB)).head?=some (.int .u8 107):=rfl
 have hk36:(List.drop 36 ((mk1 2 kKey).1.map eB)).head?=some (.int .u8 3):=rfl
 have hkk:(kKey=[107,101,121])=True:=eq_true rfl
 refine goS x5 ?_
 (repeat' (first|(with_reducible first|refine W.seq ?_|refine W.block ?_)|((first|(with_reducible first|refine W.reg ?_|refine W.skip ?_|refine W.exit ?_|refine W.ret ?_|refine W.ifc ?_)|(apply wC_Q ((Read_ok p C22.e3 2).q hs6.swap);(focus (simp -dsimp (disch:=first|omega|(simp only [go_sem];omega)) only [go_sem,seval,Nat.reduceEqDiff,Nat.reduceLeDiff,x6.1]<;>rfl));rintro _ rfl;try simp -dsimp (disch:=first|omega|(simp only [go_sem];omega)) only [go_sem,seval,Nat.reduceEqDiff,Nat.reduceLeDiff,x6.1])|(apply wC_Q ((Read_ok p C22.e3 3).q hs6.swap);(focus (simp -dsimp (disch:=first|omega|(simp only [go_sem];omega)) only [go_sem,seval,Nat.reduceEqDiff,Nat.reduceLeDiff,x6.2]<;>rfl));rintro _ rfl;try simp -dsimp (disch:=first|omega|(simp only [go_sem];omega)) only [go_sem,seval,Nat.reduceEqDiff,Nat.reduceLeDiff,x6.2])|(apply wC_P (Copy_ok 2 (by omega) (by omega) kKey (by decide));(focus (simp -dsimp (disch:=first|omega|(simp only [go_sem];omega)) only [go_sem,seval,Nat.reduceEqDiff,Nat.reduceLeDiff]<;>rfl));rintro _ rfl)|(apply wC_Q ((Steps_ok p C22.e3).q hs6.swap);(focus (simp -dsimp (disch:=first|omega|(simp only [go_sem];omega)) only [go_sem,seval,Nat.reduceEqDiff,Nat.reduceLeDiff,x4.2]<;>rfl));rintro _ rfl;try simp -dsimp (disch:=first|omega|(simp only [go_sem];omega)) only [go_sem,seval,Nat.reduceEqDiff,Nat.reduceLeDiff,x4.2])|((with_reducible first|refine wG_decE (fun _ hG=>?_) (fun _ hG=>?_)|refine wG_decFE (fun _ hG=>?_) (fun _ hG=>?_))<;>(try simp -dsimp only [hG,decide_true,decide_false,not_true_eq_false,not_false_eq_true])<;>clear hG))<;>(try simp -dsimp (disch:=first|omega|(simp only [go_sem];omega)) only [go_sem,seval,Nat.reduceEqDiff,Nat.reduceLeDiff,x6.1,x6.2,x4.2,hk3,hk4,hk36,hkk]))|simp -dsimp (disch:=first|omega|(simp only [go_sem];omega)) only [go_sem,seval,Nat.reduceEqDiff,Nat.reduceLeDiff,x6.1,x6.2,x4.2,hk3,hk4,hk36,hkk]))
 (refine goM (Rot_ok p C22.e3 2) (hs6.swap) ?_)
 rintro _ _ G7 ⟨rfl,rfl⟩ hs7'
 have hs7:Sep (StA q p 0 4::DiskA p C22.e4::R) G7:=Sep.swap hs7'
 clear hs7'
 refine goS x7 ?_
 refine goR trivial ?_
 (refine goM (getS_ok q p C22.e4 0 4 1 (by omega) (by omega)) (hs7) ?_)
 rintro _ _ G8 ⟨rfl,rfl⟩ hs8'
 have hs8:Sep (StA q p 0 4::DiskA p C22.e4::R) G8:=hs8'
 clear hs8'
 refine goS x8 ?_
 refine goR trivial ?_
 (refine goM (put_ok q p C22.e4 0 4 1 kNew (by omega) (by omega) x9.2.1) (hs8) ?_)
 rintro _ _ G9 ⟨rfl,rfl⟩ hs9'
 have hs9:Sep (StA q p 0 4::DiskA p C22.e5::R) G9:=hs9'
 clear hs9'
 simp -dsimp (disch:=first|omega|(simp only [go_sem];omega)) only [go_sem,seval,Nat.reduceEqDiff,Nat.reduceLeDiff,x9.1]
 (repeat' (first|(with_reducible first|refine W.seq ?_|refine W.block ?_)|((first|(with_reducible first|refine W.reg ?_|refine W.skip ?_|refine W.exit ?_|refine W.ret ?_|refine W.ifc ?_)|(apply wC_Q ((Steps_ok p C22.e5).q hs9.swap);(focus (simp -dsimp (disch:=first|omega|(simp only [go_sem];omega)) only [go_sem,seval,Nat.reduceEqDiff,Nat.reduceLeDiff,x9.2.2]<;>rfl));rintro _ rfl;try simp -dsimp (disch:=first|omega|(simp only [go_sem];omega)) only [go_sem,seval,Nat.reduceEqDiff,Nat.reduceLeDiff,x9.2.2])|((with_reducible first|refine wG_decE (fun _ hG=>?_) (fun _ hG=>?_)|refine wG_decFE (fun _ hG=>?_) (fun _ hG=>?_))<;>(try simp -dsimp only [hG,decide_true,decide_false,not_true_eq_false,not_false_eq_true])<;>clear hG))<;>(try simp -dsimp (disch:=first|omega|(simp only [go_sem];omega)) only [go_sem,seval,Nat.reduceEqDiff,Nat.reduceLeDiff,x9.2.2]))|simp -dsimp (disch:=first|omega|(simp only [go_sem];omega)) only [go_sem,seval,Nat.reduceEqDiff,Nat.reduceLeDiff,x9.2.2]))
 (refine goM (kill_ok q p C22.e5 0 4 1 (by omega) (by omega) (by rw [x9.2.2];decide)) (hs9) ?_)
 rintro _ _ G10 ⟨rfl,rfl⟩ hs10'
 have hs10:Sep (StA q p 0 4::DiskA p C22.e6::R) G10:=hs10'
 clear hs10'
 refine goS x10 ?_
 refine goR trivial ?_
 (refine goM (getS_ok q p C22.e6 0 4 1 (by omega) (by omega)) (hs10) ?_)
 rintro _ _ G11 ⟨rfl,rfl⟩ hs11'
 have hs11:Sep (StA q p 0 4::DiskA p C22.e6::R) G11:=hs11'
 clear hs11'
 refine goS x11 ?_
 refine goR trivial ?_
 (refine goM (getS_ok q p C22.e6 0 4 4 (by omega) (by omega)) (hs11) ?_)
 rintro _ _ G12 ⟨rfl,rfl⟩ hs12'
 have hs12:Sep (StA q p 0 4::DiskA p C22.e6::R) G12:=hs12'
 clear hs12'
 refine goS (nn x12 hkk) ?_
 refine goR hkk ?_
 (refine goM (put_ok q p C22.e6 0 4 1 [] (by omega) (by omega) x14) (hs12) ?_)
 rintro _ _ G13 ⟨rfl,rfl⟩ hs13'
 refine goS x13 ?_
 refine goR trivial ?_
 exact Fin.eq rfl ⟨rfl,_,⟨rfl,rfl⟩,hs13'.tail.tail⟩
end Go.Proofs.Ytioojmlhmhgeeaa
