/-
 Layer 22 (slots), continued: sanity.
 Conditions: none.
-/
import Derived.Test.YtioojmlhmhgeeaaF22x
import Derived.Test.YtioojmlhmhgeeaaS22g
namespace Go.Proofs.Ytioojmlhmhgeeaa
open Go Go.E2 C22
set_option linter.unusedSimpArgs false
set_option maxHeartbeats 1000000
theorem sanity22_ok : CallS Try.prog f_zz3 [] [] (fun r post => r = .d (.bool true) ∧ post = []) := by
 refine callS_of_W fol zz3_cp fun R G σ hs => ?_
 simp -dsimp (disch := first | omega | (simp only [go_sem]; omega)) only [go_sem, seval, Nat.reduceEqDiff, Nat.reduceLeDiff]
 (repeat (first | (with_reducible first | refine W.seq ?_ | refine W.block ?_) | ((with_reducible first | refine W.reg ?_ | refine W.skip ?_ | refine W.exit ?_ | refine W.ret ?_ | refine W.ifc ?_); simp -dsimp (disch := first | omega | (simp only [go_sem]; omega)) only [go_sem, seval, Nat.reduceEqDiff, Nat.reduceLeDiff])))
 (refine wC_sq (New_ok 8 (by omega) (by omega)) (hs) (by decide) ?_ ?_; (focus (simp -dsimp (disch := first | omega | (simp only [go_sem]; omega)) only [go_sem, seval, Nat.reduceEqDiff, Nat.reduceLeDiff] <;> rfl)))
 rintro _ _ G1 ⟨p, rfl, rfl⟩ hs1'
 have hs1 : Sep (DiskA p (fresh 8) :: R) G1 := hs1'
 clear hs1'
 simp -dsimp (disch := first | omega | (simp only [go_sem]; omega)) only [go_sem, seval, Nat.reduceEqDiff, Nat.reduceLeDiff]
 (repeat (first | (with_reducible first | refine W.seq ?_ | refine W.block ?_) | ((with_reducible first | refine W.reg ?_ | refine W.skip ?_ | refine W.exit ?_ | refine W.ret ?_ | refine W.ifc ?_); simp -dsimp (disch := first | omega | (simp only [go_sem]; omega)) only [go_sem, seval, Nat.reduceEqDiff, Nat.reduceLeDiff])))
 (refine wC_sq (Format_ok p (fresh 8) 0 4 (by decide)) (hs1) (by decide) ?_ ?_; (focus (simp -dsimp (disch := first | omega | (simp only [go_sem]; omega)) only [go_sem, seval, Nat.reduceEqDiff, Nat.reduceLeDiff] <;> rfl)))
 rintro _ _ G2 ⟨rfl, rfl⟩ hs2'
 have hs2 : Sep (DiskA p C22.e1 :: R) G2 := hs2'
 clear hs2'
 simp -dsimp (disch := first | omega | (simp only [go_sem]; omega)) only [go_sem, seval, Nat.reduceEqDiff, Nat.reduceLeDiff, x1.1]
 (repeat' (first | (with_reducible first | refine W.seq ?_ | refine W.block ?_) | ((first | (with_reducible first | refine W.reg ?_ | refine W.skip ?_ | refine W.exit ?_ | refine W.ret ?_ | refine W.ifc ?_) | (apply wC_Q ((Steps_ok p C22.e1).q hs2); (focus (simp -dsimp (disch := first | omega | (simp only [go_sem]; omega)) only [go_sem, seval, Nat.reduceEqDiff, Nat.reduceLeDiff, x1.2] <;> rfl)); rintro _ rfl; try simp -dsimp (disch := first | omega | (simp only [go_sem]; omega)) only [go_sem, seval, Nat.reduceEqDiff, Nat.reduceLeDiff, x1.2]) | ((with_reducible first | refine wG_decE (fun _ hG => ?_) (fun _ hG => ?_) | refine wG_decFE (fun _ hG => ?_) (fun _ hG => ?_)) <;> (try simp -dsimp only [hG, decide_true, decide_false, not_true_eq_false, not_false_eq_true]) <;> clear hG)) <;> (try simp -dsimp (disch := first | omega | (simp only [go_sem]; omega)) only [go_sem, seval, Nat.reduceEqDiff, Nat.reduceLeDiff, x1.2])) | simp -dsimp (disch := first | omega | (simp only [go_sem]; omega)) only [go_sem, seval, Nat.reduceEqDiff, Nat.reduceLeDiff, x1.2]))
 (refine wC_sq (openS_ok p C22.e1 0 4 (by rw [x1.2]; decide)) (hs2) (by decide) ?_ ?_; (focus (simp -dsimp (disch := first | omega | (simp only [go_sem]; omega)) only [go_sem, seval, Nat.reduceEqDiff, Nat.reduceLeDiff] <;> rfl)))
 rintro r3 post3 G3 h3 hs3'
 obtain ⟨q, rfl, rfl⟩ : ∃ q, r3 = .tup [.gp q 0, .list [], .int .i64 0] ∧ post3 = [StA q p 0 4, DiskA p C22.e2] := by
  rcases h3 with ⟨_, q, h, h'⟩ | ⟨h, _⟩
  · exact ⟨q, by rw [h, x2.2.1]; rfl, h'⟩
  · exact absurd x2.1 h
 have hs3 : Sep (StA q p 0 4 :: DiskA p C22.e2 :: R) G3 := hs3'
 clear hs3'
 simp -dsimp (disch := first | omega | (simp only [go_sem]; omega)) only [go_sem, seval, Nat.reduceEqDiff, Nat.reduceLeDiff]
 (repeat' (first | (with_reducible first | refine W.seq ?_ | refine W.block ?_) | ((first | (with_reducible first | refine W.reg ?_ | refine W.skip ?_ | refine W.exit ?_ | refine W.ret ?_ | refine W.ifc ?_) | (apply wC_Q ((Steps_ok p C22.e2).q hs3.swap); (focus (simp -dsimp (disch := first | omega | (simp only [go_sem]; omega)) only [go_sem, seval, Nat.reduceEqDiff, Nat.reduceLeDiff, x2.2.2] <;> rfl)); rintro _ rfl; try simp -dsimp (disch := first | omega | (simp only [go_sem]; omega)) only [go_sem, seval, Nat.reduceEqDiff, Nat.reduceLeDiff, x2.2.2]) | ((with_reducible first | refine wG_decE (fun _ hG => ?_) (fun _ hG => ?_) | refine wG_decFE (fun _ hG => ?_) (fun _ hG => ?_)) <;> (try simp -dsimp only [hG, decide_true, decide_false, not_true_eq_false, not_false_eq_true]) <;> clear hG)) <;> (try simp -dsimp (disch := first | omega | (simp only [go_sem]; omega)) only [go_sem, seval, Nat.reduceEqDiff, Nat.reduceLeDiff, x2.2.2])) | simp -dsimp (disch := first | omega | (simp only [go_sem]; omega)) only [go_sem, seval, Nat.reduceEqDiff, Nat.reduceLeDiff, x2.2.2]))
 (refine wC_sq (getS_ok q p C22.e2 0 4 1 (by omega) (by omega)) (hs3) (by decide) ?_ ?_; (focus (simp -dsimp (disch := first | omega | (simp only [go_sem]; omega)) only [go_sem, seval, Nat.reduceEqDiff, Nat.reduceLeDiff] <;> rfl)))
 rintro _ _ G4 ⟨rfl, rfl⟩ hs4'
 have hs4 : Sep (StA q p 0 4 :: DiskA p C22.e2 :: R) G4 := hs4'
 clear hs4'
 simp -dsimp (disch := first | omega | (simp only [go_sem]; omega)) only [go_sem, seval, Nat.reduceEqDiff, Nat.reduceLeDiff, x3]
 (repeat (first | (with_reducible first | refine W.seq ?_ | refine W.block ?_) | ((with_reducible first | refine W.reg ?_ | refine W.skip ?_ | refine W.exit ?_ | refine W.ret ?_ | refine W.ifc ?_); simp -dsimp (disch := first | omega | (simp only [go_sem]; omega)) only [go_sem, seval, Nat.reduceEqDiff, Nat.reduceLeDiff])))
 (refine wC_sq (put_ok q p C22.e2 0 4 1 kKey (by omega) (by omega) (by rw [x2.2.2]; decide)) (hs4) (by decide) ?_ ?_; (focus (simp -dsimp (disch := first | omega | (simp only [go_sem]; omega)) only [go_sem, seval, Nat.reduceEqDiff, Nat.reduceLeDiff] <;> rfl)))
 rintro _ _ G5 ⟨rfl, rfl⟩ hs5'
 have hs5 : Sep (StA q p 0 4 :: DiskA p C22.e3 :: R) G5 := hs5'
 clear hs5'
 simp -dsimp (disch := first | omega | (simp only [go_sem]; omega)) only [go_sem, seval, Nat.reduceEqDiff, Nat.reduceLeDiff, x4.1]
 (repeat (first | (with_reducible first | refine W.seq ?_ | refine W.block ?_) | ((with_reducible first | refine W.reg ?_ | refine W.skip ?_ | refine W.exit ?_ | refine W.ret ?_ | refine W.ifc ?_); simp -dsimp (disch := first | omega | (simp only [go_sem]; omega)) only [go_sem, seval, Nat.reduceEqDiff, Nat.reduceLeDiff])))
 (refine wC_sq (getS_ok q p C22.e3 0 4 1 (by omega) (by omega)) (hs5) (by decide) ?_ ?_; (focus (simp -dsimp (disch := first | omega | (simp only [go_sem]; omega)) only [go_sem, seval, Nat.reduceEqDiff, Nat.reduceLeDiff] <;> rfl)))
 rintro _ _ G6 ⟨rfl, rfl⟩ hs6'
 have hs6 : Sep (StA q p 0 4 :: DiskA p C22.e3 :: R) G6 := hs6'
 clear hs6'
 have hk3 : (List.drop 3 ((mk1 2 kKey).1.map eB)).head? = some (.int .u8 2) := rfl
 have hk4 : (List.drop 4 ((mk1 2 kKey).1.map eB)).head? = some (.int .u8 107) := rfl
 have hk36 : (List.drop 36 ((mk1 2 kKey).1.map eB)).head? = some (.int .u8 3) := rfl
 have hkk : (kKey = [107, 101, 121]) = True := eq_true rfl
 simp -dsimp (disch := first | omega | (simp only [go_sem]; omega)) only [go_sem, seval, Nat.reduceEqDiff, Nat.reduceLeDiff, x5]
 (repeat' (first | (with_reducible first | refine W.seq ?_ | refine W.block ?_) | ((first | (with_reducible first | refine W.reg ?_ | refine W.skip ?_ | refine W.exit ?_ | refine W.ret ?_ | refine W.ifc ?_) | (apply wC_Q ((Read_ok p C22.e3 2).q hs6.swap); (focus (simp -dsimp (disch := first | omega | (simp only [go_sem]; omega)) only [go_sem, seval, Nat.reduceEqDiff, Nat.reduceLeDiff, x6.1] <;> rfl)); rintro _ rfl; try simp -dsimp (disch := first | omega | (simp only [go_sem]; omega)) only [go_sem, seval, Nat.reduceEqDiff, Nat.reduceLeDiff, x6.1]) | (apply wC_Q ((Read_ok p C22.e3 3).q hs6.swap); (focus (simp -dsimp (disch := first | omega | (simp only [go_sem]; omega)) only [go_sem, seval, Nat.reduceEqDiff, Nat.reduceLeDiff, x6.2] <;> rfl)); rintro _ rfl; try simp -dsimp (disch := first | omega | (simp only [go_sem]; omega)) only [go_sem, seval, Nat.reduceEqDiff, Nat.reduceLeDiff, x6.2]) | (apply wC_P (Copy_ok 2 (by omega) (by omega) kKey (by decide)); (focus (simp -dsimp (disch := first | omega | (simp only [go_sem]; omega)) only [go_sem, seval, Nat.reduceEqDiff, Nat.reduceLeDiff] <;> rfl)); rintro _ rfl) | (apply wC_Q ((Steps_ok p C22.e3).q hs6.swap); (focus (simp -dsimp (disch := first | omega | (simp only [go_sem]; omega)) only [go_sem, seval, Nat.reduceEqDiff, Nat.reduceLeDiff, x4.2] <;> rfl)); rintro _ rfl; try simp -dsimp (disch := first | omega | (simp only [go_sem]; omega)) only [go_sem, seval, Nat.reduceEqDiff, Nat.reduceLeDiff, x4.2]) | ((with_reducible first | refine wG_decE (fun _ hG => ?_) (fun _ hG => ?_) | refine wG_decFE (fun _ hG => ?_) (fun _ hG => ?_)) <;> (try simp -dsimp only [hG, decide_true, decide_false, not_true_eq_false, not_false_eq_true]) <;> clear hG)) <;> (try simp -dsimp (disch := first | omega | (simp only [go_sem]; omega)) only [go_sem, seval, Nat.reduceEqDiff, Nat.reduceLeDiff, x6.1, x6.2, x4.2, hk3, hk4, hk36, hkk])) | simp -dsimp (disch := first | omega | (simp only [go_sem]; omega)) only [go_sem, seval, Nat.reduceEqDiff, Nat.reduceLeDiff, x6.1, x6.2, x4.2, hk3, hk4, hk36, hkk]))
 (refine wC_sq (Rot_ok p C22.e3 2) (hs6.swap) (by decide) ?_ ?_; (focus (simp -dsimp (disch := first | omega | (simp only [go_sem]; omega)) only [go_sem, seval, Nat.reduceEqDiff, Nat.reduceLeDiff] <;> rfl)))
 rintro _ _ G7 ⟨rfl, rfl⟩ hs7'
 have hs7 : Sep (StA q p 0 4 :: DiskA p C22.e4 :: R) G7 := Sep.swap hs7'
 clear hs7'
 simp -dsimp (disch := first | omega | (simp only [go_sem]; omega)) only [go_sem, seval, Nat.reduceEqDiff, Nat.reduceLeDiff, x7]
 (repeat (first | (with_reducible first | refine W.seq ?_ | refine W.block ?_) | ((with_reducible first | refine W.reg ?_ | refine W.skip ?_ | refine W.exit ?_ | refine W.ret ?_ | refine W.ifc ?_); simp -dsimp (disch := first | omega | (simp only [go_sem]; omega)) only [go_sem, seval, Nat.reduceEqDiff, Nat.reduceLeDiff])))
 (refine wC_sq (getS_ok q p C22.e4 0 4 1 (by omega) (by omega)) (hs7) (by decide) ?_ ?_; (focus (simp -dsimp (disch := first | omega | (simp only [go_sem]; omega)) only [go_sem, seval, Nat.reduceEqDiff, Nat.reduceLeDiff] <;> rfl)))
 rintro _ _ G8 ⟨rfl, rfl⟩ hs8'
 have hs8 : Sep (StA q p 0 4 :: DiskA p C22.e4 :: R) G8 := hs8'
 clear hs8'
 simp -dsimp (disch := first | omega | (simp only [go_sem]; omega)) only [go_sem, seval, Nat.reduceEqDiff, Nat.reduceLeDiff, x8]
 (repeat (first | (with_reducible first | refine W.seq ?_ | refine W.block ?_) | ((with_reducible first | refine W.reg ?_ | refine W.skip ?_ | refine W.exit ?_ | refine W.ret ?_ | refine W.ifc ?_); simp -dsimp (disch := first | omega | (simp only [go_sem]; omega)) only [go_sem, seval, Nat.reduceEqDiff, Nat.reduceLeDiff])))
 (refine wC_sq (put_ok q p C22.e4 0 4 1 kNew (by omega) (by omega) x9.2.1) (hs8) (by decide) ?_ ?_; (focus (simp -dsimp (disch := first | omega | (simp only [go_sem]; omega)) only [go_sem, seval, Nat.reduceEqDiff, Nat.reduceLeDiff] <;> rfl)))
 rintro _ _ G9 ⟨rfl, rfl⟩ hs9'
 have hs9 : Sep (StA q p 0 4 :: DiskA p C22.e5 :: R) G9 := hs9'
 clear hs9'
 simp -dsimp (disch := first | omega | (simp only [go_sem]; omega)) only [go_sem, seval, Nat.reduceEqDiff, Nat.reduceLeDiff, x9.1]
 (repeat' (first | (with_reducible first | refine W.seq ?_ | refine W.block ?_) | ((first | (with_reducible first | refine W.reg ?_ | refine W.skip ?_ | refine W.exit ?_ | refine W.ret ?_ | refine W.ifc ?_) | (apply wC_Q ((Steps_ok p C22.e5).q hs9.swap); (focus (simp -dsimp (disch := first | omega | (simp only [go_sem]; omega)) only [go_sem, seval, Nat.reduceEqDiff, Nat.reduceLeDiff, x9.2.2] <;> rfl)); rintro _ rfl; try simp -dsimp (disch := first | omega | (simp only [go_sem]; omega)) only [go_sem, seval, Nat.reduceEqDiff, Nat.reduceLeDiff, x9.2.2]) | ((with_reducible first | refine wG_decE (fun _ hG => ?_) (fun _ hG => ?_) | refine wG_decFE (fun _ hG => ?_) (fun _ hG => ?_)) <;> (try simp -dsimp only [hG, decide_true, decide_false, not_true_eq_false, not_false_eq_true]) <;> clear hG)) <;> (try simp -dsimp (disch := first | omega | (simp only [go_sem]; omega)) only [go_sem, seval, Nat.reduceEqDiff, Nat.reduceLeDiff, x9.2.2])) | simp -dsimp (disch := first | omega | (simp only [go_sem]; omega)) only [go_sem, seval, Nat.reduceEqDiff, Nat.reduceLeDiff, x9.2.2]))
 (refine wC_sq (kill_ok q p C22.e5 0 4 1 (by omega) (by omega) (by rw [x9.2.2]; decide)) (hs9) (by decide) ?_ ?_; (focus (simp -dsimp (disch := first | omega | (simp only [go_sem]; omega)) only [go_sem, seval, Nat.reduceEqDiff, Nat.reduceLeDiff] <;> rfl)))
 rintro _ _ G10 ⟨rfl, rfl⟩ hs10'
 have hs10 : Sep (StA q p 0 4 :: DiskA p C22.e6 :: R) G10 := hs10'
 clear hs10'
 simp -dsimp (disch := first | omega | (simp only [go_sem]; omega)) only [go_sem, seval, Nat.reduceEqDiff, Nat.reduceLeDiff, x10]
 (repeat (first | (with_reducible first | refine W.seq ?_ | refine W.block ?_) | ((with_reducible first | refine W.reg ?_ | refine W.skip ?_ | refine W.exit ?_ | refine W.ret ?_ | refine W.ifc ?_); simp -dsimp (disch := first | omega | (simp only [go_sem]; omega)) only [go_sem, seval, Nat.reduceEqDiff, Nat.reduceLeDiff])))
 (refine wC_sq (getS_ok q p C22.e6 0 4 1 (by omega) (by omega)) (hs10) (by decide) ?_ ?_; (focus (simp -dsimp (disch := first | omega | (simp only [go_sem]; omega)) only [go_sem, seval, Nat.reduceEqDiff, Nat.reduceLeDiff] <;> rfl)))
 rintro _ _ G11 ⟨rfl, rfl⟩ hs11'
 have hs11 : Sep (StA q p 0 4 :: DiskA p C22.e6 :: R) G11 := hs11'
 clear hs11'
 simp -dsimp (disch := first | omega | (simp only [go_sem]; omega)) only [go_sem, seval, Nat.reduceEqDiff, Nat.reduceLeDiff, x11]
 (repeat (first | (with_reducible first | refine W.seq ?_ | refine W.block ?_) | ((with_reducible first | refine W.reg ?_ | refine W.skip ?_ | refine W.exit ?_ | refine W.ret ?_ | refine W.ifc ?_); simp -dsimp (disch := first | omega | (simp only [go_sem]; omega)) only [go_sem, seval, Nat.reduceEqDiff, Nat.reduceLeDiff])))
 (refine wC_sq (getS_ok q p C22.e6 0 4 4 (by omega) (by omega)) (hs11) (by decide) ?_ ?_; (focus (simp -dsimp (disch := first | omega | (simp only [go_sem]; omega)) only [go_sem, seval, Nat.reduceEqDiff, Nat.reduceLeDiff] <;> rfl)))
 rintro _ _ G12 ⟨rfl, rfl⟩ hs12'
 have hs12 : Sep (StA q p 0 4 :: DiskA p C22.e6 :: R) G12 := hs12'
 clear hs12'
 simp -dsimp (disch := first | omega | (simp only [go_sem]; omega)) only [go_sem, seval, Nat.reduceEqDiff, Nat.reduceLeDiff, x12, hkk]
 (repeat (first | (with_reducible first | refine W.seq ?_ | refine W.block ?_) | ((with_reducible first | refine W.reg ?_ | refine W.skip ?_ | refine W.exit ?_ | refine W.ret ?_ | refine W.ifc ?_); simp -dsimp (disch := first | omega | (simp only [go_sem]; omega)) only [go_sem, seval, Nat.reduceEqDiff, Nat.reduceLeDiff, hkk])))
 (refine wC_sq (put_ok q p C22.e6 0 4 1 [] (by omega) (by omega) x14) (hs12) (by decide) ?_ ?_; (focus (simp -dsimp (disch := first | omega | (simp only [go_sem]; omega)) only [go_sem, seval, Nat.reduceEqDiff, Nat.reduceLeDiff] <;> rfl)))
 rintro _ _ G13 ⟨rfl, rfl⟩ hs13'
 simp -dsimp (disch := first | omega | (simp only [go_sem]; omega)) only [go_sem, seval, Nat.reduceEqDiff, Nat.reduceLeDiff, x13]
 (repeat (first | (with_reducible first | refine W.seq ?_ | refine W.block ?_) | ((with_reducible first | refine W.reg ?_ | refine W.skip ?_ | refine W.exit ?_ | refine W.ret ?_ | refine W.ifc ?_); simp -dsimp (disch := first | omega | (simp only [go_sem]; omega)) only [go_sem, seval, Nat.reduceEqDiff, Nat.reduceLeDiff])))
 exact Fin.eq rfl ⟨rfl, _, ⟨rfl, rfl⟩, hs13'.tail.tail⟩
end Go.Proofs.Ytioojmlhmhgeeaa
