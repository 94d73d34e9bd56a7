/-
  Layer 37 (chunk), continued: the laws LotsCutAsSpecified and LotsFallInStep.
  Conditions: of each contract as it says.
-/
import Derived.Test.YtbcnnomgfheaoaaF37u
import Derived.Test.YtbcnnomgfheaoaaS37f
namespace Go.Proofs.Ytbcnnomgfheaoaa
open Go Go.E2 C37
set_option linter.unusedSimpArgs false
set_option maxHeartbeats 4000000
theorem cutL_len (c : Ct) (s : Str) : (cutL c s).length ≤ s.length := cutN_len c s s.length 0 0
theorem sizeS_eq (l : List Str) : sizeS l = sizeT l := rfl
theorem law2_ok (c : Ct) (a b t : Str) : CallP Try.prog f_quietuslaw37_LotsFallInStep [eT c, .str a, .str b, .str t] (· = .d (.bool true)) := by
  refine callP_of_W fol quietuslaw37_LotsFallInStep_cp ?_
  by_cases hsm : a.length ≤ 200 ∧ b.length ≤ 200 ∧ t.length ≤ 200 ∧ okC c
  · obtain ⟨ha, hb, ht, hc⟩ := hsm
    have hck : checkC c = 0 := by unfold checkC; rw [if_pos hc]
    have h1 : cutR c (a ++ t) = (cutL c (a ++ t), 0) := by unfold cutR; rw [if_pos hc, if_neg (by rw [List.length_append]; omega)]
    have h2 : cutR c (b ++ t) = (cutL c (b ++ t), 0) := by unfold cutR; rw [if_pos hc, if_neg (by rw [List.length_append]; omega)]
    have hA := Cut_ok c (a ++ t)
    have hB := Cut_ok c (b ++ t)
    rw [h1] at hA
    rw [h2] at hB
    have hla := cutL_len c (a ++ t)
    have hlb := cutL_len c (b ++ t)
    have hfa := cutL_flat c (a ++ t)
    have hfb := cutL_flat c (b ++ t)
    have hst := fun i j => in_step (c := c) (a := a) (b := b) (t := t) (i := i) (j := j)
    rw [List.length_append] at hla hlb
    obtain ⟨X, hX⟩ : ∃ X, X = cutL c (a ++ t) := ⟨_, rfl⟩
    obtain ⟨Y, hY⟩ : ∃ Y, Y = cutL c (b ++ t) := ⟨_, rfl⟩
    rw [← hX] at hA hla hfa hst
    rw [← hY] at hB hlb hfb
    simp only [← hY] at hst
    have hdx : ∀ i, (X.map D.str).drop i = (X.drop i).map D.str := fun i => List.map_drop.symm
    have hdy : ∀ i, (Y.map D.str).drop i = (Y.drop i).map D.str := fun i => List.map_drop.symm
    have hsb : ∀ (Z : List Str) (u : Str) (i : Nat), Z.flatten = u → u.length ≤ 400 → sizeS (Z.drop i) ≤ 400 := fun Z u i e hu => by
      have e2 : Z.flatten = (Z.take i).flatten ++ (Z.drop i).flatten := by rw [← List.flatten_append, List.take_append_drop]
      have := congrArg List.length e2
      rw [List.length_append, e] at this
      rw [sizeS_eq, sizeT_flat]; omega
    have hsx := fun i => hsb X _ i hfa (by rw [List.length_append]; omega)
    have hsy := fun i => hsb Y _ i hfb (by rw [List.length_append]; omega)
    simp -dsimp (disch := first | omega | (simp only [go_sem]; omega)) only [go_sem, seval, ↓reduceIte, Nat.reduceEqDiff, Nat.reduceLeDiff, Nat.reduceLT, reduceCtorEq]
    (repeat' (first | with_reducible refine W.seq ?_ | with_reducible refine W.block ?_ | ((first | with_reducible refine W.reg ?_ | with_reducible refine W.skip ?_ | with_reducible refine W.exit ?_ | with_reducible refine W.ret ?_ | with_reducible refine W.ifc ?_ | (apply wC_P (Check_ok c); (focus (simp -dsimp (disch := first | omega | (simp only [go_sem]; omega)) only [go_sem, seval, ↓reduceIte, Nat.reduceEqDiff, Nat.reduceLeDiff, Nat.reduceLT, reduceCtorEq, hck] <;> rfl)); rintro _ rfl; try simp -dsimp (disch := first | omega | (simp only [go_sem]; omega)) only [go_sem, seval, ↓reduceIte, Nat.reduceEqDiff, Nat.reduceLeDiff, Nat.reduceLT, reduceCtorEq, hck]) | (apply wC_P (hA); (focus (simp -dsimp (disch := first | omega | (simp only [go_sem]; omega)) only [go_sem, seval, ↓reduceIte, Nat.reduceEqDiff, Nat.reduceLeDiff, Nat.reduceLT, reduceCtorEq] <;> rfl)); rintro _ rfl) | (apply wC_P (hB); (focus (simp -dsimp (disch := first | omega | (simp only [go_sem]; omega)) only [go_sem, seval, ↓reduceIte, Nat.reduceEqDiff, Nat.reduceLeDiff, Nat.reduceLT, reduceCtorEq] <;> rfl)); rintro _ rfl) | ((first | with_reducible refine wG_decE (fun _ hG => ?_) (fun _ hG => ?_) | with_reducible refine wG_decFE (fun _ hG => ?_) (fun _ hG => ?_)) <;> (try simp -dsimp only [hG, decide_true, decide_false, not_true_eq_false, not_false_eq_true]) <;> clear hG)) <;> (try simp -dsimp (disch := first | omega | (simp only [go_sem]; omega)) only [go_sem, seval, ↓reduceIte, Nat.reduceEqDiff, Nat.reduceLeDiff, Nat.reduceLT, reduceCtorEq, hck])) | simp -dsimp (disch := first | omega | (simp only [go_sem]; omega)) only [go_sem, seval, ↓reduceIte, Nat.reduceEqDiff, Nat.reduceLeDiff, Nat.reduceLT, reduceCtorEq, hck]))
    all_goals try (exfalso; omega)
    all_goals
      refine W.loop (fun m st => ∃ i, i ≤ X.length ∧ m = X.length - i ∧
          st = (E [(3, .d (.str t)), (9, .d (.list (X.map .str))), (11, .d (.list (Y.map .str))), (58, .d (.int .i64 X.length)), (59, .d (.int .i64 i))],
            HB [(4, ⟨1, some [.int .i64 c.mn, .int .i64 c.mx, .int .i64 c.bits]⟩)], [], noGh))
        ⟨_, _, st_le (by (simp -dsimp (disch := first | omega | (simp only [go_sem]; omega)) only [go_sem, seval, ↓reduceIte, Nat.reduceEqDiff, Nat.reduceLeDiff, Nat.reduceLT, reduceCtorEq] <;> ((repeat' apply And.intro) <;> first | exact VLe.refl _ | (apply vle_int; omega) | (apply vle_int; simp; done) | exact VLe.own _ _ | exact VLe.nilown _ | exact VLe.norm _))), 0, by omega, rfl, rfl⟩ ?_
      rintro m st ⟨i, hi, rfl, rfl⟩
      (repeat (first | with_reducible refine W.seq ?_ | with_reducible refine W.block ?_ | ((first | with_reducible refine W.reg ?_ | with_reducible refine W.skip ?_ | with_reducible refine W.exit ?_ | with_reducible refine W.ret ?_ | with_reducible refine W.ifc ?_); simp -dsimp (disch := first | omega | (simp only [go_sem]; omega)) only [go_sem, seval, ↓reduceIte, Nat.reduceEqDiff, Nat.reduceLeDiff, Nat.reduceLT, reduceCtorEq])))
      refine wG_dec (fun h3 => ?_) (fun h3 => ?_)
      · have hi' : i < X.length := by omega
        (repeat (first | with_reducible refine W.seq ?_ | with_reducible refine W.block ?_ | ((first | with_reducible refine W.reg ?_ | with_reducible refine W.skip ?_ | with_reducible refine W.exit ?_ | with_reducible refine W.ret ?_ | with_reducible refine W.ifc ?_); simp -dsimp (disch := first | omega | (simp only [go_sem]; omega)) only [go_sem, seval, ↓reduceIte, Nat.reduceEqDiff, Nat.reduceLeDiff, Nat.reduceLT, reduceCtorEq])))
        refine W.loop (fun m st => ∃ j, j ≤ Y.length ∧ m = Y.length - j ∧
            st = (E [(3, .d (.str t)), (9, .d (.list (X.map .str))), (11, .d (.list (Y.map .str))), (13, .d (.int .i64 i)), (58, .d (.int .i64 X.length)), (59, .d (.int .i64 i)), (63, .d (.int .i64 Y.length)), (64, .d (.int .i64 j))],
              HB [(4, ⟨1, some [.int .i64 c.mn, .int .i64 c.mx, .int .i64 c.bits]⟩)], [], noGh))
          ⟨_, _, st_le (by (simp -dsimp (disch := first | omega | (simp only [go_sem]; omega)) only [go_sem, seval, ↓reduceIte, Nat.reduceEqDiff, Nat.reduceLeDiff, Nat.reduceLT, reduceCtorEq] <;> ((repeat' apply And.intro) <;> first | exact VLe.refl _ | (apply vle_int; omega) | (apply vle_int; simp; done) | exact VLe.own _ _ | exact VLe.nilown _ | exact VLe.norm _))), 0, by omega, rfl, rfl⟩ ?_
        rintro m st ⟨j, hj, rfl, rfl⟩
        (repeat (first | with_reducible refine W.seq ?_ | with_reducible refine W.block ?_ | ((first | with_reducible refine W.reg ?_ | with_reducible refine W.skip ?_ | with_reducible refine W.exit ?_ | with_reducible refine W.ret ?_ | with_reducible refine W.ifc ?_); simp -dsimp (disch := first | omega | (simp only [go_sem]; omega)) only [go_sem, seval, ↓reduceIte, Nat.reduceEqDiff, Nat.reduceLeDiff, Nat.reduceLT, reduceCtorEq])))
        refine wG_dec (fun h4 => ?_) (fun h4 => ?_)
        · have hj' : j < Y.length := by omega
          have hxi := hsx i
          have hyj := hsy j
          have hx400 : (X.drop i).length ≤ 100000 := by rw [List.length_drop]; omega
          have hy400 : (Y.drop j).length ≤ 100000 := by rw [List.length_drop]; omega
          (repeat' (first | with_reducible refine W.seq ?_ | with_reducible refine W.block ?_ | ((first | with_reducible refine W.reg ?_ | with_reducible refine W.skip ?_ | with_reducible refine W.exit ?_ | with_reducible refine W.ret ?_ | with_reducible refine W.ifc ?_ | (apply wC_P (size_ok (X.drop i) (by omega) hx400); (focus (simp -dsimp (disch := first | omega | (simp only [go_sem]; omega)) only [go_sem, seval, ↓reduceIte, Nat.reduceEqDiff, Nat.reduceLeDiff, Nat.reduceLT, reduceCtorEq] <;> rfl)); rintro _ rfl) | (apply wC_P (size_ok (Y.drop j) (by omega) hy400); (focus (simp -dsimp (disch := first | omega | (simp only [go_sem]; omega)) only [go_sem, seval, ↓reduceIte, Nat.reduceEqDiff, Nat.reduceLeDiff, Nat.reduceLT, reduceCtorEq] <;> rfl)); rintro _ rfl) | (apply wC_P (SameTexts_ok (X.drop i) (Y.drop j) hx400 hy400); (focus (simp -dsimp (disch := first | omega | (simp only [go_sem]; omega)) only [go_sem, seval, ↓reduceIte, Nat.reduceEqDiff, Nat.reduceLeDiff, Nat.reduceLT, reduceCtorEq] <;> rfl)); rintro _ rfl) | ((first | with_reducible refine wG_decE (fun _ hG => ?_) (fun _ hG => ?_) | with_reducible refine wG_decFE (fun _ hG => ?_) (fun _ hG => ?_)) <;> (try simp -dsimp only [hG, decide_true, decide_false, not_true_eq_false, not_false_eq_true]) <;> clear hG)) <;> (try simp -dsimp (disch := first | omega | (simp only [go_sem]; omega)) only [go_sem, seval, ↓reduceIte, Nat.reduceEqDiff, Nat.reduceLeDiff, Nat.reduceLT, reduceCtorEq, hdx, hdy])) | simp -dsimp (disch := first | omega | (simp only [go_sem]; omega)) only [go_sem, seval, ↓reduceIte, Nat.reduceEqDiff, Nat.reduceLeDiff, Nat.reduceLT, reduceCtorEq, hdx, hdy]))
          all_goals first
            | (refine ⟨_, _, ?_, st_le (by (simp -dsimp (disch := first | omega | (simp only [go_sem]; omega)) only [go_sem, seval, ↓reduceIte, Nat.reduceEqDiff, Nat.reduceLeDiff, Nat.reduceLT, reduceCtorEq] <;> ((repeat' apply And.intro) <;> first | exact VLe.refl _ | (apply vle_int; omega) | (apply vle_int; simp; done) | exact VLe.own _ _ | exact VLe.nilown _ | exact VLe.norm _))), j + 1, by omega, rfl, rfl⟩
               omega)
            | (exfalso
               have hEq := hst i j (by omega) (by omega) (by rw [← sizeS_eq, ← sizeS_eq]; omega) (by rw [← sizeS_eq]; omega)
               contradiction)
        · obtain rfl : j = Y.length := by omega
          (repeat (first | with_reducible refine W.seq ?_ | with_reducible refine W.block ?_ | ((first | with_reducible refine W.reg ?_ | with_reducible refine W.skip ?_ | with_reducible refine W.exit ?_ | with_reducible refine W.ret ?_ | with_reducible refine W.ifc ?_); simp -dsimp (disch := first | omega | (simp only [go_sem]; omega)) only [go_sem, seval, ↓reduceIte, Nat.reduceEqDiff, Nat.reduceLeDiff, Nat.reduceLT, reduceCtorEq])))
          refine ⟨_, _, ?_, st_le (by (simp -dsimp (disch := first | omega | (simp only [go_sem]; omega)) only [go_sem, seval, ↓reduceIte, Nat.reduceEqDiff, Nat.reduceLeDiff, Nat.reduceLT, reduceCtorEq] <;> ((repeat' apply And.intro) <;> first | exact VLe.refl _ | (apply vle_int; omega) | (apply vle_int; simp; done) | exact VLe.own _ _ | exact VLe.nilown _ | exact VLe.norm _))), i + 1, by omega, rfl, rfl⟩
          omega
      · obtain rfl : i = X.length := by omega
        (repeat' (first | with_reducible refine W.seq ?_ | with_reducible refine W.block ?_ | ((first | with_reducible refine W.reg ?_ | with_reducible refine W.skip ?_ | with_reducible refine W.exit ?_ | with_reducible refine W.ret ?_ | with_reducible refine W.ifc ?_ | (apply wC_P (sanity_ok); (focus (simp -dsimp (disch := first | omega | (simp only [go_sem]; omega)) only [go_sem, seval, ↓reduceIte, Nat.reduceEqDiff, Nat.reduceLeDiff, Nat.reduceLT, reduceCtorEq] <;> rfl)); rintro _ rfl) | ((first | with_reducible refine wG_decE (fun _ hG => ?_) (fun _ hG => ?_) | with_reducible refine wG_decFE (fun _ hG => ?_) (fun _ hG => ?_)) <;> (try simp -dsimp only [hG, decide_true, decide_false, not_true_eq_false, not_false_eq_true]) <;> clear hG)) <;> (try simp -dsimp (disch := first | omega | (simp only [go_sem]; omega)) only [go_sem, seval, ↓reduceIte, Nat.reduceEqDiff, Nat.reduceLeDiff, Nat.reduceLT, reduceCtorEq])) | simp -dsimp (disch := first | omega | (simp only [go_sem]; omega)) only [go_sem, seval, ↓reduceIte, Nat.reduceEqDiff, Nat.reduceLeDiff, Nat.reduceLT, reduceCtorEq]))
        all_goals exact Fin.p rfl rfl
  · by_cases hc : okC c
    · have hck : checkC c = 0 := by unfold checkC; rw [if_pos hc]
      simp -dsimp (disch := first | omega | (simp only [go_sem]; omega)) only [go_sem, seval, ↓reduceIte, Nat.reduceEqDiff, Nat.reduceLeDiff, Nat.reduceLT, reduceCtorEq]
      (repeat' (first | with_reducible refine W.seq ?_ | with_reducible refine W.block ?_ | ((first | with_reducible refine W.reg ?_ | with_reducible refine W.skip ?_ | with_reducible refine W.exit ?_ | with_reducible refine W.ret ?_ | with_reducible refine W.ifc ?_ | (apply wC_P (Check_ok c); (focus (simp -dsimp (disch := first | omega | (simp only [go_sem]; omega)) only [go_sem, seval, ↓reduceIte, Nat.reduceEqDiff, Nat.reduceLeDiff, Nat.reduceLT, reduceCtorEq, hck] <;> rfl)); rintro _ rfl; try simp -dsimp (disch := first | omega | (simp only [go_sem]; omega)) only [go_sem, seval, ↓reduceIte, Nat.reduceEqDiff, Nat.reduceLeDiff, Nat.reduceLT, reduceCtorEq, hck]) | (apply wC_P (sanity_ok); (focus (simp -dsimp (disch := first | omega | (simp only [go_sem]; omega)) only [go_sem, seval, ↓reduceIte, Nat.reduceEqDiff, Nat.reduceLeDiff, Nat.reduceLT, reduceCtorEq] <;> rfl)); rintro _ rfl) | ((first | with_reducible refine wG_decE (fun _ hG => ?_) (fun _ hG => ?_) | with_reducible refine wG_decFE (fun _ hG => ?_) (fun _ hG => ?_)) <;> (try simp -dsimp only [hG, decide_true, decide_false, not_true_eq_false, not_false_eq_true]) <;> clear hG)) <;> (try simp -dsimp (disch := first | omega | (simp only [go_sem]; omega)) only [go_sem, seval, ↓reduceIte, Nat.reduceEqDiff, Nat.reduceLeDiff, Nat.reduceLT, reduceCtorEq, hck])) | simp -dsimp (disch := first | omega | (simp only [go_sem]; omega)) only [go_sem, seval, ↓reduceIte, Nat.reduceEqDiff, Nat.reduceLeDiff, Nat.reduceLT, reduceCtorEq, hck]))
      all_goals first | exact Fin.p rfl rfl | (exfalso; apply hsm; exact ⟨by omega, by omega, by omega, hc⟩)
    · have hck : checkC c = 3 := by unfold checkC; rw [if_neg hc]
      simp -dsimp (disch := first | omega | (simp only [go_sem]; omega)) only [go_sem, seval, ↓reduceIte, Nat.reduceEqDiff, Nat.reduceLeDiff, Nat.reduceLT, reduceCtorEq]
      (repeat' (first | with_reducible refine W.seq ?_ | with_reducible refine W.block ?_ | ((first | with_reducible refine W.reg ?_ | with_reducible refine W.skip ?_ | with_reducible refine W.exit ?_ | with_reducible refine W.ret ?_ | with_reducible refine W.ifc ?_ | (apply wC_P (Check_ok c); (focus (simp -dsimp (disch := first | omega | (simp only [go_sem]; omega)) only [go_sem, seval, ↓reduceIte, Nat.reduceEqDiff, Nat.reduceLeDiff, Nat.reduceLT, reduceCtorEq, hck] <;> rfl)); rintro _ rfl; try simp -dsimp (disch := first | omega | (simp only [go_sem]; omega)) only [go_sem, seval, ↓reduceIte, Nat.reduceEqDiff, Nat.reduceLeDiff, Nat.reduceLT, reduceCtorEq, hck]) | (apply wC_P (sanity_ok); (focus (simp -dsimp (disch := first | omega | (simp only [go_sem]; omega)) only [go_sem, seval, ↓reduceIte, Nat.reduceEqDiff, Nat.reduceLeDiff, Nat.reduceLT, reduceCtorEq] <;> rfl)); rintro _ rfl) | ((first | with_reducible refine wG_decE (fun _ hG => ?_) (fun _ hG => ?_) | with_reducible refine wG_decFE (fun _ hG => ?_) (fun _ hG => ?_)) <;> (try simp -dsimp only [hG, decide_true, decide_false, not_true_eq_false, not_false_eq_true]) <;> clear hG)) <;> (try simp -dsimp (disch := first | omega | (simp only [go_sem]; omega)) only [go_sem, seval, ↓reduceIte, Nat.reduceEqDiff, Nat.reduceLeDiff, Nat.reduceLT, reduceCtorEq, hck])) | simp -dsimp (disch := first | omega | (simp only [go_sem]; omega)) only [go_sem, seval, ↓reduceIte, Nat.reduceEqDiff, Nat.reduceLeDiff, Nat.reduceLT, reduceCtorEq, hck]))
      all_goals exact Fin.p rfl rfl
end Go.Proofs.Ytbcnnomgfheaoaa
