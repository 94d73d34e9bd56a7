/-
  Layer 37 (chunk), continued: the laws LotsCutAsSpecified and LotsFallInStep.
  Conditions: of each contract as it says.
-/
import Derived.Test.YtbcnnomgfheaoaaF37u
import Derived.Test.YtbcnnomgfheaoaaS37f
namespace Go.Proofs.Ytbcnnomgfheaoaa
open Go Go.E2 C37
set_option linter.unusedSimpArgs false
set_option maxHeartbeats 4000000
theorem cutL_len (c : Ct) (s : Str) : (cutL c s).length ≤ s.length := cutN_len c s s.length 0 0
theorem cutR_len (c : Ct) (s : Str) : (cutR c s).1.length ≤ 65536 := by
  unfold cutR
  split
  · split
    · exact Nat.zero_le _
    · have := cutL_len c s; simp only; omega
  · exact Nat.zero_le _
theorem cutR_check {c : Ct} {s : Str} (h : (cutR c s).2 = 0) : okC c ∧ s.length ≤ 65536 ∧ (cutR c s).1 = cutL c s := by
  unfold cutR at h ⊢
  by_cases hc : okC c
  · rw [if_pos hc] at h ⊢
    by_cases hl : 65536 < s.length
    · rw [if_pos hl] at h; cases h
    · rw [if_neg hl]; exact ⟨hc, by omega, rfl⟩
  · rw [if_neg hc] at h; cases h
theorem law1_ok (c : Ct) (s : Str) : CallP Try.prog f_quietuslaw37_LotsCutAsSpecified [eT c, .str s] (· = .d (.bool true)) := by
  refine callP_of_W fol quietuslaw37_LotsCutAsSpecified_cp ?_
  have hts := texts_same (cutR c s).1 (by have := cutR_len c s; omega)
  by_cases hz : (cutR c s).2 = 0
  · obtain ⟨hc, hsl, hL⟩ := cutR_check hz
    rw [hL] at hts
    simp -dsimp (disch := first | omega | (simp only [go_sem]; omega)) only [go_sem, seval, ↓reduceIte, Nat.reduceEqDiff, Nat.reduceLeDiff, Nat.reduceLT, reduceCtorEq]
    (repeat' (first | with_reducible refine W.seq ?_ | with_reducible refine W.block ?_ | ((first | with_reducible refine W.reg ?_ | with_reducible refine W.skip ?_ | with_reducible refine W.exit ?_ | with_reducible refine W.ret ?_ | with_reducible refine W.ifc ?_ | (apply wC_P (sanity_ok); (focus (simp -dsimp (disch := first | omega | (simp only [go_sem]; omega)) only [go_sem, seval, ↓reduceIte, Nat.reduceEqDiff, Nat.reduceLeDiff, Nat.reduceLT, reduceCtorEq] <;> rfl)); rintro _ rfl) | (apply wC_P (Cut_ok c s); (focus (simp -dsimp (disch := first | omega | (simp only [go_sem]; omega)) only [go_sem, seval, ↓reduceIte, Nat.reduceEqDiff, Nat.reduceLeDiff, Nat.reduceLT, reduceCtorEq, hz, hL] <;> rfl)); rintro _ rfl; try simp -dsimp (disch := first | omega | (simp only [go_sem]; omega)) only [go_sem, seval, ↓reduceIte, Nat.reduceEqDiff, Nat.reduceLeDiff, Nat.reduceLT, reduceCtorEq, hz, hL]) | (apply wC_P (refCut_ok c s); (focus (simp -dsimp (disch := first | omega | (simp only [go_sem]; omega)) only [go_sem, seval, ↓reduceIte, Nat.reduceEqDiff, Nat.reduceLeDiff, Nat.reduceLT, reduceCtorEq, hz, hL] <;> rfl)); rintro _ rfl; try simp -dsimp (disch := first | omega | (simp only [go_sem]; omega)) only [go_sem, seval, ↓reduceIte, Nat.reduceEqDiff, Nat.reduceLeDiff, Nat.reduceLT, reduceCtorEq, hz, hL]) | (apply wC_P (Check_ok c); (focus (simp -dsimp (disch := first | omega | (simp only [go_sem]; omega)) only [go_sem, seval, ↓reduceIte, Nat.reduceEqDiff, Nat.reduceLeDiff, Nat.reduceLT, reduceCtorEq] <;> rfl)); rintro _ rfl) | (apply wC_P (refCheck_ok c); (focus (simp -dsimp (disch := first | omega | (simp only [go_sem]; omega)) only [go_sem, seval, ↓reduceIte, Nat.reduceEqDiff, Nat.reduceLeDiff, Nat.reduceLT, reduceCtorEq] <;> rfl)); rintro _ rfl) | (apply wC_P (hts); (focus (simp -dsimp (disch := first | omega | (simp only [go_sem]; omega)) only [go_sem, seval, ↓reduceIte, Nat.reduceEqDiff, Nat.reduceLeDiff, Nat.reduceLT, reduceCtorEq] <;> rfl)); rintro _ rfl) | ((first | with_reducible refine wG_decE (fun _ hG => ?_) (fun _ hG => ?_) | with_reducible refine wG_decFE (fun _ hG => ?_) (fun _ hG => ?_)) <;> (try simp -dsimp only [hG, decide_true, decide_false, not_true_eq_false, not_false_eq_true]) <;> clear hG)) <;> (try simp -dsimp (disch := first | omega | (simp only [go_sem]; omega)) only [go_sem, seval, ↓reduceIte, Nat.reduceEqDiff, Nat.reduceLeDiff, Nat.reduceLT, reduceCtorEq, hz, hL, eq_self])) | simp -dsimp (disch := first | omega | (simp only [go_sem]; omega)) only [go_sem, seval, ↓reduceIte, Nat.reduceEqDiff, Nat.reduceLeDiff, Nat.reduceLT, reduceCtorEq, hz, hL, eq_self]))
    all_goals try (exact Fin.p rfl rfl)
    all_goals
      refine W.loop (fun m st => ∃ k all, k ≤ (cutL c s).length ∧ m = (cutL c s).length - k ∧ all = ((cutL c s).take k).flatten ∧ all.length ≤ 65536 ∧
          st = (E [(1, .d (.str s)), (2, .ptr 0 2 1 0), (5, .d (.list ((cutL c s).map .str))), (8, .d (.str all)), (55, .d (.list ((cutL c s).map .str))), (56, .d (.int .i64 (cutL c s).length)), (57, .d (.int .i64 k))],
            HB [(2, ⟨1, some [.int .i64 c.mn, .int .i64 c.mx, .int .i64 c.bits]⟩), (7, ⟨1, some [.list ((cutL c s).map .str), .int .i64 0]⟩)], [], noGh))
        ⟨_, _, st_le (l' := [(1, .d (.str s)), (2, .ptr 0 2 1 0), (5, .d (.list ((cutL c s).map .str))), (8, .d (.str [])), (55, .d (.list ((cutL c s).map .str))), (56, .d (.int .i64 (cutL c s).length)), (57, .d (.int .i64 (0 : Nat)))]) (by (simp -dsimp (disch := first | omega | (simp only [go_sem]; omega)) only [go_sem, seval, ↓reduceIte, Nat.reduceEqDiff, Nat.reduceLeDiff, Nat.reduceLT, reduceCtorEq] <;> ((repeat' apply And.intro) <;> first | exact VLe.refl _ | (apply vle_int; omega) | (apply vle_int; simp; done) | exact VLe.own _ _ | exact VLe.nilown _ | exact VLe.norm _))), 0, [], by omega, rfl, rfl, by simp, rfl⟩ ?_
      rintro m st ⟨k, all, hk, rfl, hall, hal, rfl⟩
      (repeat (first | with_reducible refine W.seq ?_ | with_reducible refine W.block ?_ | ((first | with_reducible refine W.reg ?_ | with_reducible refine W.skip ?_ | with_reducible refine W.exit ?_ | with_reducible refine W.ret ?_ | with_reducible refine W.ifc ?_); simp -dsimp (disch := first | omega | (simp only [go_sem]; omega)) only [go_sem, seval, ↓reduceIte, Nat.reduceEqDiff, Nat.reduceLeDiff, Nat.reduceLT, reduceCtorEq])))
      refine wG_dec (fun h1 => ?_) (fun h1 => ?_)
      · have hk' : k < (cutL c s).length := by omega
        have hsz := cutL_sizes hc k hk'
        have hll := cutL_len c s
        have hfl := cutL_flat c s
        have htk : ((cutL c s).take (k + 1)).flatten = all ++ (cutL c s)[k] := by
          rw [List.take_succ_eq_append_getElem hk', List.flatten_append, hall]; simp
        have hle : ((cutL c s).take (k + 1)).flatten.length ≤ s.length := by
          have e : s = ((cutL c s).take (k + 1)).flatten ++ ((cutL c s).drop (k + 1)).flatten := by
            rw [← List.flatten_append, List.take_append_drop, hfl]
          have := congrArg List.length e
          rw [List.length_append] at this; omega
        have hle2 := congrArg List.length htk
        rw [List.length_append] at hle2
        have hc2 := hc
        unfold okC at hc2
        (repeat' (first | with_reducible refine W.seq ?_ | with_reducible refine W.block ?_ | ((first | with_reducible refine W.reg ?_ | with_reducible refine W.skip ?_ | with_reducible refine W.exit ?_ | with_reducible refine W.ret ?_ | with_reducible refine W.ifc ?_ | ((first | with_reducible refine wG_decE (fun _ hG => ?_) (fun _ hG => ?_) | with_reducible refine wG_decFE (fun _ hG => ?_) (fun _ hG => ?_)) <;> (try simp -dsimp only [hG, decide_true, decide_false, not_true_eq_false, not_false_eq_true]) <;> clear hG)) <;> (try simp -dsimp (disch := first | omega | (simp only [go_sem]; omega)) only [go_sem, seval, ↓reduceIte, Nat.reduceEqDiff, Nat.reduceLeDiff, Nat.reduceLT, reduceCtorEq])) | simp -dsimp (disch := first | omega | (simp only [go_sem]; omega)) only [go_sem, seval, ↓reduceIte, Nat.reduceEqDiff, Nat.reduceLeDiff, Nat.reduceLT, reduceCtorEq]))
        all_goals first
          | (exfalso; have := hsz.2.2; omega)
          | (refine ⟨_, _, ?_, st_le (by (simp -dsimp (disch := first | omega | (simp only [go_sem]; omega)) only [go_sem, seval, ↓reduceIte, Nat.reduceEqDiff, Nat.reduceLeDiff, Nat.reduceLT, reduceCtorEq] <;> ((repeat' apply And.intro) <;> first | exact VLe.refl _ | (apply vle_int; omega) | (apply vle_int; simp; done) | exact VLe.own _ _ | exact VLe.nilown _ | exact VLe.norm _))), k + 1, _, by omega, rfl, htk.symm, by rw [List.length_append]; omega, rfl⟩
             omega)
      · obtain rfl : k = (cutL c s).length := by omega
        rw [List.take_length, cutL_flat] at hall
        subst hall
        (repeat' (first | with_reducible refine W.seq ?_ | with_reducible refine W.block ?_ | ((first | with_reducible refine W.reg ?_ | with_reducible refine W.skip ?_ | with_reducible refine W.exit ?_ | with_reducible refine W.ret ?_ | with_reducible refine W.ifc ?_ | (apply wC_P (sanity_ok); (focus (simp -dsimp (disch := first | omega | (simp only [go_sem]; omega)) only [go_sem, seval, ↓reduceIte, Nat.reduceEqDiff, Nat.reduceLeDiff, Nat.reduceLT, reduceCtorEq] <;> rfl)); rintro _ rfl) | ((first | with_reducible refine wG_decE (fun _ hG => ?_) (fun _ hG => ?_) | with_reducible refine wG_decFE (fun _ hG => ?_) (fun _ hG => ?_)) <;> (try simp -dsimp only [hG, decide_true, decide_false, not_true_eq_false, not_false_eq_true]) <;> clear hG)) <;> (try simp -dsimp (disch := first | omega | (simp only [go_sem]; omega)) only [go_sem, seval, ↓reduceIte, Nat.reduceEqDiff, Nat.reduceLeDiff, Nat.reduceLT, reduceCtorEq, eq_self])) | simp -dsimp (disch := first | omega | (simp only [go_sem]; omega)) only [go_sem, seval, ↓reduceIte, Nat.reduceEqDiff, Nat.reduceLeDiff, Nat.reduceLT, reduceCtorEq, eq_self]))
        all_goals exact Fin.p rfl rfl
  · simp -dsimp (disch := first | omega | (simp only [go_sem]; omega)) only [go_sem, seval, ↓reduceIte, Nat.reduceEqDiff, Nat.reduceLeDiff, Nat.reduceLT, reduceCtorEq]
    (repeat' (first | with_reducible refine W.seq ?_ | with_reducible refine W.block ?_ | ((first | with_reducible refine W.reg ?_ | with_reducible refine W.skip ?_ | with_reducible refine W.exit ?_ | with_reducible refine W.ret ?_ | with_reducible refine W.ifc ?_ | (apply wC_P (sanity_ok); (focus (simp -dsimp (disch := first | omega | (simp only [go_sem]; omega)) only [go_sem, seval, ↓reduceIte, Nat.reduceEqDiff, Nat.reduceLeDiff, Nat.reduceLT, reduceCtorEq] <;> rfl)); rintro _ rfl) | (apply wC_P (Cut_ok c s); (focus (simp -dsimp (disch := first | omega | (simp only [go_sem]; omega)) only [go_sem, seval, ↓reduceIte, Nat.reduceEqDiff, Nat.reduceLeDiff, Nat.reduceLT, reduceCtorEq] <;> rfl)); rintro _ rfl) | (apply wC_P (refCut_ok c s); (focus (simp -dsimp (disch := first | omega | (simp only [go_sem]; omega)) only [go_sem, seval, ↓reduceIte, Nat.reduceEqDiff, Nat.reduceLeDiff, Nat.reduceLT, reduceCtorEq] <;> rfl)); rintro _ rfl) | (apply wC_P (Check_ok c); (focus (simp -dsimp (disch := first | omega | (simp only [go_sem]; omega)) only [go_sem, seval, ↓reduceIte, Nat.reduceEqDiff, Nat.reduceLeDiff, Nat.reduceLT, reduceCtorEq] <;> rfl)); rintro _ rfl) | (apply wC_P (refCheck_ok c); (focus (simp -dsimp (disch := first | omega | (simp only [go_sem]; omega)) only [go_sem, seval, ↓reduceIte, Nat.reduceEqDiff, Nat.reduceLeDiff, Nat.reduceLT, reduceCtorEq] <;> rfl)); rintro _ rfl) | (apply wC_P (hts); (focus (simp -dsimp (disch := first | omega | (simp only [go_sem]; omega)) only [go_sem, seval, ↓reduceIte, Nat.reduceEqDiff, Nat.reduceLeDiff, Nat.reduceLT, reduceCtorEq] <;> rfl)); rintro _ rfl) | ((first | with_reducible refine wG_decE (fun _ hG => ?_) (fun _ hG => ?_) | with_reducible refine wG_decFE (fun _ hG => ?_) (fun _ hG => ?_)) <;> (try simp -dsimp only [hG, decide_true, decide_false, not_true_eq_false, not_false_eq_true]) <;> clear hG)) <;> (try simp -dsimp (disch := first | omega | (simp only [go_sem]; omega)) only [go_sem, seval, ↓reduceIte, Nat.reduceEqDiff, Nat.reduceLeDiff, Nat.reduceLT, reduceCtorEq, hz, eq_self])) | simp -dsimp (disch := first | omega | (simp only [go_sem]; omega)) only [go_sem, seval, ↓reduceIte, Nat.reduceEqDiff, Nat.reduceLeDiff, Nat.reduceLT, reduceCtorEq, hz, eq_self]))
    all_goals exact Fin.p rfl rfl
end Go.Proofs.Ytbcnnomgfheaoaa
