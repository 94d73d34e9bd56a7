/-
 Layer 37 (chunk), continued: the examples of the documentation.
 Conditions: of each contract as it says.
-/
import Derived.Test.YtbcnnomgfheaoaaF37t
namespace Go.Proofs.Ytbcnnomgfheaoaa
open Go Go.E2 C37
set_option linter.unusedSimpArgs false
set_option maxHeartbeats 4000000
theorem p1 : CallP Try.prog f_chunk_Put [.agg [.int .i64 1, .nilS, .nilS], eT c0, .int .i64 7, .str [120], .str [98, 98, 98, 98, 98]] (· = .tup [eL A1, .int .i64 0]) := by
 have h := Put_ok A0 c0 7 [120] [98, 98, 98, 98, 98] (small_of rfl)
 rw [e3] at h
 exact h.args (.cons (.inr rfl) (.cons (.inl rfl) (.cons (.inl rfl) (.cons (.inl rfl) (.cons (.inl rfl) .nil)))))
theorem p2 : CallP Try.prog f_chunk_Put [eL A1, eT c0, .int .i64 3, .str [121], .str [98, 98, 98]] (· = .tup [eL A2, .int .i64 0]) := by
 have h := Put_ok A1 c0 3 [121] [98, 98, 98] (small_of rfl)
 rw [e4] at h; exact h
theorem p3 : CallP Try.prog f_chunk_Put [eL A2, eT c0, .int .i64 4, .str [120], .str [98, 98]] (· = .tup [eL A3, .int .i64 0]) := by
 have h := Put_ok A2 c0 4 [120] [98, 98] (small_of rfl)
 rw [e5] at h; exact h
theorem p4 : CallP Try.prog f_chunk_Drop [eL A3, .int .i64 7] (· = .tup [eL A4, .list [.int .i64 2], .int .i64 0]) := by
 have h := Drop_ok A3 7 (small_of rfl)
 rw [e6] at h; exact h
theorem p5 : CallP Try.prog f_chunk_Get [eL A4, .int .i64 4] (· = .tup [.str [98, 98], .int .i64 0]) := by
 have h := Get_ok A4 4 (small_of rfl)
 rw [e7] at h; exact h
theorem p6 : CallP Try.prog f_chunk_Get [eL A4, .int .i64 7] (· = .tup [.str [], .int .i64 8]) := by
 have h := Get_ok A4 7 (small_of rfl)
 rw [e8] at h; exact h
theorem p7 : CallP Try.prog f_chunk_Move [eL A4, .int .i64 4, .str [121]] (· = .tup [eL A5, .list [.int .i64 1], .int .i64 0]) := by
 have h := Move_ok A4 4 [121] (small_of rfl)
 rw [e9] at h; exact h
open Classical in
theorem p8 : CallP Try.prog f_chunk_Valid [eL A5] (· = .d (.bool true)) := by
 have h := Valid_ok A5 (small_of rfl)
 have e : (validL A5) = True := eq_true e10
 simp only [e, decide_true] at h; exact h
theorem p9 : CallP Try.prog f_chunk_Cut [eT c0, .str [97, 98, 99, 100, 101, 102, 103, 104]] (· = .tup [.list ([[97, 98], [99, 100], [101, 102], [103, 104]].map .str), .int .i64 0]) := by
 have h := Cut_ok c0 [97, 98, 99, 100, 101, 102, 103, 104]
 rw [e1] at h; exact h
theorem p10 : CallP Try.prog f_chunk_Cut [eT c0, .str [98, 98, 98, 98, 98, 98, 98, 98, 98]] (· = .tup [.list ([[98, 98], [98, 98], [98, 98], [98, 98], [98]].map .str), .int .i64 0]) := by
 have h := Cut_ok c0 [98, 98, 98, 98, 98, 98, 98, 98, 98]
 rw [e2] at h; exact h
theorem texts_same (a : List Str) (h : a.length ≤ 100000) : CallP Try.prog f_quietusref07_SameTexts [.list (a.map .str), .list (a.map .str)] (· = .d (.bool true)) := by
 have h := SameTexts_ok a a h h
 rw [decide_eq_true rfl] at h; exact h
theorem vIaddr_c0 (sz : Nat) (e : D) (es : List D) (k : IntKind) : vIaddr sz (some (.list (e :: es))) (.d (.int k 0)) = if (e :: es).all (sizeOk sz) = true then some (.cptr e.cells) else none := by
 by_cases h : (e :: es).all (sizeOk sz) = true
 · rw [if_pos h, vIaddr_list sz _ k 0 h (by omega) (by simp)]; rfl
 · rw [if_neg h]; simp only [vIaddr, h, false_and, if_false]; rfl
theorem c2 : ((2 : Nat) : Int) = 2 := rfl
theorem c3 : ((3 : Nat) : Int) = 3 := rfl
theorem c4 : ((4 : Nat) : Int) = 4 := rfl
theorem sanity_ok : CallP Try.prog f_quietuslaw37_sanity [] (· = .d (.bool true)) := by
 refine callP_of_W fol quietuslaw37_sanity_cp ?_
 simp -dsimp (disch := first | omega | (simp only [go_sem]; omega)) only [go_sem, seval, Nat.reduceEqDiff, Nat.reduceLeDiff]
 (repeat' (first | with_reducible refine W.seq ?_ | with_reducible refine W.block ?_ | ((first | with_reducible refine W.reg ?_ | with_reducible refine W.skip ?_ | with_reducible refine W.exit ?_ | with_reducible refine W.ret ?_ | with_reducible refine W.ifc ?_ | (apply wC_P (p9); (focus (simp -dsimp (disch := first | omega | (simp only [go_sem]; omega)) only [go_sem, seval, Nat.reduceEqDiff, Nat.reduceLeDiff] <;> rfl)); rintro _ rfl) | (apply wC_P (p10); (focus (simp -dsimp (disch := first | omega | (simp only [go_sem]; omega)) only [go_sem, seval, Nat.reduceEqDiff, Nat.reduceLeDiff] <;> rfl)); rintro _ rfl) | (apply wC_P (p1); (focus (simp -dsimp (disch := first | omega | (simp only [go_sem]; omega)) only [go_sem, seval, Nat.reduceEqDiff, Nat.reduceLeDiff, A1] <;> rfl)); rintro _ rfl; try simp -dsimp (disch := first | omega | (simp only [go_sem]; omega)) only [go_sem, seval, Nat.reduceEqDiff, Nat.reduceLeDiff, A1]) | (apply wC_P (texts_same [[97, 98], [99, 100], [101, 102], [103, 104]] (by decide)); (focus (simp -dsimp (disch := first | omega | (simp only [go_sem]; omega)) only [go_sem, seval, Nat.reduceEqDiff, Nat.reduceLeDiff] <;> rfl)); rintro _ rfl) | (apply wC_P (texts_same [[98, 98], [98, 98], [98, 98], [98, 98], [98]] (by decide)); (focus (simp -dsimp (disch := first | omega | (simp only [go_sem]; omega)) only [go_sem, seval, Nat.reduceEqDiff, Nat.reduceLeDiff] <;> rfl)); rintro _ rfl) | (apply wC_P (same_ok A1 ⟨by decide, by decide, by decide⟩); (focus (simp -dsimp (disch := first | omega | (simp only [go_sem]; omega)) only [go_sem, seval, Nat.reduceEqDiff, Nat.reduceLeDiff, A1] <;> rfl)); rintro _ rfl; try simp -dsimp (disch := first | omega | (simp only [go_sem]; omega)) only [go_sem, seval, Nat.reduceEqDiff, Nat.reduceLeDiff, A1]) | (apply wC_P (p2); (focus (simp -dsimp (disch := first | omega | (simp only [go_sem]; omega)) only [go_sem, seval, Nat.reduceEqDiff, Nat.reduceLeDiff, A2] <;> rfl)); rintro _ rfl; try simp -dsimp (disch := first | omega | (simp only [go_sem]; omega)) only [go_sem, seval, Nat.reduceEqDiff, Nat.reduceLeDiff, A2]) | (apply wC_P (p3); (focus (simp -dsimp (disch := first | omega | (simp only [go_sem]; omega)) only [go_sem, seval, Nat.reduceEqDiff, Nat.reduceLeDiff, A3] <;> rfl)); rintro _ rfl; try simp -dsimp (disch := first | omega | (simp only [go_sem]; omega)) only [go_sem, seval, Nat.reduceEqDiff, Nat.reduceLeDiff, A3]) | (apply wC_P (p4); (focus (simp -dsimp (disch := first | omega | (simp only [go_sem]; omega)) only [go_sem, seval, Nat.reduceEqDiff, Nat.reduceLeDiff, A4] <;> rfl)); rintro _ rfl; try simp -dsimp (disch := first | omega | (simp only [go_sem]; omega)) only [go_sem, seval, Nat.reduceEqDiff, Nat.reduceLeDiff, A4]) | (apply wC_P (p5); (focus (simp -dsimp (disch := first | omega | (simp only [go_sem]; omega)) only [go_sem, seval, Nat.reduceEqDiff, Nat.reduceLeDiff, A4] <;> rfl)); rintro _ rfl; try simp -dsimp (disch := first | omega | (simp only [go_sem]; omega)) only [go_sem, seval, Nat.reduceEqDiff, Nat.reduceLeDiff, A4]) | (apply wC_P (p6); (focus (simp -dsimp (disch := first | omega | (simp only [go_sem]; omega)) only [go_sem, seval, Nat.reduceEqDiff, Nat.reduceLeDiff, A4] <;> rfl)); rintro _ rfl; try simp -dsimp (disch := first | omega | (simp only [go_sem]; omega)) only [go_sem, seval, Nat.reduceEqDiff, Nat.reduceLeDiff, A4]) | (apply wC_P (p7); (focus (simp -dsimp (disch := first | omega | (simp only [go_sem]; omega)) only [go_sem, seval, Nat.reduceEqDiff, Nat.reduceLeDiff, A5] <;> rfl)); rintro _ rfl; try simp -dsimp (disch := first | omega | (simp only [go_sem]; omega)) only [go_sem, seval, Nat.reduceEqDiff, Nat.reduceLeDiff, A5]) | (apply wC_P (sameI_ok [2] (by decide)); (focus (simp -dsimp (disch := first | omega | (simp only [go_sem]; omega)) only [go_sem, seval, Nat.reduceEqDiff, Nat.reduceLeDiff] <;> rfl)); rintro _ rfl) | (apply wC_P (sameI_ok [1] (by decide)); (focus (simp -dsimp (disch := first | omega | (simp only [go_sem]; omega)) only [go_sem, seval, Nat.reduceEqDiff, Nat.reduceLeDiff] <;> rfl)); rintro _ rfl) | (apply wC_P (p8); (focus (simp -dsimp (disch := first | omega | (simp only [go_sem]; omega)) only [go_sem, seval, Nat.reduceEqDiff, Nat.reduceLeDiff, A5] <;> rfl)); rintro _ rfl; try simp -dsimp (disch := first | omega | (simp only [go_sem]; omega)) only [go_sem, seval, Nat.reduceEqDiff, Nat.reduceLeDiff, A5]) | ((first | with_reducible refine wG_decE (fun _ hG => ?_) (fun _ hG => ?_) | with_reducible refine wG_decFE (fun _ hG => ?_) (fun _ hG => ?_)) <;> (try simp -dsimp only [hG, decide_true, decide_false, not_true_eq_false, not_false_eq_true]) <;> clear hG)) <;> (try simp -dsimp (disch := first | omega | (simp only [go_sem]; omega)) only [go_sem, seval, Nat.reduceEqDiff, Nat.reduceLeDiff, A1, A2, A3, A4, A5, c0, vIaddr_c0, c2, c3, c4])) | simp -dsimp (disch := first | omega | (simp only [go_sem]; omega)) only [go_sem, seval, Nat.reduceEqDiff, Nat.reduceLeDiff, A1, A2, A3, A4, A5, c0, vIaddr_c0, c2, c3, c4]))
 all_goals first | (exfalso; omega) | exact Fin.p rfl rfl
end Go.Proofs.Ytbcnnomgfheaoaa
