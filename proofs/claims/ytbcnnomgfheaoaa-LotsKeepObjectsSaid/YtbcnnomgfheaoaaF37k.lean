/-
 Layer 37 (chunk), continued: an element taken out of a row that may change.
 Conditions: of each contract as it says.
-/
import Derived.Test.YtbcnnomgfheaoaaF37j
namespace Go.Proofs.Ytbcnnomgfheaoaa
open Go Go.E2 C37
set_option linter.unusedSimpArgs false
set_option maxHeartbeats 1000000
theorem Row.behind {sz n cap : Nat} {es cs vs : List D} {off : Nat} (h : Row sz n cap es cs) (hn : n * sz ≤ off) (hv : off + vs.length ≤ cs.length) : Row sz n cap es (over cs vs off) :=
 ⟨h.len, h.all, h.fit, by rw [over_length hv]; exact h.room, by
   rw [← h.eq]; unfold over
   rw [List.append_assoc, List.take_append_of_le_length (by rw [List.length_take]; omega), List.take_take, Nat.min_eq_left hn]⟩
theorem Delete_ok {x : D} {es : List D} {i : Nat} (hi : i < es.length) (hl : es.length ≤ 100000) (σ : List Hp) {G : Gh} (hx : GV 3 G x es) :
 CallT Try.prog f_slices_Delete_api_LotObject_api_LotObject ([x, .int .i64 i, .int .i64 (i + 1)].map .d) σ G fun r σ' G' => σ' = σ ∧ ∃ x', r = .d x' ∧ GV 3 G' x' (es.eraseIdx i) ∧ GTo x x' G G' := by
 refine callT_of_W fol slices_Delete_api_LotObject_api_LotObject_cp ?_
 obtain ⟨b, cap, cs, rfl, hb, hr⟩ := hx.inv (by rintro rfl; simp at hi)
 have hcap := hr.fit
 have e1 : ((i : Int) + 1).toNat = i + 1 := by omega
 have e2 : (((i : Int) + 1) = (i : Int)) = False := by simp; omega
 simp -dsimp (disch := first | omega | (simp only [go_sem]; omega)) only [go_sem, seval, Nat.reduceEqDiff, Nat.reduceLeDiff]
 (repeat' (first | with_reducible refine W.seq ?_ | with_reducible refine W.block ?_ | ((first | with_reducible refine W.reg ?_ | with_reducible refine W.skip ?_ | with_reducible refine W.exit ?_ | with_reducible refine W.ret ?_ | with_reducible refine W.ifc ?_ | ((first | with_reducible refine wG_decE (fun _ hG => ?_) (fun _ hG => ?_) | with_reducible refine wG_decFE (fun _ hG => ?_) (fun _ hG => ?_)) <;> (try simp -dsimp only [hG, decide_true, decide_false, not_true_eq_false, not_false_eq_true]) <;> clear hG)) <;> (try simp -dsimp (disch := first | omega | (simp only [go_sem]; omega)) only [go_sem, seval, Nat.reduceEqDiff, Nat.reduceLeDiff, ite_self, Nat.sub_zero, e1, Int.toNat_natCast])) | simp -dsimp (disch := first | omega | (simp only [go_sem]; omega)) only [go_sem, seval, Nat.reduceEqDiff, Nat.reduceLeDiff, ite_self, Nat.sub_zero, e1, Int.toNat_natCast]))
 · exfalso; omega
 have hra := hr.take (m := i) (c := cap) (by omega) (by omega) (Nat.le_refl _)
 have hvw : viewC G 3 (.gs b (if cap = i + 1 then 0 else (i + 1) * 3) (es.length - (i + 1)) (cap - (i + 1))) = some (es.length - (i + 1), flat (es.drop (i + 1))) := by
  by_cases hlast : cap = i + 1
  · have h0 : es.length - (i + 1) = 0 := by omega
    have h1 : es.drop (i + 1) = [] := List.drop_of_length_le (by omega)
    simp [viewC, hb, hlast, h0, h1, flat]
  · rw [if_neg hlast]
    exact hr.viewT hb (by omega)
 refine appV_view hvw ?_
 refine appW_row hb hra rfl (by rw [List.length_drop]) (all_drop hr.all (i + 1)) (by rw [mostBytes_eq]; omega) (fun cs' hc hr' => ?_) (fun b' cap' cs' hc => absurd hc (by omega))
 have e4 : i + (es.length - (i + 1)) = es.length - 1 := by omega
 rw [e4] at hr' ⊢
 have hr2 : Row 3 (es.length - 1) cap (es.eraseIdx i) cs' := by
  rw [List.eraseIdx_eq_take_drop_succ]; exact hr'
 have e5 : ((es.length - 1 : Nat) : Int) = (es.length : Int) - 1 := by omega
 have e6 : (cap = es.length - 1) = False := eq_false (by omega)
 have e7 : es.length - (es.length - 1) = 1 := by omega
 have e8 : ((es.length : Int) - 1).toNat = es.length - 1 := by omega
 simp -dsimp (disch := first | omega | (simp only [go_sem]; omega)) only [go_sem, seval, Nat.reduceEqDiff, Nat.reduceLeDiff]
 (repeat (first | with_reducible refine W.seq ?_ | with_reducible refine W.block ?_ | ((first | with_reducible refine W.reg ?_ | with_reducible refine W.skip ?_ | with_reducible refine W.exit ?_ | with_reducible refine W.ret ?_ | with_reducible refine W.ifc ?_); simp -dsimp (disch := first | omega | (simp only [go_sem]; omega)) only [go_sem, seval, Nat.reduceEqDiff, Nat.reduceLeDiff, e5, e6, e7, e8, Int.toNat_natCast])))
 have hroom : (es.length - 1) * 3 + 3 ≤ cs'.length := by have := hr2.room; omega
 refine wGd_mk (gdD_clr (gset_same _ _ _) hroom (by omega)) ?_
 simp -dsimp (disch := first | omega | (simp only [go_sem]; omega)) only [go_sem, seval, Nat.reduceEqDiff, Nat.reduceLeDiff]
 (repeat (first | with_reducible refine W.seq ?_ | with_reducible refine W.block ?_ | ((first | with_reducible refine W.reg ?_ | with_reducible refine W.skip ?_ | with_reducible refine W.exit ?_ | with_reducible refine W.ret ?_ | with_reducible refine W.ifc ?_); simp -dsimp (disch := first | omega | (simp only [go_sem]; omega)) only [go_sem, seval, Nat.reduceEqDiff, Nat.reduceLeDiff])))
 refine Fin.eq rfl ⟨rfl, _, rfl, ?_, .mk_in (fun c hc => by rw [set_off hc, set_off hc]) rfl⟩
 exact GV.mk (gset_same _ _ _) (Row.behind hr2 (Nat.le_refl _) (by simpa using hroom))
end Go.Proofs.Ytbcnnomgfheaoaa
