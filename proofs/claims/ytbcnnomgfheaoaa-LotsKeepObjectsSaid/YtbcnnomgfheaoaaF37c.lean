/-
 Layer 37 (chunk), continued: comparing and finding.
 Conditions: of each contract as it says.
-/
import Derived.Test.YtbcnnomgfheaoaaF37a
import Derived.Test.YtbcnnomgfheaoaaS37
namespace Go.Proofs.Ytbcnnomgfheaoaa
open Go Go.E2 C37
set_option linter.unusedSimpArgs false
theorem list_ext_up {α : Type} {a b : List α} (hl : a.length = b.length) (h : ∀ j (h1 : j < a.length) (h2 : j < b.length), a[j] = b[j]) : a = b := List.ext_getElem hl fun j h1 h2 => h j h1 h2
theorem SameTexts_ok (a b : List Str) (hl : a.length ≤ 100000) (hl2 : b.length ≤ 100000) : CallP Try.prog f_quietusref07_SameTexts [.list (a.map .str), .list (b.map .str)] (· = .d (.bool (decide (a = b)))) := by
 refine callP_of_W fol quietusref07_SameTexts_cp ?_
 simp -dsimp (disch := first | omega | (simp only [go_sem]; omega)) only [go_sem, seval, Nat.reduceEqDiff, Nat.reduceLeDiff]
 (repeat' (first | with_reducible refine W.seq ?_ | with_reducible refine W.block ?_ | ((first | with_reducible refine W.reg ?_ | with_reducible refine W.skip ?_ | with_reducible refine W.exit ?_ | with_reducible refine W.ret ?_ | with_reducible refine W.ifc ?_ | ((first | with_reducible refine wG_decE (fun _ hG => ?_) (fun _ hG => ?_) | with_reducible refine wG_decFE (fun _ hG => ?_) (fun _ hG => ?_)) <;> (try simp -dsimp only [hG, decide_true, decide_false, not_true_eq_false, not_false_eq_true]) <;> clear hG)) <;> (try simp -dsimp (disch := first | omega | (simp only [go_sem]; omega)) only [go_sem, seval, Nat.reduceEqDiff, Nat.reduceLeDiff])) | simp -dsimp (disch := first | omega | (simp only [go_sem]; omega)) only [go_sem, seval, Nat.reduceEqDiff, Nat.reduceLeDiff]))
 · exact Fin.p rfl (bF fun e => by subst e; omega)
 have hlen : a.length = b.length := by omega
 refine W.loop (fun n st => ∃ k, k ≤ a.length ∧ n = a.length - k ∧ (∀ j (h1 : j < a.length) (h2 : j < b.length), j < k → a[j] = b[j]) ∧
  st = (E [(0, .d (.list (a.map .str))), (1, .d (.list (b.map .str))), (5, .d (.int .i64 k))], HB [], [], noGh))
  ⟨_, _, st_le (by (simp -dsimp (disch := first | omega | (simp only [go_sem]; omega)) only [go_sem, seval, Nat.reduceEqDiff, Nat.reduceLeDiff] <;> ((repeat' apply And.intro) <;> first | exact VLe.refl _ | (apply vle_int; omega) | (apply vle_int; simp; done) | exact VLe.own _ _ | exact VLe.nilown _ | exact VLe.norm _))), 0, by omega, rfl, fun _ _ _ h => by omega, rfl⟩ ?_
 rintro n st ⟨k, hk, rfl, hlo, rfl⟩
 (repeat (first | with_reducible refine W.seq ?_ | with_reducible refine W.block ?_ | ((first | with_reducible refine W.reg ?_ | with_reducible refine W.skip ?_ | with_reducible refine W.exit ?_ | with_reducible refine W.ret ?_ | with_reducible refine W.ifc ?_); simp -dsimp (disch := first | omega | (simp only [go_sem]; omega)) only [go_sem, seval, Nat.reduceEqDiff, Nat.reduceLeDiff])))
 refine wG_dec (fun h1 => ?_) (fun h1 => ?_)
 · have hk' : k < a.length := by omega
   have hk2 : k < b.length := by omega
   (repeat' (first | with_reducible refine W.seq ?_ | with_reducible refine W.block ?_ | ((first | with_reducible refine W.reg ?_ | with_reducible refine W.skip ?_ | with_reducible refine W.exit ?_ | with_reducible refine W.ret ?_ | with_reducible refine W.ifc ?_ | ((first | with_reducible refine wG_decE (fun _ hG => ?_) (fun _ hG => ?_) | with_reducible refine wG_decFE (fun _ hG => ?_) (fun _ hG => ?_)) <;> (try simp -dsimp only [hG, decide_true, decide_false, not_true_eq_false, not_false_eq_true]) <;> clear hG)) <;> (try simp -dsimp (disch := first | omega | (simp only [go_sem]; omega)) only [go_sem, seval, Nat.reduceEqDiff, Nat.reduceLeDiff])) | simp -dsimp (disch := first | omega | (simp only [go_sem]; omega)) only [go_sem, seval, Nat.reduceEqDiff, Nat.reduceLeDiff]))
   · refine Fin.p rfl (bF fun e => ?_)
     subst e
     simp at *
   · refine ⟨_, _, ?_, st_le (by (simp -dsimp (disch := first | omega | (simp only [go_sem]; omega)) only [go_sem, seval, Nat.reduceEqDiff, Nat.reduceLeDiff] <;> ((repeat' apply And.intro) <;> first | exact VLe.refl _ | (apply vle_int; omega) | (apply vle_int; simp; done) | exact VLe.own _ _ | exact VLe.nilown _ | exact VLe.norm _))), k + 1, ?_, rfl, fun j hj hj2 hlt => ?_, rfl⟩
     · omega
     · omega
     · by_cases e : j = k
       · subst e; simp_all
       · exact hlo j hj hj2 (by omega)
 · obtain rfl : k = a.length := by omega
   (repeat (first | with_reducible refine W.seq ?_ | with_reducible refine W.block ?_ | ((first | with_reducible refine W.reg ?_ | with_reducible refine W.skip ?_ | with_reducible refine W.exit ?_ | with_reducible refine W.ret ?_ | with_reducible refine W.ifc ?_); simp -dsimp (disch := first | omega | (simp only [go_sem]; omega)) only [go_sem, seval, Nat.reduceEqDiff, Nat.reduceLeDiff])))
   exact Fin.p rfl (bT (list_ext_up hlen fun j h1 h2 => hlo j h1 h2 h1))
theorem SameList_ok (a b : List Int) (hl : a.length ≤ 100000) (hl2 : b.length ≤ 100000) : CallP Try.prog f_quietusref37_SameList [.list (a.map eI), .list (b.map eI)] (· = .d (.bool (decide (a = b)))) := by
 refine callP_of_W fol quietusref37_SameList_cp ?_
 simp -dsimp (disch := first | omega | (simp only [go_sem]; omega)) only [go_sem, seval, Nat.reduceEqDiff, Nat.reduceLeDiff]
 (repeat' (first | with_reducible refine W.seq ?_ | with_reducible refine W.block ?_ | ((first | with_reducible refine W.reg ?_ | with_reducible refine W.skip ?_ | with_reducible refine W.exit ?_ | with_reducible refine W.ret ?_ | with_reducible refine W.ifc ?_ | ((first | with_reducible refine wG_decE (fun _ hG => ?_) (fun _ hG => ?_) | with_reducible refine wG_decFE (fun _ hG => ?_) (fun _ hG => ?_)) <;> (try simp -dsimp only [hG, decide_true, decide_false, not_true_eq_false, not_false_eq_true]) <;> clear hG)) <;> (try simp -dsimp (disch := first | omega | (simp only [go_sem]; omega)) only [go_sem, seval, Nat.reduceEqDiff, Nat.reduceLeDiff])) | simp -dsimp (disch := first | omega | (simp only [go_sem]; omega)) only [go_sem, seval, Nat.reduceEqDiff, Nat.reduceLeDiff]))
 · exact Fin.p rfl (bF fun e => by subst e; omega)
 have hlen : a.length = b.length := by omega
 refine W.loop (fun n st => ∃ k, k ≤ a.length ∧ n = a.length - k ∧ (∀ j (h1 : j < a.length) (h2 : j < b.length), j < k → a[j] = b[j]) ∧
  st = (E [(0, .d (.list (a.map eI))), (1, .d (.list (b.map eI))), (5, .d (.int .i64 k))], HB [], [], noGh))
  ⟨_, _, st_le (by (simp -dsimp (disch := first | omega | (simp only [go_sem]; omega)) only [go_sem, seval, Nat.reduceEqDiff, Nat.reduceLeDiff] <;> ((repeat' apply And.intro) <;> first | exact VLe.refl _ | (apply vle_int; omega) | (apply vle_int; simp; done) | exact VLe.own _ _ | exact VLe.nilown _ | exact VLe.norm _))), 0, by omega, rfl, fun _ _ _ h => by omega, rfl⟩ ?_
 rintro n st ⟨k, hk, rfl, hlo, rfl⟩
 (repeat (first | with_reducible refine W.seq ?_ | with_reducible refine W.block ?_ | ((first | with_reducible refine W.reg ?_ | with_reducible refine W.skip ?_ | with_reducible refine W.exit ?_ | with_reducible refine W.ret ?_ | with_reducible refine W.ifc ?_); simp -dsimp (disch := first | omega | (simp only [go_sem]; omega)) only [go_sem, seval, Nat.reduceEqDiff, Nat.reduceLeDiff])))
 refine wG_dec (fun h1 => ?_) (fun h1 => ?_)
 · have hk' : k < a.length := by omega
   have hk2 : k < b.length := by omega
   (repeat' (first | with_reducible refine W.seq ?_ | with_reducible refine W.block ?_ | ((first | with_reducible refine W.reg ?_ | with_reducible refine W.skip ?_ | with_reducible refine W.exit ?_ | with_reducible refine W.ret ?_ | with_reducible refine W.ifc ?_ | ((first | with_reducible refine wG_decE (fun _ hG => ?_) (fun _ hG => ?_) | with_reducible refine wG_decFE (fun _ hG => ?_) (fun _ hG => ?_)) <;> (try simp -dsimp only [hG, decide_true, decide_false, not_true_eq_false, not_false_eq_true]) <;> clear hG)) <;> (try simp -dsimp (disch := first | omega | (simp only [go_sem]; omega)) only [go_sem, seval, Nat.reduceEqDiff, Nat.reduceLeDiff])) | simp -dsimp (disch := first | omega | (simp only [go_sem]; omega)) only [go_sem, seval, Nat.reduceEqDiff, Nat.reduceLeDiff]))
   · refine Fin.p rfl (bF fun e => ?_)
     subst e
     simp at *
   · refine ⟨_, _, ?_, st_le (by (simp -dsimp (disch := first | omega | (simp only [go_sem]; omega)) only [go_sem, seval, Nat.reduceEqDiff, Nat.reduceLeDiff] <;> ((repeat' apply And.intro) <;> first | exact VLe.refl _ | (apply vle_int; omega) | (apply vle_int; simp; done) | exact VLe.own _ _ | exact VLe.nilown _ | exact VLe.norm _))), k + 1, ?_, rfl, fun j hj hj2 hlt => ?_, rfl⟩
     · omega
     · omega
     · by_cases e : j = k
       · subst e; simp_all
       · exact hlo j hj hj2 (by omega)
 · obtain rfl : k = a.length := by omega
   (repeat (first | with_reducible refine W.seq ?_ | with_reducible refine W.block ?_ | ((first | with_reducible refine W.reg ?_ | with_reducible refine W.skip ?_ | with_reducible refine W.exit ?_ | with_reducible refine W.ret ?_ | with_reducible refine W.ifc ?_); simp -dsimp (disch := first | omega | (simp only [go_sem]; omega)) only [go_sem, seval, Nat.reduceEqDiff, Nat.reduceLeDiff])))
   exact Fin.p rfl (bT (list_ext_up hlen fun j h1 h2 => hlo j h1 h2 h1))
def fewL (l : Lt) (n : Int) : Prop := ¬ (n < l.cks.length) ∧ ¬ (n < l.obs.length) ∧ ∀ o ∈ l.obs, o.chunks.length ≤ 60
instance (l : Lt) (n : Int) : Decidable (fewL l n) := by unfold fewL; infer_instance
end Go.Proofs.Ytbcnnomgfheaoaa
/-
 Layer 37 (chunk), continued: what a valid lot is, by the specification.
 Conditions: of each contract as it says.
-/
namespace Go.Proofs.Ytbcnnomgfheaoaa
open Go Go.E2 C37
set_option linter.unusedSimpArgs false
end Go.Proofs.Ytbcnnomgfheaoaa
/-
 Layer 37 (chunk), continued: what a valid lot is, by the specification.
 Conditions: of each contract as it says.
-/
namespace Go.Proofs.Ytbcnnomgfheaoaa
open Go Go.E2 C37
set_option linter.unusedSimpArgs false
end Go.Proofs.Ytbcnnomgfheaoaa
