/-
 Layer 37 (chunk), continued: the specification's adding of an object.
 Conditions: of each contract as it says.
-/
import Derived.Test.YtbcnnomgfheaoaaF37q
namespace Go.Proofs.Ytbcnnomgfheaoaa
open Go Go.E2 C37
set_option linter.unusedSimpArgs false
set_option maxHeartbeats 2000000
theorem place_lt {l : List Ob} {n : Int} {j : Nat} (hj : j < l.length) (h : l.Pairwise fun a b => a.id < b.id) : l[j].id < n ↔ j < place n l := by
 have key : ∀ (l : List Ob), (l.Pairwise fun a b => a.id < b.id) → ∀ j (hj : j < l.length), (l[j].id < n ↔ j < place n l) := by
  intro l
  induction l with
  | nil => intro _ j hj; simp at hj
  | cons a l ih =>
   intro h j hj
   rw [List.pairwise_cons] at h
   unfold place
   rw [List.takeWhile_cons]
   by_cases ha : a.id < n
   · simp only [ha, decide_true, if_true, List.length_cons]
     cases j with
     | zero => simp [ha]
     | succ j =>
      have := ih h.2 j (by simpa using hj)
      unfold place at this
      simp only [List.getElem_cons_succ]
      omega
   · simp only [ha, decide_false, Bool.false_eq_true, if_false, List.length_nil]
     cases j with
     | zero => simp [ha]
     | succ j =>
      have hj' : j < l.length := by simpa using hj
      have h2 := h.1 l[j] (List.getElem_mem hj')
      simp only [List.getElem_cons_succ]
      omega
 exact key l h j hj
end Go.Proofs.Ytbcnnomgfheaoaa
