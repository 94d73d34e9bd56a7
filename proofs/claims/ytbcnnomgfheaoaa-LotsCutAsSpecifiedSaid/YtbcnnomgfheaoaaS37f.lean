/-
  Layer 37 (chunk): laws about cutting.
  Conditions: of each law as it says; no program in sight.
-/
import Derived.Test.YtbcnnomgfheaoaaS37e
namespace C37
theorem cutN_flat {c : Ct} {s : Str} : ∀ (n k f : Nat), k + n = s.length → f ≤ k → (n = 0 → f = k) → (cutN c s n k f).flatten = s.drop f
  | 0, k, f, hn, _, h0 => by
    have := h0 rfl
    rw [cutN, List.flatten_nil, List.drop_of_length_le (by omega)]
  | n + 1, k, f, hn, hf, _ => by
    simp only [cutN]
    by_cases hc : cutHere c s f k
    · rw [if_pos hc, List.flatten_cons, cutN_flat n (k + 1) (k + 1) (by omega) (Nat.le_refl _) (fun _ => rfl)]
      have e1 : s.drop f = (s.take (k + 1) ++ s.drop (k + 1)).drop f := by rw [List.take_append_drop]
      rw [e1, List.drop_append_of_le_length (by rw [List.length_take]; omega)]
    · rw [if_neg hc]
      refine cutN_flat n (k + 1) f (by omega) (by omega) (fun h => ?_)
      exfalso; apply hc; unfold cutHere; omega
theorem cutL_flat (c : Ct) (s : Str) : (cutL c s).flatten = s := by
  unfold cutL
  rw [cutN_flat s.length 0 0 (by omega) (Nat.le_refl _) (fun _ => rfl), List.drop_zero]
theorem cutN_sizes {c : Ct} {s : Str} (hc : okC c) : ∀ (n k f : Nat), k + n = s.length → f ≤ k → ((k : Int) - f < c.mx) → ∀ (j : Nat) (h : j < (cutN c s n k f).length), 1 ≤ ((cutN c s n k f)[j]).length ∧ (((cutN c s n k f)[j]).length : Int) ≤ c.mx ∧ (j + 1 < (cutN c s n k f).length → c.mn ≤ ((cutN c s n k f)[j]).length)
  | 0, k, f, _, _, _, j, h => by simp [cutN] at h
  | n + 1, k, f, hn, hf, hm, j, h => by
    unfold okC at hc
    by_cases hh : cutHere c s f k
    · have e : cutN c s (n + 1) k f = ((s.take (k + 1)).drop f) :: cutN c s n (k + 1) (k + 1) := by simp only [cutN]; rw [if_pos hh]
      have hl : ((s.take (k + 1)).drop f).length = k + 1 - f := by rw [List.length_drop, List.length_take]; omega
      cases j with
      | zero =>
        simp only [e, List.getElem_cons_zero, List.length_cons, hl]
        refine ⟨by omega, by omega, fun hj => ?_⟩
        unfold cutHere at hh
        rcases hh with hh | hh | hh
        · omega
        · omega
        · have : n = 0 := by omega
          subst this; simp [cutN] at hj
      | succ j =>
        have ih := cutN_sizes (c := c) (s := s) hc n (k + 1) (k + 1) (by omega) (Nat.le_refl _) (by omega) j (by simp only [e, List.length_cons] at h; omega)
        simp only [e, List.getElem_cons_succ, List.length_cons]
        exact ⟨ih.1, ih.2.1, fun hj => ih.2.2 (by omega)⟩
    · have e : cutN c s (n + 1) k f = cutN c s n (k + 1) f := by simp only [cutN]; rw [if_neg hh]
      have hne : ¬ (k : Int) + 1 - f = c.mx := fun h => hh (.inr (.inl h))
      simp only [e] at h ⊢
      exact cutN_sizes hc n (k + 1) f (by omega) (by omega) (by omega) j h
theorem cutL_sizes {c : Ct} {s : Str} (hc : okC c) (j : Nat) (h : j < (cutL c s).length) : 1 ≤ ((cutL c s)[j]).length ∧ (((cutL c s)[j]).length : Int) ≤ c.mx ∧ (j + 1 < (cutL c s).length → c.mn ≤ ((cutL c s)[j]).length) :=
  cutN_sizes hc s.length 0 0 (by omega) (Nat.le_refl _) (by unfold okC at hc; omega) j h
end C37
