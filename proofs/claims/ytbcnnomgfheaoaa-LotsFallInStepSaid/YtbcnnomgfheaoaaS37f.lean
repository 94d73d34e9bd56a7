/-
  Layer 37 (chunk): laws about cutting.
  Conditions: of each law as it says; no program in sight.
-/
import Derived.Test.YtbcnnomgfheaoaaS37e
namespace C37
theorem cutN_flat {c : Ct} {s : Str} : ∀ (n k f : Nat), k + n = s.length → f ≤ k → (n = 0 → f = k) → (cutN c s n k f).flatten = s.drop f
  | 0, k, f, hn, _, h0 => by
    have := h0 rfl
    rw [cutN, List.flatten_nil, List.drop_of_length_le (by omega)]
  | n + 1, k, f, hn, hf, _ => by
    simp only [cutN]
    by_cases hc : cutHere c s f k
    · rw [if_pos hc, List.flatten_cons, cutN_flat n (k + 1) (k + 1) (by omega) (Nat.le_refl _) (fun _ => rfl)]
      have e1 : s.drop f = (s.take (k + 1) ++ s.drop (k + 1)).drop f := by rw [List.take_append_drop]
      rw [e1, List.drop_append_of_le_length (by rw [List.length_take]; omega)]
    · rw [if_neg hc]
      refine cutN_flat n (k + 1) f (by omega) (by omega) (fun h => ?_)
      exfalso; apply hc; unfold cutHere; omega
theorem cutL_flat (c : Ct) (s : Str) : (cutL c s).flatten = s := by
  unfold cutL
  rw [cutN_flat s.length 0 0 (by omega) (Nat.le_refl _) (fun _ => rfl), List.drop_zero]
theorem cutN_suffix {c : Ct} {s : Str} : ∀ (n k f i : Nat), f = k ∨ 0 < i → i ≤ (cutN c s n k f).length → ∃ p m, p + m = k + n ∧ (cutN c s n k f).drop i = cutN c s m p p
  | 0, k, f, i, h, hi => by
    simp only [cutN, List.length_nil] at hi
    exact ⟨k, 0, by omega, by simp [cutN]⟩
  | n + 1, k, f, i, h, hi => by
    cases i with
    | zero =>
      rcases h with rfl | h
      · exact ⟨f, n + 1, rfl, by rw [List.drop_zero]⟩
      · omega
    | succ i =>
      by_cases hh : cutHere c s f k
      · have e : cutN c s (n + 1) k f = ((s.take (k + 1)).drop f) :: cutN c s n (k + 1) (k + 1) := by simp only [cutN]; rw [if_pos hh]
        rw [e] at hi ⊢
        obtain ⟨p, m, h1, h2⟩ := cutN_suffix (c := c) (s := s) n (k + 1) (k + 1) i (.inl rfl) (by simpa using hi)
        exact ⟨p, m, by omega, by rw [List.drop_succ_cons]; exact h2⟩
      · have e : cutN c s (n + 1) k f = cutN c s n (k + 1) f := by simp only [cutN]; rw [if_neg hh]
        rw [e] at hi ⊢
        obtain ⟨p, m, h1, h2⟩ := cutN_suffix (c := c) (s := s) n (k + 1) f (i + 1) (.inr (by omega)) hi
        exact ⟨p, m, by omega, h2⟩
theorem atB_tail (a t : Str) {k : Int} (h : (a.length : Int) ≤ k) : atB (a ++ t) k = atB t (k - a.length) := by
  obtain ⟨k, rfl⟩ := Int.eq_ofNat_of_zero_le (by omega : 0 ≤ k)
  have h' : a.length ≤ k := by omega
  have e : ((k : Int) - a.length).toNat = k - a.length := by omega
  unfold atB
  rw [if_neg (by omega), if_neg (by omega), Int.toNat_natCast, e, List.getElem?_append_right h']
theorem cutN_tail {c : Ct} {a b t : Str} : ∀ (n k f : Nat) (d e : Nat), k = a.length + d → f = a.length + e → 3 ≤ d → e ≤ d → d + n = t.length → cutN c (a ++ t) n k f = cutN c (b ++ t) n (b.length + d) (b.length + e)
  | 0, _, _, _, _, _, _, _, _, _ => rfl
  | n + 1, k, f, d, e, hk, hf, hd, he, hn => by
    have hm : markB (a ++ t) k = markB (b ++ t) (b.length + d : Nat) := by
      unfold markB
      rw [atB_tail a t (by omega), atB_tail a t (by omega), atB_tail a t (by omega), atB_tail a t (by omega)]
      rw [atB_tail b t (by omega), atB_tail b t (by omega), atB_tail b t (by omega), atB_tail b t (by omega)]
      have e0 : (k : Int) - a.length = ((b.length + d : Nat) : Int) - b.length := by omega
      have e1 : (k : Int) - 1 - a.length = ((b.length + d : Nat) : Int) - 1 - b.length := by omega
      have e2 : (k : Int) - 2 - a.length = ((b.length + d : Nat) : Int) - 2 - b.length := by omega
      have e3 : (k : Int) - 3 - a.length = ((b.length + d : Nat) : Int) - 3 - b.length := by omega
      rw [e0, e1, e2, e3]
    have hcut : cutHere c (a ++ t) f k ↔ cutHere c (b ++ t) (b.length + e) (b.length + d) := by
      unfold cutHere
      rw [hm, List.length_append, List.length_append]
      have q1 : (k : Int) + 1 - f = ((b.length + d : Nat) : Int) + 1 - ((b.length + e : Nat) : Int) := by omega
      rw [q1]
      have q2 : (k + 1 = a.length + t.length) ↔ (b.length + d + 1 = b.length + t.length) := by omega
      rw [q2]
    have hpiece : ((a ++ t).take (k + 1)).drop f = ((b ++ t).take (b.length + d + 1)).drop (b.length + e) := by
      have r1 : (a ++ t).take (k + 1) = a ++ t.take (d + 1) := by
        rw [List.take_append, List.take_of_length_le (by omega)]; congr 2; omega
      have r2 : (b ++ t).take (b.length + d + 1) = b ++ t.take (d + 1) := by
        rw [List.take_append, List.take_of_length_le (by omega)]; congr 2; omega
      have r3 : ∀ (u v : Str) (i : Nat), (u ++ v).drop (u.length + i) = v.drop i := fun u v i => by
        rw [List.drop_append, List.drop_of_length_le (by omega), List.nil_append]; congr 1; omega
      rw [r1, r2, hf, r3, r3]
    simp only [cutN]
    by_cases hh : cutHere c (a ++ t) f k
    · rw [if_pos hh, if_pos (hcut.1 hh), hpiece, cutN_tail n (k + 1) (k + 1) (d + 1) (d + 1) (by omega) (by omega) (by omega) (Nat.le_refl _) (by omega)]
      rfl
    · rw [if_neg hh, if_neg (fun h => hh (hcut.2 h))]
      exact cutN_tail n (k + 1) f (d + 1) e (by omega) hf (by omega) (by omega) (by omega)
def sizeT (l : List Str) : Nat := (l.map (·.length)).sum
theorem sizeT_flat (l : List Str) : sizeT l = l.flatten.length := by
  unfold sizeT; rw [List.length_flatten]
theorem in_step {c : Ct} {a b t : Str} {i j : Nat} (hi : i ≤ (cutL c (a ++ t)).length) (hj : j ≤ (cutL c (b ++ t)).length) (he : sizeT ((cutL c (a ++ t)).drop i) = sizeT ((cutL c (b ++ t)).drop j)) (h4 : 4 + sizeT ((cutL c (a ++ t)).drop i) ≤ t.length) :
    (cutL c (a ++ t)).drop i = (cutL c (b ++ t)).drop j := by
  obtain ⟨p, m, h1, h2⟩ := cutN_suffix (c := c) (s := a ++ t) (a ++ t).length 0 0 i (.inl rfl) hi
  obtain ⟨q, n, h3, h5⟩ := cutN_suffix (c := c) (s := b ++ t) (b ++ t).length 0 0 j (.inl rfl) hj
  have e1 : (cutL c (a ++ t)).drop i = cutN c (a ++ t) m p p := h2
  have e2 : (cutL c (b ++ t)).drop j = cutN c (b ++ t) n q q := h5
  rw [e1] at he h4 ⊢
  rw [e2] at he ⊢
  rw [sizeT_flat, cutN_flat m p p (by omega) (Nat.le_refl _) (fun _ => rfl), List.length_drop] at he h4
  rw [sizeT_flat, cutN_flat n q q (by omega) (Nat.le_refl _) (fun _ => rfl), List.length_drop] at he
  simp only [List.length_append] at h1 h3 he h4
  have hmn : m = n := by omega
  subst hmn
  have := cutN_tail (c := c) (a := a) (b := b) (t := t) m p p (p - a.length) (p - a.length) (by omega) (by omega) (by omega) (Nat.le_refl _) (by omega)
  rw [this]
  have : b.length + (p - a.length) = q := by omega
  rw [this]
end C37
