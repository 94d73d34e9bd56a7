/-
  Layer 42 (cache), in plain mathematics: what operations keep.
  Conditions: none; definitions and laws.
-/
import Derived.Test.YtpooocblijlabaaS42d
namespace C42
theorem putL_length1 (l : List Kept) (x : Kept) : (putL l x).length ≤ l.length + 1 := by
  have h : ∀ l : List Kept, (l.filter fun y => decide (before y x)).length + (l.filter fun y => decide (before x y)).length ≤ l.length := fun l => by
    induction l with
    | nil => simp
    | cons a l ih =>
      by_cases h1 : before a x
      · have h2 := before_asymm h1
        simp only [List.filter_cons, h1, h2, decide_true, decide_false, if_true, Bool.false_eq_true, if_false, List.length_cons]; omega
      · by_cases h2 : before x a
        · simp only [List.filter_cons, h1, h2, decide_true, decide_false, if_true, Bool.false_eq_true, if_false, List.length_cons]; omega
        · simp only [List.filter_cons, h1, h2, decide_false, Bool.false_eq_true, if_false, List.length_cons]; omega
  have := h l
  simp only [putL, List.length_append, List.length_singleton]; omega
theorem evict_length (room : Int) (x : Kept) : ∀ (n : Nat) (l : List Kept), (evict room x n l).1.length ≤ l.length
  | 0, l => Nat.le_refl _
  | n + 1, l => by
    unfold evict
    split
    · exact Nat.le_trans (evict_length room x n _) (by rw [List.length_eraseIdx]; split <;> omega)
    · exact Nat.le_refl _
theorem tick_length (c : Cache) (n : Int) : (tick c n).1.items.length ≤ c.items.length := by
  unfold tick; repeat' split
  all_goals first | exact Nat.le_refl _ | exact List.length_filter_le _ _
theorem forget_length (c : Cache) (n : Int) : (forget c n).1.items.length ≤ c.items.length := by
  unfold forget; split
  · exact Nat.le_refl _
  · exact List.length_filter_le _ _
theorem getC_length (c : Cache) (o n f : Int) : (getC c o n f).2.1.items.length = c.items.length := by
  unfold getC; repeat' split
  all_goals simp
theorem putC_length (c : Cache) (k : Kept) : (putC c k).1.items.length ≤ c.items.length + 1 := by
  unfold putC; repeat' split
  all_goals first | exact Nat.le_succ _ | exact Nat.le_trans (evict_length _ _ _ _) (putL_length1 _ _)
theorem doC_length (c : Cache) (o : Op) : (doC c o).c.items.length ≤ c.items.length + 1 := by
  have h1 := tick_length c o.n
  have h2 := forget_length c o.k.object
  have h3 := getC_length c o.k.object o.k.chunk o.n
  have h4 := putC_length c o.k
  unfold doC; repeat' split
  all_goals simp only; omega
theorem evict_out_length (room : Int) (x : Kept) : ∀ (n : Nat) (l : List Kept), (evict room x n l).2.length ≤ n
  | 0, l => Nat.le_refl _
  | n + 1, l => by
    unfold evict
    split
    · simp only [List.length_cons]; have := evict_out_length room x n (l.eraseIdx (oldest l x)); omega
    · simp
theorem doC_out (c : Cache) (o : Op) : (doC c o).out.length ≤ c.items.length + 1 := by
  have h : (putC c o.k).2.1.length ≤ c.items.length + 1 := by
    unfold putC; repeat' split
    all_goals first | exact Nat.zero_le _ | exact Nat.le_trans (evict_out_length _ _ _ _) (putL_length1 _ _)
  unfold doC; repeat' split
  all_goals first | exact h | exact Nat.zero_le _
end C42
