/-
  Layer 42 (cache), in plain mathematics: getting, and how the specification puts.
  Conditions: none; definitions and laws.
-/
import Derived.Test.YtpooocblijlabaaS42
namespace C42
theorem findFrom_is (o c : Int) : ∀ (l : List Kept) (n : Nat), (findFrom o c n l = -1 ∧ ∀ k ∈ l, ¬ (k.object = o ∧ k.chunk = c)) ∨ ∃ (i : Nat) (h : i < l.length), findFrom o c n l = (n + i : Nat) ∧ (l[i]).object = o ∧ (l[i]).chunk = c
  | [], n => .inl ⟨rfl, fun k h => by cases h⟩
  | k :: l, n => by
    rw [findFrom]
    by_cases h : k.object = o ∧ k.chunk = c
    · rw [if_pos h]; exact .inr ⟨0, by simp, by simp, h⟩
    · rw [if_neg h]
      rcases findFrom_is o c l (n + 1) with ⟨h1, h2⟩ | ⟨i, hi, h1, h2⟩
      · exact .inl ⟨h1, fun x hx => by rcases List.mem_cons.1 hx with rfl | hx; exact h; exact h2 x hx⟩
      · exact .inr ⟨i + 1, by simpa using hi, by rw [h1]; congr 1; omega, h2⟩
theorem findAt_is (o c : Int) (l : List Kept) : (findAt o c l 0 = -1 ∧ ∀ k ∈ l, ¬ (k.object = o ∧ k.chunk = c)) ∨ ∃ (i : Nat) (h : i < l.length), findAt o c l 0 = i ∧ (l[i]).object = o ∧ (l[i]).chunk = c := by
  have := findFrom_is o c l 0
  simpa [findAt] using this
theorem same_uniq {l : List Kept} (ho : l.Pairwise before) {i j : Nat} (hi : i < l.length) (hj : j < l.length) (h : same l[i] l[j]) : i = j := by
  rcases Nat.lt_trichotomy i j with h1 | h1 | h1
  · exact absurd (pairwise_get ho hj h1) (same_irr h)
  · exact h1
  · have := pairwise_get ho hi h1
    exact absurd (show same l[j] l[i] from ⟨h.1.symm, h.2.symm⟩) (before_not_same this)
theorem found_find {l : List Kept} {o n : Int} {i : Nat} (hr : ∀ k ∈ l, inr k) (ho : l.Pairwise before) (hp : inr ⟨o, n, 0, [], 0, 0, 0⟩ → PosIs l ⟨o, n, 0, [], 0, 0, 0⟩ i) :
    (foundAt l ⟨o, n, 0, [], 0, 0, 0⟩ i = true ∧ i < l.length ∧ findAt o n l 0 = i) ∨ (foundAt l ⟨o, n, 0, [], 0, 0, 0⟩ i = false ∧ findAt o n l 0 = -1) := by
  cases h : foundAt l ⟨o, n, 0, [], 0, 0, 0⟩ i with
  | true =>
    left
    unfold foundAt at h
    split at h
    · rename_i y hy
      obtain ⟨h1, rfl⟩ := List.getElem?_eq_some_iff.1 hy
      have hs := of_decide_eq_true h
      refine ⟨rfl, h1, ?_⟩
      rcases findAt_is o n l with ⟨_, h3⟩ | ⟨j, hj, h2, h3⟩
      · exact absurd hs (h3 _ (List.getElem_mem h1))
      · rw [h2, same_uniq ho hj h1 ⟨h3.1.trans hs.1.symm, h3.2.trans hs.2.symm⟩]
    · cases h
  | false =>
    right
    refine ⟨rfl, ?_⟩
    rcases findAt_is o n l with ⟨h1, _⟩ | ⟨j, hj, h2, h3⟩
    · exact h1
    · have hin : inr ⟨o, n, 0, [], 0, 0, 0⟩ := by
        have := hr _ (List.getElem_mem hj)
        unfold inr at this ⊢
        simp only
        rw [← h3.1, ← h3.2]; exact this
      obtain rfl := (hp hin).same ho hj ⟨h3.1, h3.2⟩
      unfold foundAt at h
      rw [List.getElem?_eq_getElem hj] at h
      exact absurd (show same l[j] ⟨o, n, 0, [], 0, 0, 0⟩ from ⟨h3.1, h3.2⟩) (of_decide_eq_false h)
def getC (c : Cache) (o n fresh : Int) : List UInt8 × Cache × Int :=
  if chk c ≠ 0 then ([], c, chk c) else if findAt o n c.items 0 < 0 then ([], c, 8)
  else if fresh < c.now - ((c.items[(findAt o n c.items 0).toNat]?).getD default).since then ([], c, 15)
  else (((c.items[(findAt o n c.items 0).toNat]?).getD default).bytes, ⟨c.room, c.now, c.items.set (findAt o n c.items 0).toNat (used ((c.items[(findAt o n c.items 0).toNat]?).getD default) c.now)⟩, 0)
/-- What the specification has built after some items: is 'x' in? -/
def doneTo (l : List Kept) (x : Kept) (n : Nat) : Bool := (l.take n).any fun y => decide (¬ before y x)
def builtTo (l : List Kept) (x : Kept) (n : Nat) : List Kept :=
  (l.take n).filter (fun y => decide (before y x)) ++ (if doneTo l x n then [x] else []) ++ (l.take n).filter (fun y => decide (before x y))
theorem doneTo_succ (l : List Kept) (x : Kept) (n : Nat) (h : n < l.length) : doneTo l x (n + 1) = (doneTo l x n || decide (¬ before l[n] x)) := by
  unfold doneTo; rw [List.take_succ_eq_append_getElem h, List.any_append]; simp
theorem built_end (l : List Kept) (x : Kept) : builtTo l x l.length ++ (if doneTo l x l.length then [] else [x]) = putL l x := by
  unfold builtTo putL doneTo
  rw [List.take_length]
  split
  · rw [List.append_nil]
  · rename_i h
    have hn : l.filter (fun y => decide (before x y)) = [] := by
      rw [List.filter_eq_nil_iff]
      intro a ha hb
      refine h (List.any_eq_true.2 ⟨a, ha, decide_eq_true (before_asymm (of_decide_eq_true hb))⟩)
    rw [hn, List.append_nil, List.append_nil, List.append_nil]
/-- A round: 'at' is the place of the one of x's kind. -/
theorem built_succ {l : List Kept} {x : Kept} {n : Nat} (ho : l.Pairwise before) (h : n < l.length) {at_ : Int} (ha : at_ = findAt x.object x.chunk l 0) :
    builtTo l x (n + 1) = builtTo l x n ++ (if doneTo l x n = false ∧ ((n : Int) = at_ ∨ before x l[n]) then [x] else []) ++ (if (n : Int) = at_ then [] else [l[n]]) ∧
    doneTo l x (n + 1) = (doneTo l x n || decide ((n : Int) = at_ ∨ before x l[n])) := by
  have hat : ((n : Int) = at_) ↔ same l[n] x := by
    rw [ha]
    rcases findAt_is x.object x.chunk l with ⟨h1, h2⟩ | ⟨i, hi, h1, h2⟩
    · rw [h1]
      exact ⟨fun h => by omega, fun h => absurd h (h2 _ (List.getElem_mem _))⟩
    · rw [h1]
      constructor
      · intro e
        obtain rfl : n = i := by omega
        exact h2
      · intro hs
        rw [same_uniq ho h hi ⟨hs.1.trans h2.1.symm, hs.2.trans h2.2.symm⟩]
  have hnb : ((n : Int) = at_ ∨ before x l[n]) ↔ ¬ before l[n] x := by
    rw [hat]
    constructor
    · rintro (h | h)
      · exact same_irr h
      · exact before_asymm h
    · intro h
      by_cases h2 : same l[n] x
      · exact .inl h2
      · exact .inr (tri h h2)
  have hd := doneTo_succ l x n h
  refine ⟨?_, by rw [hd]; congr 1; exact decide_eq_decide.2 hnb.symm⟩
  have hf1 := List.filter_append (l.take n) [l[n]] (p := fun y => decide (before y x))
  have hf2 := List.filter_append (l.take n) [l[n]] (p := fun y => decide (before x y))
  unfold builtTo
  rw [hd, List.take_succ_eq_append_getElem h, hf1, hf2]
  by_cases hb : before l[n] x
  · have h1 : doneTo l x n = false := by
      unfold doneTo
      rw [Bool.eq_false_iff]
      intro hc
      obtain ⟨y, hy, hyb⟩ := List.any_eq_true.1 hc
      obtain ⟨m, hm, rfl⟩ := List.getElem_of_mem hy
      rw [List.length_take] at hm
      rw [List.getElem_take] at hyb
      exact of_decide_eq_true hyb (before_trans (pairwise_get ho h (by omega)) hb)
    have h2 : (l.take n).filter (fun y => decide (before x y)) = [] := by
      rw [List.filter_eq_nil_iff]
      intro a ha hc
      unfold doneTo at h1
      rw [List.any_eq_false] at h1
      exact h1 a ha (decide_eq_true (before_asymm (of_decide_eq_true hc)))
    have h3 : ¬ ((n : Int) = at_) := fun e => absurd (hat.1 e) (before_not_same hb)
    have h4 : ¬ before x l[n] := before_asymm hb
    simp [h1, h2, h3, h4, hb]
  · by_cases hs : same l[n] x
    · have h3 : (n : Int) = at_ := hat.2 hs
      have h4 : ¬ before x l[n] := by unfold same at hs; unfold before; omega
      have h2 : doneTo l x n = false := by
        unfold doneTo
        rw [Bool.eq_false_iff]
        intro hc
        obtain ⟨y, hy, hyb⟩ := List.any_eq_true.1 hc
        obtain ⟨m, hm, rfl⟩ := List.getElem_of_mem hy
        rw [List.length_take] at hm
        rw [List.getElem_take] at hyb
        exact of_decide_eq_true hyb ((same_before hs).1 (pairwise_get ho h (by omega)))
      have h5 : (l.take n).filter (fun y => decide (before x y)) = [] := by
        rw [List.filter_eq_nil_iff]
        intro a ha hc
        unfold doneTo at h2
        rw [List.any_eq_false] at h2
        exact h2 a ha (decide_eq_true (before_asymm (of_decide_eq_true hc)))
      simp [h2, h3, h4, hb, h5]
    · have h3 : ¬ ((n : Int) = at_) := fun e => hs (hat.1 e)
      have h4 : before x l[n] := tri hb hs
      by_cases h1 : doneTo l x n = true
      · simp [h1, h3, h4, hb]
      · rw [Bool.not_eq_true] at h1
        have h2 : (l.take n).filter (fun y => decide (before x y)) = [] := by
          rw [List.filter_eq_nil_iff]
          intro a ha hc
          unfold doneTo at h1
          rw [List.any_eq_false] at h1
          exact h1 a ha (decide_eq_true (before_asymm (of_decide_eq_true hc)))
        simp [h1, h2, h3, h4, hb]
theorem built_succB {l : List Kept} {x : Kept} {n : Nat} (ho : l.Pairwise before) (h : n < l.length) {at_ : Int} (ha : at_ = findAt x.object x.chunk l 0) :
    builtTo l x (n + 1) = builtTo l x n ++ (if (!doneTo l x n && (decide ((n : Int) = at_) || decide (before x l[n]))) = true then [x] else []) ++ (if decide ((n : Int) = at_) = true then [] else [l[n]]) ∧
    doneTo l x (n + 1) = (doneTo l x n || (decide ((n : Int) = at_) || decide (before x l[n]))) := by
  obtain ⟨h1, h2⟩ := built_succ ho h ha
  rw [h1, h2]
  refine ⟨?_, by simp⟩
  congr 1
  · congr 1
    simp
  · simp
theorem built_zero (l : List Kept) (x : Kept) : builtTo l x 0 = [] ∧ doneTo l x 0 = false := by simp [builtTo, doneTo]
theorem built_length (l : List Kept) (x : Kept) (n : Nat) : (builtTo l x n).length ≤ 2 * l.length + 1 := by
  have h1 := List.length_filter_le (fun y => decide (before y x)) (l.take n)
  have h2 := List.length_filter_le (fun y => decide (before x y)) (l.take n)
  have h3 := List.length_take_le' n l
  unfold builtTo
  simp only [List.length_append]
  split <;> simp only [List.length_singleton, List.length_nil] <;> omega
theorem stale_find {l : List Kept} {k : Kept} (ho : l.Pairwise before) : stale l k = true ↔ ∃ (i : Nat) (h : i < l.length), findAt k.object k.chunk l 0 = i ∧ (k.version < (l[i]).version ∨ ((l[i]).version = k.version ∧ k.since < (l[i]).since)) := by
  unfold stale
  rw [List.any_eq_true]
  constructor
  · rintro ⟨y, hy, hp⟩
    have hp := of_decide_eq_true hp
    obtain ⟨m, hm, rfl⟩ := List.getElem_of_mem hy
    rcases findAt_is k.object k.chunk l with ⟨_, h2⟩ | ⟨i, hi, h1, h2⟩
    · exact absurd hp.1 (h2 _ hy)
    · obtain rfl := same_uniq ho hm hi ⟨hp.1.1.trans h2.1.symm, hp.1.2.trans h2.2.symm⟩
      exact ⟨m, hm, h1, hp.2⟩
  · rintro ⟨i, hi, h1, h2⟩
    rcases findAt_is k.object k.chunk l with ⟨h3, _⟩ | ⟨j, hj, h3, h4⟩
    · omega
    · obtain rfl : i = j := by omega
      exact ⟨l[i], List.getElem_mem hi, decide_eq_true ⟨h4, h2⟩⟩
/-- An operation. -/
structure Op where
  kind : Int
  n : Int
  k : Kept
def doC (c : Cache) (o : Op) : Made :=
  if o.kind % 4 = 0 then ⟨(tick c o.n).1, [], [], 0, (tick c o.n).2⟩
  else if o.kind % 4 = 1 then ⟨(putC c o.k).1, (putC c o.k).2.1, [], 0, (putC c o.k).2.2⟩
  else if o.kind % 4 = 2 then ⟨(getC c o.k.object o.k.chunk o.n).2.1, [], (getC c o.k.object o.k.chunk o.n).1, 0, (getC c o.k.object o.k.chunk o.n).2.2⟩
  else ⟨(forget c o.k.object).1, [], [], (forget c o.k.object).2.1, (forget c o.k.object).2.2⟩
end C42
/-
  Layer 42 (cache), in plain mathematics: the example.
  Conditions: none; definitions and laws.
-/
namespace C42
def xA (u : Int) : Kept := ⟨1, 0, 1, [97, 98, 99, 100], 0, 9, u⟩
def xB : Kept := ⟨1, 1, 1, [101, 102, 103, 104], 0, 5, 0⟩
def xC (u : Int) : Kept := ⟨2, 0, 1, [105, 106, 107, 108], 2, 9, u⟩
theorem x_new : newC 10 = ⟨10, 0, []⟩ ∧ newE 10 = 0 := by decide
theorem x1 : putC ⟨10, 0, []⟩ (xA 0) = (⟨10, 0, [xA 0]⟩, [], 0) := by decide
theorem x2 : putC ⟨10, 0, [xA 0]⟩ xB = (⟨10, 0, [xA 0, xB]⟩, [], 0) := by decide
theorem x3 : tick ⟨10, 0, [xA 0, xB]⟩ 2 = (⟨10, 2, [xA 0, xB]⟩, 0) := by decide
theorem x4 : getC ⟨10, 2, [xA 0, xB]⟩ 1 0 3 = ([97, 98, 99, 100], ⟨10, 2, [xA 2, xB]⟩, 0) := by decide
theorem x5 : putC ⟨10, 2, [xA 2, xB]⟩ (xC 0) = (⟨10, 2, [xA 2, xC 2]⟩, [xB], 0) := by decide
theorem x6 : chk ⟨10, 2, [xA 2, xC 2]⟩ = 0 := by decide
theorem x7 : putC ⟨10, 2, [xA 2, xC 2]⟩ ⟨1, 0, 0, [120], 2, 9, 0⟩ = (⟨10, 2, [xA 2, xC 2]⟩, [], 15) := by decide
theorem x8 : putC ⟨10, 2, [xA 2, xC 2]⟩ ⟨1, 0, 2, [97, 98, 99, 100, 101, 102, 103, 104, 105, 106, 107], 2, 9, 0⟩ = (⟨10, 2, [xA 2, xC 2]⟩, [], 13) := by decide
theorem x9 : putC ⟨10, 2, [xA 2, xC 2]⟩ ⟨1, 0, 2, [120], 1, 1, 0⟩ = (⟨10, 2, [xA 2, xC 2]⟩, [], 18) := by decide
theorem x10 : getC ⟨10, 2, [xA 2, xC 2]⟩ 1 0 1 = ([], ⟨10, 2, [xA 2, xC 2]⟩, 15) := by decide
theorem x11 : getC ⟨10, 2, [xA 2, xC 2]⟩ 1 1 9 = ([], ⟨10, 2, [xA 2, xC 2]⟩, 8) := by decide
theorem x12 : forget ⟨10, 2, [xA 2, xC 2]⟩ 1 = (⟨10, 2, [xC 2]⟩, 1, 0) := by decide
theorem x13 : tick ⟨10, 2, [xA 2, xC 2]⟩ 10 = (⟨10, 10, []⟩, 0) := by decide
theorem x14 : tick ⟨10, 10, []⟩ 9 = (⟨10, 10, []⟩, 15) := by decide
end C42
/-
  Layer 42 (cache), in plain mathematics: what operations keep.
  Conditions: none; definitions and laws.
-/
namespace C42
theorem putL_length1 (l : List Kept) (x : Kept) : (putL l x).length ≤ l.length + 1 := by
  have h : ∀ l : List Kept, (l.filter fun y => decide (before y x)).length + (l.filter fun y => decide (before x y)).length ≤ l.length := fun l => by
    induction l with
    | nil => simp
    | cons a l ih =>
      by_cases h1 : before a x
      · have h2 := before_asymm h1
        simp only [List.filter_cons, h1, h2, decide_true, decide_false, if_true, Bool.false_eq_true, if_false, List.length_cons]; omega
      · by_cases h2 : before x a
        · simp only [List.filter_cons, h1, h2, decide_true, decide_false, if_true, Bool.false_eq_true, if_false, List.length_cons]; omega
        · simp only [List.filter_cons, h1, h2, decide_false, Bool.false_eq_true, if_false, List.length_cons]; omega
  have := h l
  simp only [putL, List.length_append, List.length_singleton]; omega
theorem evict_length (room : Int) (x : Kept) : ∀ (n : Nat) (l : List Kept), (evict room x n l).1.length ≤ l.length
  | 0, l => Nat.le_refl _
  | n + 1, l => by
    unfold evict
    split
    · exact Nat.le_trans (evict_length room x n _) (by rw [List.length_eraseIdx]; split <;> omega)
    · exact Nat.le_refl _
theorem tick_length (c : Cache) (n : Int) : (tick c n).1.items.length ≤ c.items.length := by
  unfold tick; repeat' split
  all_goals first | exact Nat.le_refl _ | exact List.length_filter_le _ _
theorem forget_length (c : Cache) (n : Int) : (forget c n).1.items.length ≤ c.items.length := by
  unfold forget; split
  · exact Nat.le_refl _
  · exact List.length_filter_le _ _
theorem getC_length (c : Cache) (o n f : Int) : (getC c o n f).2.1.items.length = c.items.length := by
  unfold getC; repeat' split
  all_goals simp
theorem putC_length (c : Cache) (k : Kept) : (putC c k).1.items.length ≤ c.items.length + 1 := by
  unfold putC; repeat' split
  all_goals first | exact Nat.le_succ _ | exact Nat.le_trans (evict_length _ _ _ _) (putL_length1 _ _)
theorem doC_length (c : Cache) (o : Op) : (doC c o).c.items.length ≤ c.items.length + 1 := by
  have h1 := tick_length c o.n
  have h2 := forget_length c o.k.object
  have h3 := getC_length c o.k.object o.k.chunk o.n
  have h4 := putC_length c o.k
  unfold doC; repeat' split
  all_goals simp only; omega
theorem evict_out_length (room : Int) (x : Kept) : ∀ (n : Nat) (l : List Kept), (evict room x n l).2.length ≤ n
  | 0, l => Nat.le_refl _
  | n + 1, l => by
    unfold evict
    split
    · simp only [List.length_cons]; have := evict_out_length room x n (l.eraseIdx (oldest l x)); omega
    · simp
theorem doC_out (c : Cache) (o : Op) : (doC c o).out.length ≤ c.items.length + 1 := by
  have h : (putC c o.k).2.1.length ≤ c.items.length + 1 := by
    unfold putC; repeat' split
    all_goals first | exact Nat.zero_le _ | exact Nat.le_trans (evict_out_length _ _ _ _) (putL_length1 _ _)
  unfold doC; repeat' split
  all_goals first | exact h | exact Nat.zero_le _
end C42
