/-
  Layer 42 (cache), in plain mathematics: putting and getting.
  Conditions: none; definitions and laws.
-/
import Derived.Test.YtpooocblijlabaaS42
namespace C42
/-- A list of items in order, with one put in its place. -/
def putL (l : List Kept) (x : Kept) : List Kept := l.filter (fun y => decide (before y x)) ++ [x] ++ l.filter (fun y => decide (before x y))
/-- Which of the first items but 'x' was used first; -1: none. -/
def oldTo (l : List Kept) (x : Kept) : Nat → Int
  | 0 => -1
  | n + 1 => match l[n]? with
    | none => oldTo l x n
    | some y => if ¬ same y x ∧ (oldTo l x n < 0 ∨ y.used < ((l[(oldTo l x n).toNat]?).getD default).used) then (n : Int) else oldTo l x n
def oldest (l : List Kept) (x : Kept) : Nat := (oldTo l x l.length).toNat
/-- What stays and what goes. -/
def evict (room : Int) (x : Kept) : Nat → List Kept → List Kept × List Kept
  | 0, l => (l, [])
  | n + 1, l => if room < tot l then ((evict room x n (l.eraseIdx (oldest l x))).1, (l[oldest l x]?).getD default :: (evict room x n (l.eraseIdx (oldest l x))).2) else (l, [])
def stale (l : List Kept) (k : Kept) : Bool := l.any fun y => decide (same y k ∧ (k.version < y.version ∨ (y.version = k.version ∧ k.since < y.since)))
def used (k : Kept) (now : Int) : Kept := { k with used := now }
def putC (c : Cache) (k : Kept) : Cache × List Kept × Int :=
  if chk c ≠ 0 then (c, [], chk c) else if ¬ right k c.now then (c, [], 1) else if k.last < c.now then (c, [], 18)
  else if stale c.items k then (c, [], 15) else if c.room < k.bytes.length then (c, [], 13)
  else (⟨c.room, c.now, (evict c.room (used k c.now) (putL c.items (used k c.now)).length (putL c.items (used k c.now))).1⟩, (evict c.room (used k c.now) (putL c.items (used k c.now)).length (putL c.items (used k c.now))).2, 0)
theorem same_before {a b c : Kept} (h : same b c) : before a b ↔ before a c := by unfold same before at *; omega
theorem same_irr {a b : Kept} (h : same a b) : ¬ before a b := by unfold same before at *; omega
theorem before_asymm {a b : Kept} (h : before a b) : ¬ before b a := by unfold before at *; omega
theorem before_not_same {a b : Kept} (h : before a b) : ¬ same a b := by unfold same before at *; omega
theorem tri {a b : Kept} (h1 : ¬ before a b) (h2 : ¬ same a b) : before b a := by unfold same before at *; omega
theorem PosIs.same {l : List Kept} {x : Kept} {i : Nat} (h : PosIs l x i) (ho : l.Pairwise before) {m : Nat} (hm : m < l.length) (hs : same l[m] x) : m = i := by
  rcases Nat.lt_trichotomy m i with h1 | h1 | h1
  · exact absurd (h.lo m hm h1) (same_irr hs)
  · exact h1
  · have h2 := pairwise_get ho hm h1
    exact absurd ((same_before hs).1 h2) (h.hi i (by omega) (Nat.le_refl _))
theorem PosIs.congr {l : List Kept} {x y : Kept} {i : Nat} (h : PosIs l x i) (hs : C42.same x y) : PosIs l y i := by
  unfold C42.same at hs
  refine ⟨h.le, fun m hm hlt => ?_, fun m hm hlt => ?_⟩
  · have := h.lo m hm hlt; unfold before at *; omega
  · have := h.hi m hm hlt; unfold before at *; omega
theorem stale_pos {l : List Kept} {k : Kept} {i : Nat} (h : PosIs l k i) (ho : l.Pairwise before) :
    stale l k = true ↔ ∃ h' : i < l.length, same l[i] k ∧ (k.version < (l[i]).version ∨ ((l[i]).version = k.version ∧ k.since < (l[i]).since)) := by
  unfold stale
  rw [List.any_eq_true]
  constructor
  · rintro ⟨y, hy, hp⟩
    have hp := of_decide_eq_true hp
    obtain ⟨m, hm, rfl⟩ := List.getElem_of_mem hy
    obtain rfl := h.same ho hm hp.1
    exact ⟨hm, hp⟩
  · rintro ⟨h', hp⟩
    exact ⟨l[i], List.getElem_mem h', decide_eq_true hp⟩
theorem filter_lo {l : List Kept} {x : Kept} {i : Nat} (h : PosIs l x i) : l.filter (fun y => decide (before y x)) = l.take i := by
  conv => lhs; rw [← List.take_append_drop i l]
  rw [List.filter_append, List.filter_eq_self.2, List.filter_eq_nil_iff.2, List.append_nil]
  · intro a ha
    obtain ⟨m, hm, rfl⟩ := List.getElem_of_mem ha
    simp only [List.length_drop] at hm
    simp only [List.getElem_drop, decide_eq_true_eq]
    exact h.hi _ (by omega) (by omega)
  · intro a ha
    obtain ⟨m, hm, rfl⟩ := List.getElem_of_mem ha
    simp only [List.length_take] at hm
    simp only [List.getElem_take, decide_eq_true_eq]
    exact h.lo _ (by omega) (by omega)
theorem filter_hi {l : List Kept} {x : Kept} {i j : Nat} (h : PosIs l x i) (hij : i ≤ j) (h1 : ∀ (m : Nat) (h : m < l.length), i ≤ m → m < j → same l[m] x) (h2 : ∀ (m : Nat) (h : m < l.length), j ≤ m → ¬ same l[m] x) : l.filter (fun y => decide (before x y)) = l.drop j := by
  conv => lhs; rw [← List.take_append_drop j l]
  rw [List.filter_append, List.filter_eq_nil_iff.2, List.filter_eq_self.2, List.nil_append]
  · intro a ha
    obtain ⟨m, hm, rfl⟩ := List.getElem_of_mem ha
    simp only [List.length_drop] at hm
    simp only [List.getElem_drop, decide_eq_true_eq]
    exact tri (h.hi _ (by omega) (by omega)) (h2 _ (by omega) (by omega))
  · intro a ha
    obtain ⟨m, hm, rfl⟩ := List.getElem_of_mem ha
    simp only [List.length_take] at hm
    simp only [List.getElem_take, decide_eq_true_eq]
    by_cases hmi : m < i
    · exact before_asymm (h.lo _ (by omega) hmi)
    · have := h1 m (by omega) (by omega) (by omega)
      unfold same at this; unfold before; omega
theorem putL_found {l : List Kept} {x : Kept} {i : Nat} (h : PosIs l x i) (ho : l.Pairwise before) (hi : i < l.length) (hs : same l[i] x) : putL l x = l.set i x := by
  unfold putL
  rw [filter_lo h, filter_hi h (Nat.le_succ i) (fun m hm h1 h2 => by (have e : m = i := (by omega)); subst e; exact hs) (fun m hm h1 h2 => by have := h.same ho hm h2; omega)]
  rw [List.set_eq_take_append_cons_drop, if_pos hi, List.append_assoc]; rfl
theorem putL_new {l : List Kept} {x : Kept} {i : Nat} (h : PosIs l x i) (ho : l.Pairwise before) (hs : ∀ h' : i < l.length, ¬ same l[i] x) : putL l x = l.take i ++ [x] ++ l.drop i := by
  unfold putL
  rw [filter_lo h, filter_hi h (Nat.le_refl i) (fun m hm h1 h2 => by omega) (fun m hm h1 h2 => by obtain rfl := h.same ho hm h2; exact hs hm h2)]
/-- What the place of the oldest is. -/
def OldIs (l : List Kept) (x : Kept) (n : Nat) (o : Int) : Prop :=
  (o = -1 ∧ ∀ (m : Nat) (h : m < l.length), m < n → same l[m] x) ∨
  ∃ (i : Nat) (h : i < l.length), i < n ∧ o = i ∧ ¬ same l[i] x ∧ ∀ (m : Nat) (h : m < l.length), m < n → ¬ same l[m] x → (l[i]).used ≤ (l[m]).used
theorem oldTo_succ {l : List Kept} {x : Kept} {n : Nat} (h : n < l.length) : oldTo l x (n + 1) = if ¬ same l[n] x ∧ (oldTo l x n < 0 ∨ (l[n]).used < ((l[(oldTo l x n).toNat]?).getD default).used) then (n : Int) else oldTo l x n := by
  simp only [oldTo, List.getElem?_eq_getElem h]
theorem oldTo_is (l : List Kept) (x : Kept) : ∀ n, n ≤ l.length → OldIs l x n (oldTo l x n)
  | 0, _ => .inl ⟨rfl, fun m _ h => by omega⟩
  | n + 1, hn => by
    have ih := oldTo_is l x n (by omega)
    rw [oldTo_succ (by omega)]
    rcases ih with ⟨e, h⟩ | ⟨i, hi, hin, e, hs, hu⟩
    · by_cases h1 : same l[n] x
      · rw [if_neg (by simp [h1]), e]
        refine .inl ⟨rfl, fun m hm h2 => ?_⟩
        by_cases e2 : m = n
        · subst e2; exact h1
        · exact h m hm (by omega)
      · rw [if_pos ⟨h1, .inl (by omega)⟩]
        refine .inr ⟨n, by omega, by omega, rfl, h1, fun m hm h2 h3 => ?_⟩
        by_cases e2 : m = n
        · subst e2; exact Int.le_refl _
        · exact absurd (h m hm (by omega)) h3
    · have e3 : (l[(oldTo l x n).toNat]?).getD default = l[i] := by rw [e, Int.toNat_natCast, List.getElem?_eq_getElem hi]; rfl
      rw [e3]
      by_cases h1 : ¬ same l[n] x ∧ (oldTo l x n < 0 ∨ (l[n]).used < (l[i]).used)
      · rw [if_pos h1]
        have h4 : (l[n]).used < (l[i]).used := by rcases h1.2 with h | h; omega; exact h
        refine .inr ⟨n, by omega, by omega, rfl, h1.1, fun m hm h2 h3 => ?_⟩
        by_cases e2 : m = n
        · subst e2; exact Int.le_refl _
        · have := hu m hm (by omega) h3; omega
      · rw [if_neg h1, e]
        refine .inr ⟨i, hi, by omega, rfl, hs, fun m hm h2 h3 => ?_⟩
        by_cases e2 : m = n
        · subst e2
          simp only [not_and, not_or] at h1
          have := (h1 h3).2
          omega
        · exact hu m hm (by omega) h3
/-- As long as there is too much, there is an oldest one. -/
theorem oldest_is {l : List Kept} {x : Kept} {room : Int} (hx : x ∈ l) (ho : l.Pairwise before) (hr : (x.bytes.length : Int) ≤ room) (ht : room < tot l) :
    ∃ h : oldest l x < l.length, oldTo l x l.length = oldest l x ∧ ¬ same l[oldest l x] x ∧ ∀ (m : Nat) (h' : m < l.length), ¬ same l[m] x → (l[oldest l x]).used ≤ (l[m]).used := by
  rcases oldTo_is l x l.length (Nat.le_refl _) with ⟨e, h⟩ | ⟨i, hi, hin, e, hs, hu⟩
  · exfalso
    obtain ⟨m, hm, rfl⟩ := List.getElem_of_mem hx
    have hl : l.length ≤ 1 := by
      refine Classical.byContradiction fun hc => ?_
      have h0 := h 0 (by omega) (by omega)
      have h1 := h 1 (by omega) (by omega)
      have h2 := pairwise_get ho (i := 0) (j := 1) (by omega) (by omega)
      unfold same at h0 h1; unfold before at h2; omega
    have e1 : l = [l[m]] := by
      match l, hm, hl with
      | [a], hm, _ =>
        have : m = 0 := by simp at hm; omega
        subst this; rfl
    rw [e1] at ht
    simp [tot] at ht
    omega
  · have e2 : oldest l x = i := by unfold oldest; rw [e]; rfl
    rw [e2]
    exact ⟨hi, e, hs, fun m hm h => hu m hm hm h⟩
theorem mem_putL (l : List Kept) (x : Kept) : x ∈ putL l x := by simp [putL]
theorem putL_mem {l : List Kept} {x y : Kept} (h : y ∈ putL l x) : y ∈ l ∨ y = x := by
  simp only [putL, List.mem_append, List.mem_filter, List.mem_singleton] at h
  rcases h with (h | h) | h
  · exact .inl h.1
  · exact .inr h
  · exact .inl h.1
theorem putL_order {l : List Kept} {x : Kept} (ho : l.Pairwise before) : (putL l x).Pairwise before := by
  unfold putL
  rw [List.pairwise_append, List.pairwise_append]
  refine ⟨⟨ho.filter _, List.pairwise_singleton _ _, fun a ha b hb => ?_⟩, ho.filter _, fun a ha b hb => ?_⟩
  · obtain rfl := List.mem_singleton.1 hb
    exact of_decide_eq_true (List.mem_filter.1 ha).2
  · have h2 : before x b := of_decide_eq_true (List.mem_filter.1 hb).2
    rcases List.mem_append.1 ha with h | h
    · exact before_trans (of_decide_eq_true (List.mem_filter.1 h).2) h2
    · obtain rfl := List.mem_singleton.1 h; exact h2
theorem putL_length (l : List Kept) (x : Kept) : (putL l x).length ≤ 2 * l.length + 1 := by
  have h1 := List.length_filter_le (fun y => decide (before y x)) l
  have h2 := List.length_filter_le (fun y => decide (before x y)) l
  simp only [putL, List.length_append, List.length_singleton]; omega
theorem erase_order {l : List Kept} (ho : l.Pairwise before) (i : Nat) : (l.eraseIdx i).Pairwise before := ho.sublist (List.eraseIdx_sublist l i)
theorem erase_mem {l : List Kept} {i : Nat} {y : Kept} (h : y ∈ l.eraseIdx i) : y ∈ l := (List.eraseIdx_sublist l i).mem h
theorem mem_erase {l : List Kept} {i : Nat} {y : Kept} (h : y ∈ l) (hi : i < l.length) (hne : y ≠ l[i]) : y ∈ l.eraseIdx i := by
  obtain ⟨m, hm, rfl⟩ := List.getElem_of_mem h
  rw [List.mem_eraseIdx_iff_getElem]
  exact ⟨m, hm, fun e => hne (by subst e; rfl), rfl⟩
theorem evict_succ {room : Int} {x : Kept} {l : List Kept} (h : room < tot l) (hi : oldest l x < l.length) : evict room x l.length l = ((evict room x (l.eraseIdx (oldest l x)).length (l.eraseIdx (oldest l x))).1, l[oldest l x] :: (evict room x (l.eraseIdx (oldest l x)).length (l.eraseIdx (oldest l x))).2) := by
  have e : l.length = (l.eraseIdx (oldest l x)).length + 1 := by rw [List.length_eraseIdx, if_pos hi]; omega
  conv => lhs; rw [e, evict]
  rw [if_pos h, List.getElem?_eq_getElem hi]; rfl
theorem evict_end {room : Int} {x : Kept} {l : List Kept} (h : ¬ room < tot l) (n : Nat) : evict room x n l = (l, []) := by
  cases n with
  | zero => rfl
  | succ n => rw [evict, if_neg h]
end C42
