/-
  Layer 42 (cache), in plain mathematics: what is got is what was put last.
  Conditions: none; definitions and laws.
-/
import Derived.Test.YtpooocblijlabaaS42f
namespace C42
/-- The place of the last one of a chunk among the first ones; -1: none. -/
def lastTo (l : List Kept) (o n : Int) : Nat → Int
  | 0 => -1
  | i + 1 => match l[i]? with
    | none => lastTo l o n i
    | some p => if p.object = o ∧ p.chunk = n then (i : Int) else lastTo l o n i
theorem lastTo_succ {l : List Kept} {o n : Int} {i : Nat} (h : i < l.length) : lastTo l o n (i + 1) = if (l[i]).object = o ∧ (l[i]).chunk = n then (i : Int) else lastTo l o n i := by
  simp only [lastTo, List.getElem?_eq_getElem h]
theorem lastTo_lt (l : List Kept) (o n : Int) : ∀ i, -1 ≤ lastTo l o n i ∧ lastTo l o n i < i
  | 0 => by simp [lastTo]
  | i + 1 => by
    have ih := lastTo_lt l o n i
    unfold lastTo
    split
    · omega
    · split <;> omega
theorem lastTo_append (l q : List Kept) (o n : Int) : ∀ i, i ≤ l.length → lastTo (l ++ q) o n i = lastTo l o n i
  | 0, _ => rfl
  | i + 1, h => by
    rw [lastTo_succ (by rw [List.length_append]; omega), lastTo_succ (by omega), lastTo_append l q o n i (by omega), List.getElem_append_left (by omega)]
/-- Each item is the last one that was put of its chunk. -/
def Fresh (c : Cache) (puts : List Kept) : Prop :=
  ∀ y ∈ c.items, ∃ (j : Nat) (h : j < puts.length), lastTo puts y.object y.chunk puts.length = j ∧ (puts[j]).bytes = y.bytes ∧ (puts[j]).since = y.since ∧ (puts[j]).last = y.last
theorem fresh_sub {c c' : Cache} {puts : List Kept} (h : Fresh c puts) (hs : ∀ y ∈ c'.items, y ∈ c.items) : Fresh c' puts := fun y hy => h y (hs y hy)
theorem fresh_do {c : Cache} {o : Op} {puts : List Kept} (hg : Good c) (h : Fresh c puts) : Fresh (doC c o).c (if (doC c o).e = 0 ∧ o.kind % 4 = 1 then puts ++ [o.k] else puts) := by
  by_cases he : (doC c o).e = 0
  · by_cases h1 : o.kind % 4 = 1
    · rw [if_pos ⟨he, h1⟩]
      unfold doC at he ⊢
      rw [if_neg (by omega), if_pos h1] at he ⊢
      obtain ⟨_, _, _, hb, hp⟩ := putC_ok hg he
      rw [hp]
      obtain ⟨q1, _⟩ := evict_spec (room := c.room) (x := used o.k c.now) hb _ (putL c.items (used o.k c.now)) rfl (putL_order hg.order) (mem_putL _ _)
      intro y hy
      have hyp := q1.mem hy
      have hl : (puts ++ [o.k]).length = puts.length + 1 := by simp
      have hlast : (puts ++ [o.k])[puts.length]'(by omega) = o.k := by simp
      have key : ∀ a b, lastTo (puts ++ [o.k]) a b (puts ++ [o.k]).length = if o.k.object = a ∧ o.k.chunk = b then (puts.length : Int) else lastTo puts a b puts.length := fun a b => by
        rw [hl, lastTo_succ (by omega), hlast, lastTo_append _ _ _ _ _ (Nat.le_refl _)]
      simp only [putL, List.mem_append, List.mem_filter, List.mem_singleton] at hyp
      have old : y ∈ c.items → ¬ same (used o.k c.now) y → ∃ (j : Nat) (h : j < (puts ++ [o.k]).length), lastTo (puts ++ [o.k]) y.object y.chunk (puts ++ [o.k]).length = j ∧ ((puts ++ [o.k])[j]).bytes = y.bytes ∧ ((puts ++ [o.k])[j]).since = y.since ∧ ((puts ++ [o.k])[j]).last = y.last := fun hyc hns => by
        obtain ⟨j, hj, e1, e2, e3, e4⟩ := h y hyc
        refine ⟨j, by omega, ?_, ?_⟩
        · rw [key, if_neg (show ¬ (o.k.object = y.object ∧ o.k.chunk = y.chunk) from hns), e1]
        · rw [List.getElem_append_left hj]; exact ⟨e2, e3, e4⟩
      rcases hyp with (⟨hyc, hb1⟩ | rfl) | ⟨hyc, hb1⟩
      · have hb1 : before y (used o.k c.now) := of_decide_eq_true hb1
        exact old hyc fun hs => before_not_same hb1 ⟨hs.1.symm, hs.2.symm⟩
      · refine ⟨puts.length, by omega, ?_, ?_⟩
        · rw [key, if_pos ⟨rfl, rfl⟩]
        · rw [hlast]; exact ⟨rfl, rfl, rfl⟩
      · exact old hyc (before_not_same (of_decide_eq_true hb1))
    · rw [if_neg (fun h => h1 h.2)]
      unfold doC at he ⊢
      by_cases h0 : o.kind % 4 = 0
      · rw [if_pos h0] at he ⊢
        obtain ⟨_, _, ht⟩ := tick_ok hg he
        rw [ht]
        exact fresh_sub h fun y hy => (List.mem_filter.1 hy).1
      · rw [if_neg h0, if_neg h1] at he ⊢
        by_cases h2 : o.kind % 4 = 2
        · rw [if_pos h2] at he ⊢
          obtain ⟨i, hi, _, _, _, hgt⟩ := getC_ok hg he
          rw [hgt]
          intro y hy
          rcases List.mem_or_eq_of_mem_set hy with h3 | rfl
          · exact h y h3
          · exact h c.items[i] (List.getElem_mem hi)
        · rw [if_neg h2, forget_ok hg]
          exact fresh_sub h fun y hy => (List.mem_filter.1 hy).1
  · rw [if_neg (fun h => he h.1), (do_err hg he).1]
    exact h
/-- What Get gives. -/
theorem fresh_get {c : Cache} {o : Op} {puts : List Kept} (hg : Good c) (h : Fresh c puts) (he : (doC c o).e = 0) (hk : o.kind % 4 = 2) :
    ∃ (j : Nat) (h : j < puts.length), lastTo puts o.k.object o.k.chunk puts.length = j ∧ (puts[j]).bytes = (doC c o).s ∧ (doC c o).c.now - (puts[j]).since ≤ o.n ∧ (doC c o).c.now ≤ (puts[j]).last ∧ 0 ≤ (puts[j]).since ∧ (puts[j]).since ≤ (doC c o).c.now := by
  unfold doC at he ⊢
  rw [if_neg (by omega), if_neg (by omega), if_pos hk] at he ⊢
  obtain ⟨i, hi, h1, h2, h3, hgt⟩ := getC_ok hg he
  rw [hgt]
  obtain ⟨j, hj, e1, e2, e3, e4⟩ := h _ (List.getElem_mem hi)
  obtain ⟨r1, r2, r3, r4⟩ := hg.right _ (List.getElem_mem hi)
  unfold right at r1
  rw [h1, h2] at e1
  exact ⟨j, hj, e1, e2, by simp only; omega, by simp only; omega, by omega, by simp only; omega⟩
/-- No item is put in place of one with a greater version. -/
theorem put_stale {c : Cache} {k : Kept} (hg : Good c) {i : Nat} (hi : i < c.items.length) (hf : findAt k.object k.chunk c.items 0 = i) (hv : k.version < (c.items[i]).version) : (putC c k).2.2 ≠ 0 := by
  intro he
  obtain ⟨_, _, hs, _⟩ := putC_ok hg he
  rw [(stale_find hg.order).2 ⟨i, hi, hf, .inl hv⟩] at hs
  cases hs
end C42
