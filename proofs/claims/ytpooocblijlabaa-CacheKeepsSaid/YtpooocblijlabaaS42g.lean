/-
  Layer 42 (cache), in plain mathematics: what stays as it was.
  Conditions: none; definitions and laws.
-/
import Derived.Test.YtpooocblijlabaaS42f
namespace C42
theorem in_find {l : List Kept} (ho : l.Pairwise before) {y z : Kept} (hz : z ∈ l) (hs : same z y) : ∃ (i : Nat) (h : i < l.length), findAt y.object y.chunk l 0 = i ∧ l[i] = z := by
  rcases findAt_is y.object y.chunk l with ⟨_, h2⟩ | ⟨i, hi, h1, h2, h3⟩
  · exact absurd hs (h2 z hz)
  · obtain ⟨m, hm, rfl⟩ := List.getElem_of_mem hz
    have e : i = m := same_uniq ho hi hm ⟨h2.trans hs.1.symm, h3.trans hs.2.symm⟩
    subst e
    exact ⟨i, hi, h1, rfl⟩
theorem not_in {l : List Kept} {y : Kept} (h : findAt y.object y.chunk l 0 < 0) : y ∉ l := by
  intro hy
  rcases findAt_is y.object y.chunk l with ⟨_, h2⟩ | ⟨i, hi, h1, h2, h3⟩
  · exact h2 y hy ⟨rfl, rfl⟩
  · omega
/-- Whether an item may go. -/
def mayGo (o : Op) (e : Int) (y : Kept) : Prop := e = 0 ∧ ((o.kind % 4 = 0 ∧ y.last < o.n) ∨ (o.kind % 4 = 3 ∧ y.object = o.k.object) ∨ (o.kind % 4 = 1 ∧ same y o.k))
theorem keeps_law {c : Cache} {o : Op} (hg : Good c) {y : Kept} (hy : y ∈ c.items) (hn : ¬ mayGo o (doC c o).e y) (hf : findAt y.object y.chunk (doC c o).out 0 < 0) :
    (∃ (i : Nat) (h : i < (doC c o).c.items.length), findAt y.object y.chunk (doC c o).c.items 0 = i ∧ used ((doC c o).c.items[i]) y.used = y) ∧ ∀ z ∈ (doC c o).out, z.used ≤ y.used := by
  have self : ∀ {l : List Kept}, l.Pairwise before → y ∈ l → ∃ (i : Nat) (h : i < l.length), findAt y.object y.chunk l 0 = i ∧ used (l[i]) y.used = y := fun {l} ho hl => by
    obtain ⟨i, hi, h1, h2⟩ := in_find ho hl ⟨rfl, rfl⟩
    exact ⟨i, hi, h1, by rw [h2]; rfl⟩
  by_cases he : (doC c o).e = 0
  · have hn : ¬ ((o.kind % 4 = 0 ∧ y.last < o.n) ∨ (o.kind % 4 = 3 ∧ y.object = o.k.object) ∨ (o.kind % 4 = 1 ∧ same y o.k)) := fun h => hn ⟨he, h⟩
    have hgd := good_do (o := o) hg
    unfold doC at he hf hgd ⊢
    by_cases h0 : o.kind % 4 = 0
    · rw [if_pos h0] at he hf hgd ⊢
      obtain ⟨_, _, ht⟩ := tick_ok hg he
      rw [ht] at hgd ⊢
      exact ⟨self hgd.order (List.mem_filter.2 ⟨hy, decide_eq_true (by omega)⟩), fun z hz => by cases hz⟩
    · rw [if_neg h0] at he hf hgd ⊢
      by_cases h1 : o.kind % 4 = 1
      · rw [if_pos h1] at he hf hgd ⊢
        obtain ⟨_, _, _, hb, hp⟩ := putC_ok hg he
        rw [hp] at hf hgd ⊢
        have hns : ¬ same y o.k := fun h => hn (.inr (.inr ⟨h1, h⟩))
        have hyp : y ∈ putL c.items (used o.k c.now) := by
          simp only [putL, List.mem_append, List.mem_filter, List.mem_singleton]
          by_cases hb2 : before y (used o.k c.now)
          · exact .inl (.inl ⟨hy, decide_eq_true hb2⟩)
          · exact .inr ⟨hy, decide_eq_true (tri hb2 hns)⟩
        obtain ⟨q1, q2, q3, q4, q5, q6⟩ := evict_spec (room := c.room) (x := used o.k c.now) hb _ (putL c.items (used o.k c.now)) rfl (putL_order hg.order) (mem_putL _ _)
        have hyr : y ∈ (evict c.room (used o.k c.now) (putL c.items (used o.k c.now)).length (putL c.items (used o.k c.now))).1 := by
          rcases q4 y hyp with h | h
          · exact h
          · exact absurd h (not_in hf)
        exact ⟨self hgd.order hyr, fun z hz => q6 z hz y hyr hns⟩
      · rw [if_neg h1] at he hf hgd ⊢
        by_cases h2 : o.kind % 4 = 2
        · rw [if_pos h2] at he hf hgd ⊢
          obtain ⟨i, hi, _, _, _, hgt⟩ := getC_ok hg he
          rw [hgt] at hgd ⊢
          refine ⟨?_, fun z hz => by cases hz⟩
          obtain ⟨m, hm, rfl⟩ := List.getElem_of_mem hy
          by_cases hmi : m = i
          · subst hmi
            obtain ⟨j, hj, h3, h4⟩ := in_find (y := c.items[m]) (z := used c.items[m] c.now) hgd.order (List.mem_set hi _) ⟨rfl, rfl⟩
            exact ⟨j, hj, h3, by rw [h4]; rfl⟩
          · refine self hgd.order ?_
            have : (c.items.set i (used c.items[i] c.now))[m]'(by simpa using hm) = c.items[m] := by rw [List.getElem_set, if_neg (fun h => hmi h.symm)]
            rw [← this]
            exact List.getElem_mem _
        · rw [if_neg h2] at he hf hgd ⊢
          rw [forget_ok hg] at hgd ⊢
          have h3 : o.kind % 4 = 3 := by omega
          exact ⟨self hgd.order (List.mem_filter.2 ⟨hy, decide_eq_true fun h => hn (.inr (.inl ⟨h3, h⟩))⟩), fun z hz => by cases hz⟩
  · obtain ⟨h1, h2⟩ := do_err hg he
    rw [h1, h2]
    exact ⟨self hg.order hy, fun z hz => by cases hz⟩
end C42
