/-
  Layer 42 (cache), in plain mathematics: a cache without an error stays one; what goes and what stays.
  Conditions: none; definitions and laws.
-/
import Derived.Test.YtpooocblijlabaaS42c
namespace C42
theorem evict_spec {room : Int} {x : Kept} (hb : (x.bytes.length : Int) ≤ room) : ∀ (n : Nat) (l : List Kept), l.length = n → l.Pairwise before → x ∈ l →
    (evict room x n l).1.Sublist l ∧ x ∈ (evict room x n l).1 ∧ tot (evict room x n l).1 ≤ room ∧ (∀ y ∈ l, y ∈ (evict room x n l).1 ∨ y ∈ (evict room x n l).2) ∧ (∀ z ∈ (evict room x n l).2, z ∈ l) ∧
      (∀ z ∈ (evict room x n l).2, ∀ y ∈ (evict room x n l).1, ¬ same y x → z.used ≤ y.used)
  | 0, l, h, _, hx => by
    have := List.eq_nil_of_length_eq_zero h
    subst this; cases hx
  | n + 1, l, h, ho, hx => by
    by_cases ht : room < tot l
    · obtain ⟨hoi, _, ho3, ho4⟩ := oldest_is hx ho hb ht
      have hel : (l.eraseIdx (oldest l x)).length = n := by rw [List.length_eraseIdx, if_pos hoi]; omega
      have e := evict_succ (x := x) ht hoi
      rw [hel, h] at e
      rw [e]
      have hxe : x ∈ l.eraseIdx (oldest l x) := mem_erase hx hoi fun e => ho3 ⟨by rw [← e], by rw [← e]⟩
      obtain ⟨q1, q2, q3, q4, q5, q6⟩ := evict_spec hb n _ hel (erase_order ho _) hxe
      have hsub := List.eraseIdx_sublist l (oldest l x)
      refine ⟨q1.trans hsub, q2, q3, fun y hy => ?_, fun z hz => ?_, fun z hz y hy hs => ?_⟩
      · by_cases e2 : y = l[oldest l x]
        · right; rw [e2]; exact List.mem_cons_self
        · rcases q4 y (mem_erase hy hoi e2) with h | h
          · exact .inl h
          · exact .inr (List.mem_cons_of_mem _ h)
      · rcases List.mem_cons.1 hz with rfl | hz
        · exact List.getElem_mem _
        · exact hsub.mem (q5 z hz)
      · rcases List.mem_cons.1 hz with rfl | hz
        · obtain ⟨m, hm, rfl⟩ := List.getElem_of_mem (hsub.mem (q1.mem hy))
          exact ho4 m hm hs
        · exact q6 z hz y hy hs
    · rw [evict_end ht]
      exact ⟨List.Sublist.refl _, hx, Int.not_lt.1 ht, fun y hy => .inl hy, fun z hz => (by cases hz), fun z hz => (by cases hz)⟩
theorem good_chk {c : Cache} (h : Good c) : chk c = 0 := chk_good.2 h
/-- What comes of a Put that has no error. -/
theorem putC_ok {c : Cache} {k : Kept} (hg : Good c) (he : (putC c k).2.2 = 0) : right k c.now ∧ c.now ≤ k.last ∧ stale c.items k = false ∧ (k.bytes.length : Int) ≤ c.room ∧
    putC c k = (⟨c.room, c.now, (evict c.room (used k c.now) (putL c.items (used k c.now)).length (putL c.items (used k c.now))).1⟩, (evict c.room (used k c.now) (putL c.items (used k c.now)).length (putL c.items (used k c.now))).2, 0) := by
  unfold putC at he ⊢
  rw [if_neg (by rw [good_chk hg]; simp)] at he ⊢
  by_cases h1 : right k c.now
  · rw [if_neg (by simpa using h1)] at he ⊢
    by_cases h2 : k.last < c.now
    · rw [if_pos h2] at he; simp at he
    · rw [if_neg h2] at he ⊢
      by_cases h3 : stale c.items k = true
      · rw [if_pos h3] at he; simp at he
      · rw [if_neg h3] at he ⊢
        by_cases h4 : c.room < (k.bytes.length : Int)
        · rw [if_pos h4] at he; simp at he
        · rw [if_neg h4]
          exact ⟨h1, by omega, by simpa using h3, by omega, rfl⟩
  · rw [if_pos h1] at he; simp at he
theorem putC_err {c : Cache} {k : Kept} (he : (putC c k).2.2 ≠ 0) : (putC c k).1 = c ∧ (putC c k).2.1 = [] := by
  unfold putC at he ⊢
  repeat' split
  all_goals first | exact ⟨rfl, rfl⟩ | simp_all
theorem tick_err {c : Cache} {n : Int} (he : (tick c n).2 ≠ 0) : (tick c n).1 = c := by
  unfold tick at he ⊢
  repeat' split
  all_goals first | rfl | simp_all
theorem getC_err {c : Cache} {o n f : Int} (he : (getC c o n f).2.2 ≠ 0) : (getC c o n f).2.1 = c := by
  unfold getC at he ⊢
  repeat' split
  all_goals first | rfl | simp_all
theorem forget_ok {c : Cache} (hg : Good c) (o : Int) : forget c o = (⟨c.room, c.now, c.items.filter fun k => decide (¬ k.object = o)⟩, (c.items.length : Int) - (c.items.filter fun k => decide (¬ k.object = o)).length, 0) := by
  unfold forget; rw [if_neg (by rw [good_chk hg]; simp)]
theorem tick_ok {c : Cache} {n : Int} (hg : Good c) (he : (tick c n).2 = 0) : c.now ≤ n ∧ n ≤ 1000000 ∧ tick c n = (⟨c.room, n, c.items.filter fun k => decide (n ≤ k.last)⟩, 0) := by
  unfold tick at he ⊢
  rw [if_neg (by rw [good_chk hg]; simp)] at he ⊢
  by_cases h1 : n < c.now
  · rw [if_pos h1] at he; simp at he
  · rw [if_neg h1] at he ⊢
    by_cases h2 : 1000000 < n
    · rw [if_pos h2] at he; simp at he
    · rw [if_neg h2]; exact ⟨by omega, by omega, rfl⟩
theorem getC_ok {c : Cache} {o n f : Int} (hg : Good c) (he : (getC c o n f).2.2 = 0) : ∃ (i : Nat) (h : i < c.items.length), (c.items[i]).object = o ∧ (c.items[i]).chunk = n ∧ c.now - (c.items[i]).since ≤ f ∧
    getC c o n f = ((c.items[i]).bytes, ⟨c.room, c.now, c.items.set i (used c.items[i] c.now)⟩, 0) := by
  unfold getC at he ⊢
  rw [if_neg (by rw [good_chk hg]; simp)] at he ⊢
  rcases findAt_is o n c.items with ⟨h1, _⟩ | ⟨i, hi, h1, h2, h3⟩
  · rw [if_pos (by omega)] at he; simp at he
  · rw [if_neg (by omega)] at he ⊢
    rw [h1, Int.toNat_natCast, List.getElem?_eq_getElem hi, Option.getD_some] at he ⊢
    by_cases h4 : f < c.now - (c.items[i]).since
    · rw [if_pos h4] at he; simp at he
    · rw [if_neg h4]
      exact ⟨i, hi, h2, h3, by omega, rfl⟩
theorem tot_sub {l m : List Kept} (h : l.Sublist m) : tot l ≤ tot m := by
  induction h with
  | slnil => exact Int.le_refl _
  | cons a h ih => simp only [tot, List.map_cons, List.sum_cons] at ih ⊢; omega
  | cons_cons a h ih => simp only [tot, List.map_cons, List.sum_cons] at ih ⊢; omega
theorem set_used_tot (l : List Kept) (i : Nat) (h : i < l.length) (n : Int) : tot (l.set i (used l[i] n)) = tot l := by
  have e : (l.set i (used l[i] n)).map (fun k => (k.bytes.length : Int)) = l.map fun k => (k.bytes.length : Int) := by
    rw [List.map_set]
    refine List.ext_getElem (by simp) fun j h1 h2 => ?_
    rw [List.getElem_set]
    split
    · rename_i e; subst e; simp [used]
    · rfl
  unfold tot; rw [e]
theorem set_used_order {l : List Kept} (ho : l.Pairwise before) (i : Nat) (h : i < l.length) (n : Int) : (l.set i (used l[i] n)).Pairwise before := by
  have hs : ∀ (j : Nat) (hj : j < (l.set i (used l[i] n)).length), same ((l.set i (used l[i] n))[j]) (l[j]'(by simpa using hj)) := fun j hj => by
    rw [List.getElem_set]
    split
    · rename_i e; subst e; exact ⟨rfl, rfl⟩
    · exact ⟨rfl, rfl⟩
  rw [List.pairwise_iff_getElem]
  intro a b ha hb hab
  have h1 := hs a ha
  have h2 := hs b hb
  have h3 := pairwise_get ho (by simpa using hb) hab
  unfold same at h1 h2; unfold before at h3 ⊢
  omega
theorem good_tick {c : Cache} {n : Int} (hg : Good c) : Good (tick c n).1 := by
  by_cases he : (tick c n).2 = 0
  · obtain ⟨h1, h2, h3⟩ := tick_ok hg he
    rw [h3]
    have hno := hg.now
    refine ⟨hg.room, ⟨by simp only; omega, h2⟩, fun k hk => ?_, hg.order.filter _, Int.le_trans (tot_sub List.filter_sublist) hg.bytes⟩
    obtain ⟨hk1, hk2⟩ := List.mem_filter.1 hk
    have hk2 := of_decide_eq_true hk2
    obtain ⟨r1, r2, r3, r4⟩ := hg.right k hk1
    refine ⟨?_, r2, by simp only; omega, hk2⟩
    unfold right at r1 ⊢
    simp only
    omega
  · rw [tick_err he]; exact hg
theorem good_forget {c : Cache} {o : Int} (hg : Good c) : Good (forget c o).1 := by
  rw [forget_ok hg]
  exact ⟨hg.room, hg.now, fun k hk => hg.right k ((List.mem_filter.1 hk).1), hg.order.filter _, Int.le_trans (tot_sub List.filter_sublist) hg.bytes⟩
theorem good_get {c : Cache} {o n f : Int} (hg : Good c) : Good (getC c o n f).2.1 := by
  by_cases he : (getC c o n f).2.2 = 0
  · obtain ⟨i, hi, _, _, _, h⟩ := getC_ok hg he
    rw [h]
    refine ⟨hg.room, hg.now, fun k hk => ?_, set_used_order hg.order i hi _, by simp only; rw [set_used_tot]; exact hg.bytes⟩
    rcases List.mem_or_eq_of_mem_set hk with h1 | rfl
    · exact hg.right k h1
    · obtain ⟨r1, r2, r3, r4⟩ := hg.right _ (List.getElem_mem hi)
      refine ⟨r1, ?_, Int.le_refl _, r4⟩
      unfold right at r1
      simp only [used]
      omega
  · rw [getC_err he]; exact hg
theorem good_put {c : Cache} {k : Kept} (hg : Good c) : Good (putC c k).1 := by
  by_cases he : (putC c k).2.2 = 0
  · obtain ⟨h1, h2, h3, h4, h5⟩ := putC_ok hg he
    rw [h5]
    obtain ⟨q1, q2, q3, q4, q5, q6⟩ := evict_spec (room := c.room) (x := used k c.now) h4 _ (putL c.items (used k c.now)) rfl (putL_order hg.order) (mem_putL _ _)
    refine ⟨hg.room, hg.now, fun y hy => ?_, (putL_order hg.order).sublist q1, q3⟩
    rcases putL_mem (q1.mem hy) with h | rfl
    · exact hg.right y h
    · refine ⟨h1, ?_, Int.le_refl _, h2⟩
      unfold right at h1
      simp only [used]
      omega
  · rw [(putC_err he).1]; exact hg
theorem good_do {c : Cache} {o : Op} (hg : Good c) : Good (doC c o).c := by
  unfold doC; repeat' split
  · exact good_tick hg
  · exact good_put hg
  · exact good_get hg
  · exact good_forget hg
theorem do_err {c : Cache} {o : Op} (hg : Good c) (he : (doC c o).e ≠ 0) : (doC c o).c = c ∧ (doC c o).out = [] := by
  unfold doC at he ⊢
  repeat' split
  · rename_i h; rw [if_pos h] at he; exact ⟨tick_err he, rfl⟩
  · rename_i h1 h2; rw [if_neg h1, if_pos h2] at he; exact putC_err he
  · rename_i h1 h2 h3; rw [if_neg h1, if_neg h2, if_pos h3] at he; exact ⟨getC_err he, rfl⟩
  · rename_i h1 h2 h3; rw [if_neg h1, if_neg h2, if_neg h3] at he; rw [forget_ok hg] at he; simp at he
theorem tick_room (c : Cache) (n : Int) : (tick c n).1.room = c.room := by unfold tick; (repeat' split) <;> rfl
theorem forget_room (c : Cache) (n : Int) : (forget c n).1.room = c.room := by unfold forget; split <;> rfl
theorem getC_room (c : Cache) (o n f : Int) : (getC c o n f).2.1.room = c.room := by unfold getC; (repeat' split) <;> rfl
theorem putC_room (c : Cache) (k : Kept) : (putC c k).1.room = c.room := by unfold putC; (repeat' split) <;> rfl
theorem do_room (c : Cache) (o : Op) : (doC c o).c.room = c.room := by
  unfold doC; repeat' split
  · exact tick_room _ _
  · exact putC_room _ _
  · exact getC_room _ _ _ _
  · exact forget_room _ _
theorem good_new {room : Int} (h : newE room = 0) : Good (newC room) ∧ (newC room).room = room := by
  unfold newE at h; unfold newC
  split at h
  · simp at h
  · rename_i h1
    rw [if_neg h1]
    exact ⟨⟨⟨(by simp only; omega), (by simp only; omega)⟩, ⟨by simp, by simp⟩, fun k hk => (by cases hk), List.Pairwise.nil, (by simp [tot]; omega)⟩, rfl⟩
/-- After Forget nothing of the object is there. -/
theorem do_gone {c : Cache} {o : Op} (hg : Good c) (hk : o.kind % 4 = 3) {y : Kept} (hy : y ∈ (doC c o).c.items) : y.object ≠ o.k.object := by
  unfold doC at hy
  rw [if_neg (by omega), if_neg (by omega), if_neg (by omega), forget_ok hg] at hy
  exact of_decide_eq_true (List.mem_filter.1 hy).2
end C42
