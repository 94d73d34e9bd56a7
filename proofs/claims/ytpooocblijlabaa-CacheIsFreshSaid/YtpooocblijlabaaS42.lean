/-
  Layer 42 (cache), in plain mathematics: what its functions compute.
  Conditions: none; definitions and laws.
-/
namespace C42
structure Kept where
  object : Int
  chunk : Int
  version : Int
  bytes : List UInt8
  since : Int
  last : Int
  used : Int
  deriving DecidableEq
instance : Inhabited Kept := ⟨⟨0, 0, 0, [], 0, 0, 0⟩⟩
structure Cache where
  room : Int
  now : Int
  items : List Kept
  deriving DecidableEq
/-- An item is right for a tick. -/
def right (k : Kept) (now : Int) : Prop :=
  0 ≤ k.object ∧ k.object ≤ 1099511627776 ∧ 0 ≤ k.chunk ∧ k.chunk ≤ 1099511627776 ∧ 0 ≤ k.version ∧ k.version ≤ 1099511627776 ∧ (k.bytes.length : Int) ≤ 4096 ∧ 0 ≤ k.since ∧ k.since ≤ now ∧ k.since ≤ k.last ∧ k.last ≤ 1000000
instance (k : Kept) (now : Int) : Decidable (right k now) := by unfold right; infer_instance
def before (a b : Kept) : Prop := a.object < b.object ∨ (a.object = b.object ∧ a.chunk < b.chunk)
instance (a b : Kept) : Decidable (before a b) := by unfold before; infer_instance
def same (a b : Kept) : Prop := a.object = b.object ∧ a.chunk = b.chunk
instance (a b : Kept) : Decidable (same a b) := by unfold same; infer_instance
def cmp (a b : Kept) : Int := if a.object = b.object then a.chunk - b.chunk else a.object - b.object
def tot (l : List Kept) : Int := (l.map fun k => (k.bytes.length : Int)).sum
theorem tot_succ (l : List Kept) (k : Nat) (h : k < l.length) : tot (l.take (k + 1)) = tot (l.take k) + l[k].bytes.length := by
  unfold tot; rw [List.take_succ_eq_append_getElem h, List.map_append, List.sum_append]
  simp only [List.map_cons, List.map_nil, List.sum_cons, List.sum_nil]; omega
theorem tot_nonneg : ∀ l : List Kept, 0 ≤ tot l
  | [] => by simp [tot]
  | a :: l => by have := tot_nonneg l; simp [tot] at this ⊢; omega
theorem tot_append (l m : List Kept) : tot (l ++ m) = tot l + tot m := by unfold tot; rw [List.map_append, List.sum_append]
theorem tot_take (l : List Kept) (k : Nat) : 0 ≤ tot (l.take k) ∧ tot (l.take k) ≤ tot l := by
  refine ⟨tot_nonneg _, ?_⟩
  have e : tot l = tot (l.take k) + tot (l.drop k) := by rw [← tot_append, List.take_append_drop]
  have := tot_nonneg (l.drop k)
  omega
theorem tot_le {n : Int} : ∀ {l : List Kept}, (∀ k ∈ l, (k.bytes.length : Int) ≤ n) → tot l ≤ n * l.length
  | [], _ => by simp [tot]
  | a :: l, h => by
    have ih := tot_le (fun k hk => h k (List.mem_cons_of_mem _ hk))
    have := h a List.mem_cons_self
    simp only [tot, List.map_cons, List.sum_cons, List.length_cons] at ih ⊢
    have e : n * ((l.length : Int) + 1) = n * l.length + n := by rw [Int.mul_add, Int.mul_one]
    push_cast
    omega
theorem cmp_before (a b : Kept) : (0 ≤ cmp a b) ↔ ¬ before a b := by
  unfold cmp before; split <;> omega
theorem cmp_same (a b : Kept) : (cmp a b = 0) ↔ same a b := by
  unfold cmp same; split <;> omega
theorem cmp_lt (a b : Kept) : (cmp a b < 0) ↔ before a b := by
  unfold cmp before; split <;> omega
/-- What is wrong with an item behind another one. -/
def wrong (now : Int) (p : Option Kept) (k : Kept) : Prop := ¬ right k now ∨ k.used < k.since ∨ now < k.used ∨ ∃ q, p = some q ∧ ¬ before q k
instance (now : Int) (p : Option Kept) (k : Kept) : Decidable (wrong now p k) := by
  unfold wrong
  cases p with
  | none => exact decidable_of_iff (¬ right k now ∨ k.used < k.since ∨ now < k.used) (by simp)
  | some q => exact decidable_of_iff (¬ right k now ∨ k.used < k.since ∨ now < k.used ∨ ¬ before q k) (by simp)
/-- The error of the items from one on; 'p': the one ahead of it. -/
def chkFrom (now : Int) : Option Kept → List Kept → Int
  | _, [] => 0
  | p, k :: l => if wrong now p k then 1 else if k.last < now then 18 else chkFrom now (some k) l
def prev (l : List Kept) (k : Nat) : Option Kept := if k = 0 then none else l[k - 1]?
def chkAt (now : Int) (l : List Kept) (k : Nat) : Int := chkFrom now (prev l k) (l.drop k)
theorem chkAt_0 (now : Int) (l : List Kept) : chkFrom now none l = chkAt now l 0 := rfl
theorem chkAt_end (now : Int) (l : List Kept) : chkAt now l l.length = 0 := by unfold chkAt; rw [List.drop_length]; rfl
theorem chkAt_step (now : Int) (l : List Kept) (k : Nat) (h : k < l.length) : chkAt now l k = if wrong now (prev l k) l[k] then 1 else if (l[k]).last < now then 18 else chkAt now l (k + 1) := by
  unfold chkAt
  rw [List.drop_eq_getElem_cons h, chkFrom]
  have : prev l (k + 1) = some l[k] := by unfold prev; simp [h]
  rw [this]
theorem wrong_at (now : Int) (l : List Kept) (k : Nat) (h : k < l.length) : wrong now (prev l k) l[k] ↔ (¬ right l[k] now ∨ (l[k]).used < (l[k]).since ∨ now < (l[k]).used ∨ (0 < k ∧ ¬ before (l[k - 1]'(by omega)) l[k])) := by
  unfold wrong prev
  by_cases hk : k = 0
  · simp [hk]
  · have h1 : l[k - 1]? = some (l[k - 1]'(by omega)) := List.getElem?_eq_getElem (by omega)
    have h2 : 0 < k := by omega
    simp [hk, h1, h2]
/-- The first error of a cache. -/
def chk (c : Cache) : Int :=
  if c.room < 0 ∨ 1048576 < c.room ∨ c.now < 0 ∨ 1000000 < c.now then 3
  else if chkFrom c.now none c.items ≠ 0 then chkFrom c.now none c.items
  else if c.room < tot c.items then 13 else 0
/-- What a cache without an error is. -/
structure Good (c : Cache) : Prop where
  room : 0 ≤ c.room ∧ c.room ≤ 1048576
  now : 0 ≤ c.now ∧ c.now ≤ 1000000
  right : ∀ k ∈ c.items, right k c.now ∧ k.since ≤ k.used ∧ k.used ≤ c.now ∧ c.now ≤ k.last
  order : c.items.Pairwise before
  bytes : tot c.items ≤ c.room
theorem before_trans {a b c : Kept} (h1 : before a b) (h2 : before b c) : before a c := by unfold before at *; omega
theorem chkFrom_zero {now : Int} : ∀ {l : List Kept} {p : Option Kept}, chkFrom now p l = 0 → (∀ k ∈ l, right k now ∧ k.since ≤ k.used ∧ k.used ≤ now ∧ now ≤ k.last) ∧ l.Pairwise before ∧ (∀ q, p = some q → ∀ k ∈ l, before q k)
  | [], p, h => ⟨fun _ h => (by cases h), List.Pairwise.nil, fun _ _ _ h => (by cases h)⟩
  | k :: l, p, h => by
    rw [chkFrom] at h
    split at h
    · cases h
    · rename_i hw
      split at h
      · cases h
      · rename_i hl
        obtain ⟨h1, h2, h3⟩ := chkFrom_zero h
        unfold wrong at hw
        simp only [not_or, Decidable.not_not, not_exists, not_and] at hw
        obtain ⟨w1, w2, w3, w4⟩ := hw
        refine ⟨fun x hx => ?_, List.Pairwise.cons (h3 k rfl) h2, fun q hq x hx => ?_⟩
        · rcases List.mem_cons.1 hx with rfl | hx
          · exact ⟨w1, by omega, by omega, by omega⟩
          · exact h1 x hx
        · rcases List.mem_cons.1 hx with rfl | hx
          · exact w4 q hq
          · exact before_trans (w4 q hq) (h3 k rfl x hx)
theorem zero_chkFrom {now : Int} : ∀ {l : List Kept} {p : Option Kept}, (∀ k ∈ l, right k now ∧ k.since ≤ k.used ∧ k.used ≤ now ∧ now ≤ k.last) → l.Pairwise before → (∀ q, p = some q → ∀ k ∈ l, before q k) → chkFrom now p l = 0
  | [], p, _, _, _ => rfl
  | k :: l, p, h1, h2, h3 => by
    rw [chkFrom]
    obtain ⟨a1, a2, a3, a4⟩ := h1 k List.mem_cons_self
    have hw : ¬ wrong now p k := by
      unfold wrong
      simp only [not_or, Decidable.not_not, not_exists, not_and]
      exact ⟨a1, by omega, by omega, fun q hq => h3 q hq k List.mem_cons_self⟩
    rw [if_neg hw, if_neg (by omega)]
    have hp := List.pairwise_cons.1 h2
    exact zero_chkFrom (fun x hx => h1 x (List.mem_cons_of_mem _ hx)) hp.2 (fun q hq x hx => by cases hq; exact hp.1 x hx)
theorem chk_good {c : Cache} : chk c = 0 ↔ Good c := by
  constructor
  · intro h
    unfold chk at h
    split at h
    · cases h
    · rename_i h1
      split at h
      · rename_i h2; exact absurd h h2
      · rename_i h2
        split at h
        · cases h
        · rename_i h3
          obtain ⟨g1, g2, _⟩ := chkFrom_zero (Decidable.not_not.1 h2)
          exact ⟨by omega, by omega, g1, g2, by omega⟩
  · intro h
    have h0 := zero_chkFrom (p := none) h.right h.order (fun q hq => by cases hq)
    obtain ⟨r1, r2⟩ := h.room
    obtain ⟨n1, n2⟩ := h.now
    have := h.bytes
    unfold chk
    rw [if_neg (by omega), if_neg (by rw [h0]; simp), if_neg (by omega)]
/-! ### finding -/
def i64 (n : Int) : Prop := -9223372036854775808 ≤ n ∧ n ≤ 9223372036854775807
/-- In the range of the numbers of objects and chunks. -/
def inr (x : Kept) : Prop := 0 ≤ x.object ∧ x.object ≤ 1099511627776 ∧ 0 ≤ x.chunk ∧ x.chunk ≤ 1099511627776
theorem right_inr {k : Kept} {now : Int} (h : right k now) : inr k := by unfold right at h; unfold inr; omega
/-- The place of an item among others. -/
structure PosIs (l : List Kept) (x : Kept) (i : Nat) : Prop where
  le : i ≤ l.length
  lo : ∀ (m : Nat) (h : m < l.length), m < i → before l[m] x
  hi : ∀ (m : Nat) (h : m < l.length), i ≤ m → ¬ before l[m] x
def foundAt (l : List Kept) (x : Kept) (i : Nat) : Bool := match l[i]? with | some y => decide (same y x) | none => false
/-- The first place of an object's chunk; -1: none. -/
def findFrom (o c : Int) : Nat → List Kept → Int
  | _, [] => -1
  | n, k :: l => if k.object = o ∧ k.chunk = c then n else findFrom o c (n + 1) l
def findAt (o c : Int) (l : List Kept) (k : Nat) : Int := findFrom o c k (l.drop k)
theorem findAt_end (o c : Int) (l : List Kept) : findAt o c l l.length = -1 := by unfold findAt; rw [List.drop_length]; rfl
theorem findAt_step (o c : Int) (l : List Kept) (k : Nat) (h : k < l.length) : findAt o c l k = if (l[k]).object = o ∧ (l[k]).chunk = c then (k : Int) else findAt o c l (k + 1) := by
  unfold findAt; rw [List.drop_eq_getElem_cons h, findFrom]
theorem pairwise_get {l : List Kept} (h : l.Pairwise before) {i j : Nat} (hj : j < l.length) (hij : i < j) : before (l[i]'(by omega)) l[j] :=
  (List.pairwise_iff_getElem.1 h) i j (by omega) hj hij
/-- A cache, items that were dropped, bytes, a number, an error. -/
structure Made where
  c : Cache
  out : List Kept
  s : List UInt8
  n : Int
  e : Int
def noCache : Cache := ⟨0, 0, []⟩
def newC (room : Int) : Cache := if room < 0 ∨ 1048576 < room then noCache else ⟨room, 0, []⟩
def newE (room : Int) : Int := if room < 0 ∨ 1048576 < room then 3 else 0
/-- A later tick. -/
def tick (c : Cache) (now : Int) : Cache × Int :=
  if chk c ≠ 0 then (c, chk c) else if now < c.now then (c, 15) else if 1000000 < now then (c, 3)
  else (⟨c.room, now, c.items.filter fun k => decide (now ≤ k.last)⟩, 0)
def forget (c : Cache) (o : Int) : Cache × Int × Int :=
  if chk c ≠ 0 then (c, 0, chk c)
  else (⟨c.room, c.now, c.items.filter fun k => decide (¬ k.object = o)⟩, (c.items.length : Int) - (c.items.filter fun k => decide (¬ k.object = o)).length, 0)
theorem filter_succ {α : Type} (p : α → Bool) (l : List α) (k : Nat) (h : k < l.length) : (l.take (k + 1)).filter p = (l.take k).filter p ++ (if p l[k] then [l[k]] else []) := by
  rw [List.take_succ_eq_append_getElem h, List.filter_append]
  congr 1
  simp only [List.filter_cons, List.filter_nil]
end C42
/-
  Layer 42 (cache), in plain mathematics: putting and getting.
  Conditions: none; definitions and laws.
-/
namespace C42
/-- A list of items in order, with one put in its place. -/
def putL (l : List Kept) (x : Kept) : List Kept := l.filter (fun y => decide (before y x)) ++ [x] ++ l.filter (fun y => decide (before x y))
/-- Which of the first items but 'x' was used first; -1: none. -/
def oldTo (l : List Kept) (x : Kept) : Nat → Int
  | 0 => -1
  | n + 1 => match l[n]? with
    | none => oldTo l x n
    | some y => if ¬ same y x ∧ (oldTo l x n < 0 ∨ y.used < ((l[(oldTo l x n).toNat]?).getD default).used) then (n : Int) else oldTo l x n
def oldest (l : List Kept) (x : Kept) : Nat := (oldTo l x l.length).toNat
/-- What stays and what goes. -/
def evict (room : Int) (x : Kept) : Nat → List Kept → List Kept × List Kept
  | 0, l => (l, [])
  | n + 1, l => if room < tot l then ((evict room x n (l.eraseIdx (oldest l x))).1, (l[oldest l x]?).getD default :: (evict room x n (l.eraseIdx (oldest l x))).2) else (l, [])
def stale (l : List Kept) (k : Kept) : Bool := l.any fun y => decide (same y k ∧ (k.version < y.version ∨ (y.version = k.version ∧ k.since < y.since)))
def used (k : Kept) (now : Int) : Kept := { k with used := now }
def putC (c : Cache) (k : Kept) : Cache × List Kept × Int :=
  if chk c ≠ 0 then (c, [], chk c) else if ¬ right k c.now then (c, [], 1) else if k.last < c.now then (c, [], 18)
  else if stale c.items k then (c, [], 15) else if c.room < k.bytes.length then (c, [], 13)
  else (⟨c.room, c.now, (evict c.room (used k c.now) (putL c.items (used k c.now)).length (putL c.items (used k c.now))).1⟩, (evict c.room (used k c.now) (putL c.items (used k c.now)).length (putL c.items (used k c.now))).2, 0)
theorem same_before {a b c : Kept} (h : same b c) : before a b ↔ before a c := by unfold same before at *; omega
theorem same_irr {a b : Kept} (h : same a b) : ¬ before a b := by unfold same before at *; omega
theorem before_asymm {a b : Kept} (h : before a b) : ¬ before b a := by unfold before at *; omega
theorem before_not_same {a b : Kept} (h : before a b) : ¬ same a b := by unfold same before at *; omega
theorem tri {a b : Kept} (h1 : ¬ before a b) (h2 : ¬ same a b) : before b a := by unfold same before at *; omega
theorem PosIs.same {l : List Kept} {x : Kept} {i : Nat} (h : PosIs l x i) (ho : l.Pairwise before) {m : Nat} (hm : m < l.length) (hs : same l[m] x) : m = i := by
  rcases Nat.lt_trichotomy m i with h1 | h1 | h1
  · exact absurd (h.lo m hm h1) (same_irr hs)
  · exact h1
  · have h2 := pairwise_get ho hm h1
    exact absurd ((same_before hs).1 h2) (h.hi i (by omega) (Nat.le_refl _))
theorem PosIs.congr {l : List Kept} {x y : Kept} {i : Nat} (h : PosIs l x i) (hs : C42.same x y) : PosIs l y i := by
  unfold C42.same at hs
  refine ⟨h.le, fun m hm hlt => ?_, fun m hm hlt => ?_⟩
  · have := h.lo m hm hlt; unfold before at *; omega
  · have := h.hi m hm hlt; unfold before at *; omega
theorem stale_pos {l : List Kept} {k : Kept} {i : Nat} (h : PosIs l k i) (ho : l.Pairwise before) :
    stale l k = true ↔ ∃ h' : i < l.length, same l[i] k ∧ (k.version < (l[i]).version ∨ ((l[i]).version = k.version ∧ k.since < (l[i]).since)) := by
  unfold stale
  rw [List.any_eq_true]
  constructor
  · rintro ⟨y, hy, hp⟩
    have hp := of_decide_eq_true hp
    obtain ⟨m, hm, rfl⟩ := List.getElem_of_mem hy
    obtain rfl := h.same ho hm hp.1
    exact ⟨hm, hp⟩
  · rintro ⟨h', hp⟩
    exact ⟨l[i], List.getElem_mem h', decide_eq_true hp⟩
theorem filter_lo {l : List Kept} {x : Kept} {i : Nat} (h : PosIs l x i) : l.filter (fun y => decide (before y x)) = l.take i := by
  conv => lhs; rw [← List.take_append_drop i l]
  rw [List.filter_append, List.filter_eq_self.2, List.filter_eq_nil_iff.2, List.append_nil]
  · intro a ha
    obtain ⟨m, hm, rfl⟩ := List.getElem_of_mem ha
    simp only [List.length_drop] at hm
    simp only [List.getElem_drop, decide_eq_true_eq]
    exact h.hi _ (by omega) (by omega)
  · intro a ha
    obtain ⟨m, hm, rfl⟩ := List.getElem_of_mem ha
    simp only [List.length_take] at hm
    simp only [List.getElem_take, decide_eq_true_eq]
    exact h.lo _ (by omega) (by omega)
theorem filter_hi {l : List Kept} {x : Kept} {i j : Nat} (h : PosIs l x i) (hij : i ≤ j) (h1 : ∀ (m : Nat) (h : m < l.length), i ≤ m → m < j → same l[m] x) (h2 : ∀ (m : Nat) (h : m < l.length), j ≤ m → ¬ same l[m] x) : l.filter (fun y => decide (before x y)) = l.drop j := by
  conv => lhs; rw [← List.take_append_drop j l]
  rw [List.filter_append, List.filter_eq_nil_iff.2, List.filter_eq_self.2, List.nil_append]
  · intro a ha
    obtain ⟨m, hm, rfl⟩ := List.getElem_of_mem ha
    simp only [List.length_drop] at hm
    simp only [List.getElem_drop, decide_eq_true_eq]
    exact tri (h.hi _ (by omega) (by omega)) (h2 _ (by omega) (by omega))
  · intro a ha
    obtain ⟨m, hm, rfl⟩ := List.getElem_of_mem ha
    simp only [List.length_take] at hm
    simp only [List.getElem_take, decide_eq_true_eq]
    by_cases hmi : m < i
    · exact before_asymm (h.lo _ (by omega) hmi)
    · have := h1 m (by omega) (by omega) (by omega)
      unfold same at this; unfold before; omega
theorem putL_found {l : List Kept} {x : Kept} {i : Nat} (h : PosIs l x i) (ho : l.Pairwise before) (hi : i < l.length) (hs : same l[i] x) : putL l x = l.set i x := by
  unfold putL
  rw [filter_lo h, filter_hi h (Nat.le_succ i) (fun m hm h1 h2 => by (have e : m = i := (by omega)); subst e; exact hs) (fun m hm h1 h2 => by have := h.same ho hm h2; omega)]
  rw [List.set_eq_take_append_cons_drop, if_pos hi, List.append_assoc]; rfl
theorem putL_new {l : List Kept} {x : Kept} {i : Nat} (h : PosIs l x i) (ho : l.Pairwise before) (hs : ∀ h' : i < l.length, ¬ same l[i] x) : putL l x = l.take i ++ [x] ++ l.drop i := by
  unfold putL
  rw [filter_lo h, filter_hi h (Nat.le_refl i) (fun m hm h1 h2 => by omega) (fun m hm h1 h2 => by obtain rfl := h.same ho hm h2; exact hs hm h2)]
/-- What the place of the oldest is. -/
def OldIs (l : List Kept) (x : Kept) (n : Nat) (o : Int) : Prop :=
  (o = -1 ∧ ∀ (m : Nat) (h : m < l.length), m < n → same l[m] x) ∨
  ∃ (i : Nat) (h : i < l.length), i < n ∧ o = i ∧ ¬ same l[i] x ∧ ∀ (m : Nat) (h : m < l.length), m < n → ¬ same l[m] x → (l[i]).used ≤ (l[m]).used
theorem oldTo_succ {l : List Kept} {x : Kept} {n : Nat} (h : n < l.length) : oldTo l x (n + 1) = if ¬ same l[n] x ∧ (oldTo l x n < 0 ∨ (l[n]).used < ((l[(oldTo l x n).toNat]?).getD default).used) then (n : Int) else oldTo l x n := by
  simp only [oldTo, List.getElem?_eq_getElem h]
theorem oldTo_is (l : List Kept) (x : Kept) : ∀ n, n ≤ l.length → OldIs l x n (oldTo l x n)
  | 0, _ => .inl ⟨rfl, fun m _ h => by omega⟩
  | n + 1, hn => by
    have ih := oldTo_is l x n (by omega)
    rw [oldTo_succ (by omega)]
    rcases ih with ⟨e, h⟩ | ⟨i, hi, hin, e, hs, hu⟩
    · by_cases h1 : same l[n] x
      · rw [if_neg (by simp [h1]), e]
        refine .inl ⟨rfl, fun m hm h2 => ?_⟩
        by_cases e2 : m = n
        · subst e2; exact h1
        · exact h m hm (by omega)
      · rw [if_pos ⟨h1, .inl (by omega)⟩]
        refine .inr ⟨n, by omega, by omega, rfl, h1, fun m hm h2 h3 => ?_⟩
        by_cases e2 : m = n
        · subst e2; exact Int.le_refl _
        · exact absurd (h m hm (by omega)) h3
    · have e3 : (l[(oldTo l x n).toNat]?).getD default = l[i] := by rw [e, Int.toNat_natCast, List.getElem?_eq_getElem hi]; rfl
      rw [e3]
      by_cases h1 : ¬ same l[n] x ∧ (oldTo l x n < 0 ∨ (l[n]).used < (l[i]).used)
      · rw [if_pos h1]
        have h4 : (l[n]).used < (l[i]).used := by rcases h1.2 with h | h; omega; exact h
        refine .inr ⟨n, by omega, by omega, rfl, h1.1, fun m hm h2 h3 => ?_⟩
        by_cases e2 : m = n
        · subst e2; exact Int.le_refl _
        · have := hu m hm (by omega) h3; omega
      · rw [if_neg h1, e]
        refine .inr ⟨i, hi, by omega, rfl, hs, fun m hm h2 h3 => ?_⟩
        by_cases e2 : m = n
        · subst e2
          simp only [not_and, not_or] at h1
          have := (h1 h3).2
          omega
        · exact hu m hm (by omega) h3
/-- As long as there is too much, there is an oldest one. -/
theorem oldest_is {l : List Kept} {x : Kept} {room : Int} (hx : x ∈ l) (ho : l.Pairwise before) (hr : (x.bytes.length : Int) ≤ room) (ht : room < tot l) :
    ∃ h : oldest l x < l.length, oldTo l x l.length = oldest l x ∧ ¬ same l[oldest l x] x ∧ ∀ (m : Nat) (h' : m < l.length), ¬ same l[m] x → (l[oldest l x]).used ≤ (l[m]).used := by
  rcases oldTo_is l x l.length (Nat.le_refl _) with ⟨e, h⟩ | ⟨i, hi, hin, e, hs, hu⟩
  · exfalso
    obtain ⟨m, hm, rfl⟩ := List.getElem_of_mem hx
    have hl : l.length ≤ 1 := by
      refine Classical.byContradiction fun hc => ?_
      have h0 := h 0 (by omega) (by omega)
      have h1 := h 1 (by omega) (by omega)
      have h2 := pairwise_get ho (i := 0) (j := 1) (by omega) (by omega)
      unfold same at h0 h1; unfold before at h2; omega
    have e1 : l = [l[m]] := by
      match l, hm, hl with
      | [a], hm, _ =>
        have : m = 0 := by simp at hm; omega
        subst this; rfl
    rw [e1] at ht
    simp [tot] at ht
    omega
  · have e2 : oldest l x = i := by unfold oldest; rw [e]; rfl
    rw [e2]
    exact ⟨hi, e, hs, fun m hm h => hu m hm hm h⟩
theorem mem_putL (l : List Kept) (x : Kept) : x ∈ putL l x := by simp [putL]
theorem putL_mem {l : List Kept} {x y : Kept} (h : y ∈ putL l x) : y ∈ l ∨ y = x := by
  simp only [putL, List.mem_append, List.mem_filter, List.mem_singleton] at h
  rcases h with (h | h) | h
  · exact .inl h.1
  · exact .inr h
  · exact .inl h.1
theorem putL_order {l : List Kept} {x : Kept} (ho : l.Pairwise before) : (putL l x).Pairwise before := by
  unfold putL
  rw [List.pairwise_append, List.pairwise_append]
  refine ⟨⟨ho.filter _, List.pairwise_singleton _ _, fun a ha b hb => ?_⟩, ho.filter _, fun a ha b hb => ?_⟩
  · obtain rfl := List.mem_singleton.1 hb
    exact of_decide_eq_true (List.mem_filter.1 ha).2
  · have h2 : before x b := of_decide_eq_true (List.mem_filter.1 hb).2
    rcases List.mem_append.1 ha with h | h
    · exact before_trans (of_decide_eq_true (List.mem_filter.1 h).2) h2
    · obtain rfl := List.mem_singleton.1 h; exact h2
theorem putL_length (l : List Kept) (x : Kept) : (putL l x).length ≤ 2 * l.length + 1 := by
  have h1 := List.length_filter_le (fun y => decide (before y x)) l
  have h2 := List.length_filter_le (fun y => decide (before x y)) l
  simp only [putL, List.length_append, List.length_singleton]; omega
theorem erase_order {l : List Kept} (ho : l.Pairwise before) (i : Nat) : (l.eraseIdx i).Pairwise before := ho.sublist (List.eraseIdx_sublist l i)
theorem erase_mem {l : List Kept} {i : Nat} {y : Kept} (h : y ∈ l.eraseIdx i) : y ∈ l := (List.eraseIdx_sublist l i).mem h
theorem mem_erase {l : List Kept} {i : Nat} {y : Kept} (h : y ∈ l) (hi : i < l.length) (hne : y ≠ l[i]) : y ∈ l.eraseIdx i := by
  obtain ⟨m, hm, rfl⟩ := List.getElem_of_mem h
  rw [List.mem_eraseIdx_iff_getElem]
  exact ⟨m, hm, fun e => hne (by subst e; rfl), rfl⟩
theorem evict_succ {room : Int} {x : Kept} {l : List Kept} (h : room < tot l) (hi : oldest l x < l.length) : evict room x l.length l = ((evict room x (l.eraseIdx (oldest l x)).length (l.eraseIdx (oldest l x))).1, l[oldest l x] :: (evict room x (l.eraseIdx (oldest l x)).length (l.eraseIdx (oldest l x))).2) := by
  have e : l.length = (l.eraseIdx (oldest l x)).length + 1 := by rw [List.length_eraseIdx, if_pos hi]; omega
  conv => lhs; rw [e, evict]
  rw [if_pos h, List.getElem?_eq_getElem hi]; rfl
theorem evict_end {room : Int} {x : Kept} {l : List Kept} (h : ¬ room < tot l) (n : Nat) : evict room x n l = (l, []) := by
  cases n with
  | zero => rfl
  | succ n => rw [evict, if_neg h]
end C42
