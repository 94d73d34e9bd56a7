/-
  Layer 24 (link): both ends of a link.
  Conditions: none; definitions and laws with no program in sight.
-/
import Derived.Test.YtedmmfbebecobaaS24
namespace C24
structure Ac where
  kind : Int
  n : Int
structure Line where
  o : Out
  i : In
  sent : List Fr
  told : List Int
  del : List Fr
  bad : Bool
def msg (n : Int) : List UInt8 := [109, UInt8.ofNat (97 + n % 26).toNat, UInt8.ofNat (97 + n / 26 % 26).toNat]
def sm (n : Int) : List UInt8 := 115 :: msg n
def bad (w : Line) (e : Int) : Bool := w.bad || decide (¬ e = 0)
def actW (w : Line) (a : Ac) : Line :=
  if a.kind % 6 = 0 then { w with o := (putO w.o (msg (w.o.base + w.o.queue.length))).1, bad := bad w (putO w.o (msg (w.o.base + w.o.queue.length))).2 }
  else if a.kind % 6 = 1 then
    let u := w.o.base + a.n % (w.o.queue.length + 1)
    { w with o := (foldO w.o u (sm u)).1, bad := bad w (foldO w.o u (sm u)).2 }
  else if a.kind % 6 = 2 then { w with sent := w.sent ++ (framesO w.o (1 + a.n % 20)).1, bad := bad w (framesO w.o (1 + a.n % 20)).2 }
  else if a.kind % 6 = 3 then
    if h : 0 < w.sent.length then
      let f := w.sent[(a.n % w.sent.length).toNat]'(by have := Int.emod_lt_of_pos a.n (b := w.sent.length) (by omega); have := Int.emod_nonneg a.n (b := w.sent.length) (by omega); omega)
      { w with i := (recv w.i f).1, told := w.told ++ [(recv w.i f).1.next], del := w.del ++ (recv w.i f).2.1, bad := bad w (recv w.i f).2.2 }
    else w
  else if a.kind % 6 = 4 then
    if h : 0 < w.told.length then
      let t := w.told[(a.n % w.told.length).toNat]'(by have := Int.emod_lt_of_pos a.n (b := w.told.length) (by omega); have := Int.emod_nonneg a.n (b := w.told.length) (by omega); omega)
      { w with o := (ackO w.o t).1, bad := bad w (ackO w.o t).2 }
    else w
  else if a.kind % 6 = 5 then { w with i := ⟨w.i.next, []⟩ }
  else w
/-- A frame that a sender up to 'nd' may have sent. -/
def good (nd : Int) (f : Fr) : Prop := (f.sum = false → 0 ≤ f.seq ∧ f.seq < nd ∧ f.body = msg f.seq) ∧ (f.sum = true → 0 < f.seq ∧ f.seq ≤ nd ∧ f.body = sm f.seq)
/-- The number that comes after what was delivered; none if it is out of order. -/
def ord (n : Int) : List Fr → Option Int
  | [] => some n
  | f :: fs =>
    if f.sum = true then (if f.seq ≤ n ∨ ¬ f.body = sm f.seq then none else ord f.seq fs)
    else (if ¬ f.seq = n ∨ ¬ f.body = msg f.seq then none else ord (n + 1) fs)
structure Inv (k : Nat) (w : Line) : Prop where
  b : 0 ≤ w.o.base
  a : 0 ≤ w.o.acked ∧ w.o.acked ≤ w.o.base + w.o.queue.length
  nd : w.o.base + w.o.queue.length ≤ k
  sl : w.o.summary.length ≤ 4
  s : w.o.acked < w.o.base → w.o.summary = sm w.o.base
  q : ∀ (j : Nat) (h : j < w.o.queue.length), w.o.queue[j] = msg (w.o.base + j)
  iv : validI w.i
  inx : w.i.next ≤ w.o.base + w.o.queue.length
  ig : ∀ f ∈ w.i.ahead, good (w.o.base + w.o.queue.length) f
  sg : ∀ f ∈ w.sent, good (w.o.base + w.o.queue.length) f
  tg : ∀ t ∈ w.told, 0 ≤ t ∧ t ≤ w.o.base + w.o.queue.length
  dl : ord 0 w.del = some w.i.next
  bad : w.bad = false
  ls : w.sent.length ≤ 20 * k
  lt : w.told.length ≤ k
  ld : w.del.length ≤ 65 * k
theorem msg_len (n : Int) : (msg n).length = 3 := rfl
theorem sm_len (n : Int) : (sm n).length = 4 := rfl
theorem Inv.v {k : Nat} {w : Line} (h : Inv k w) (hk : k ≤ 1000) : validO w.o := by
  have := h.b; have := h.a; have := h.nd; have := h.sl
  refine ⟨by omega, by omega, by omega, by omega, fun ⟨s, hs, hl⟩ => ?_⟩
  obtain ⟨j, hj, rfl⟩ := List.getElem_of_mem hs
  rw [h.q j hj, msg_len] at hl
  omega
theorem good_mono {a b : Int} {f : Fr} (h : good a f) (hab : a ≤ b) : good b f :=
  ⟨fun e => by have := h.1 e; exact ⟨this.1, by omega, this.2.2⟩, fun e => by have := h.2 e; exact ⟨this.1, by omega, this.2.2⟩⟩
theorem Inv.up {k : Nat} {w : Line} (h : Inv k w) : Inv (k + 1) w := { h with nd := by have := h.nd; omega, ls := by have := h.ls; omega, lt := by have := h.lt; omega, ld := by have := h.ld; omega }
theorem ord_app : ∀ (l : List Fr) (n : Int) (r : List Fr), ord n (l ++ r) = (ord n l).bind fun m => ord m r
  | [], n, r => rfl
  | f :: l, n, r => by
    simp only [List.cons_append, ord]
    split
    · split
      · rfl
      · exact ord_app l _ r
    · split
      · rfl
      · exact ord_app l _ r
theorem mem_msgs : ∀ (n : Int) (q : List (List UInt8)) (f : Fr), f ∈ msgs n q → ∃ (j : Nat) (h : j < q.length), f = ⟨false, n + j, q[j]⟩
  | n, [], f, h => by simp [msgs] at h
  | n, s :: q, f, h => by
    simp only [msgs, List.mem_cons] at h
    rcases h with rfl | h
    · exact ⟨0, by simp, by simp⟩
    · obtain ⟨j, hj, rfl⟩ := mem_msgs (n + 1) q f h
      exact ⟨j + 1, by simpa using hj, by simp; omega⟩
theorem mem_allF {k : Nat} {w : Line} (h : Inv k w) : ∀ f ∈ allF w.o, good (w.o.base + w.o.queue.length) f := by
  intro f hf
  have hb := h.b
  have ha := h.a
  unfold allF at hf
  rcases List.mem_append.1 hf with hf | hf
  · split at hf
    · rename_i hlt
      obtain rfl := List.mem_singleton.1 hf
      exact ⟨fun e => (by cases e), fun _ => ⟨by show 0 < w.o.base; omega, by show w.o.base ≤ _; omega, h.s hlt⟩⟩
    · cases hf
  · obtain ⟨j, hj, rfl⟩ := mem_msgs _ _ _ hf
    rw [List.length_drop] at hj
    refine ⟨fun _ => ⟨by show 0 ≤ max w.o.acked w.o.base + j; omega, by show max w.o.acked w.o.base + j < _; omega, ?_⟩, fun e => by cases e⟩
    show (w.o.queue.drop _)[j]'_ = msg (max w.o.acked w.o.base + j)
    rw [List.getElem_drop, h.q _ (by omega)]
    congr 1; omega
theorem ins_mem (f : Fr) (l : List Fr) : ∀ g ∈ insF f l, g = f ∨ g ∈ l := by
  intro g hg
  simp only [insF, List.mem_append, List.mem_singleton] at hg
  rcases hg with (hg | hg) | hg
  · exact .inr (List.mem_of_mem_take hg)
  · exact .inl hg
  · exact .inr (List.mem_of_mem_drop hg)
/-- What is pulled is in order. -/
theorem pull_ord (nd : Int) : ∀ (l : List Fr) (n last : Int), asc last l → (∀ f ∈ l, good nd f) → n ≤ nd → ord n (pull n l).2.2 = some (pull n l).1 ∧ (pull n l).1 ≤ nd ∧ ∀ f ∈ (pull n l).2.1, f ∈ l
  | [], n, _, _, _, h => ⟨rfl, h, fun f hf => by cases hf⟩
  | f :: fs, n, last, ha, hg, hn => by
    simp only [asc] at ha
    have hgf := hg f List.mem_cons_self
    have hgs : ∀ g ∈ fs, good nd g := fun g h => hg g (List.mem_cons_of_mem _ h)
    rw [pull]
    split
    · rename_i he
      have hb := hgf.1 ha.1
      obtain ⟨i1, i2, i3⟩ := pull_ord nd fs (n + 1) f.seq ha.2.2.2.2 hgs (by omega)
      refine ⟨?_, i2, fun g h => List.mem_cons_of_mem _ (i3 g h)⟩
      rw [ord, if_neg (by rw [ha.1]; decide), if_neg (by simp [he, hb.2.2]), i1]
    · split
      · obtain ⟨i1, i2, i3⟩ := pull_ord nd fs n f.seq ha.2.2.2.2 hgs hn
        exact ⟨i1, i2, fun g h => List.mem_cons_of_mem _ (i3 g h)⟩
      · obtain ⟨i1, i2, i3⟩ := pull_ord nd fs n f.seq ha.2.2.2.2 hgs hn
        refine ⟨i1, i2, fun g h => ?_⟩
        rcases List.mem_cons.1 h with rfl | h
        · exact List.mem_cons_self
        · exact List.mem_cons_of_mem _ (i3 g h)
/-- What receiving a good frame does. -/
theorem recv_good_inv {nd : Int} {i : In} {f : Fr} (hv : validI i) (hn : i.next ≤ nd) (hd : nd ≤ 1000000) (hg : ∀ g ∈ i.ahead, good nd g) (hf : good nd f) :
    validI (recv i f).1 ∧ (recv i f).1.next ≤ nd ∧ (∀ g ∈ (recv i f).1.ahead, good nd g) ∧ ord i.next (recv i f).2.1 = some (recv i f).1.next ∧ (recv i f).2.2 = 0 := by
  have ho := (recv_once (f := f) hv).1
  have hs : 0 ≤ f.seq ∧ f.seq ≤ 1000000 ∧ f.body.length ≤ 65536 := by
    cases hsum : f.sum
    · have := hf.1 hsum; rw [this.2.2, msg_len]; omega
    · have := hf.2 hsum; rw [this.2.2, sm_len]; omega
  have hr : recv i f = (if f.seq < i.next ∨ (f.sum = true ∧ f.seq = i.next) then (i, [], 0) else if f.sum = false ∧ i.next < f.seq then
            (if ¬ known f.seq i.ahead ∧ i.ahead.length < 64 then ⟨i.next, insF f i.ahead⟩ else i, [], 0)
          else (⟨(pull (if f.sum = true then f.seq else f.seq + 1) i.ahead).1, (pull (if f.sum = true then f.seq else f.seq + 1) i.ahead).2.1⟩, f :: (pull (if f.sum = true then f.seq else f.seq + 1) i.ahead).2.2, 0)) := by
    unfold recv; rw [if_neg (by have := hs.2.2; have := hs.1; have := hs.2.1; grind)]
  refine ⟨ho, ?_⟩
  clear ho
  rw [hr]
  split
  · exact ⟨hn, hg, rfl, rfl⟩
  · split
    · split
      · refine ⟨hn, fun g h => ?_, rfl, rfl⟩
        rcases ins_mem f i.ahead g h with rfl | h
        · exact hf
        · exact hg g h
      · exact ⟨hn, hg, rfl, rfl⟩
    · rename_i c1 c2
      have hn0 : (if f.sum = true then f.seq else f.seq + 1) ≤ nd := by
        split
        · rename_i h; have := hf.2 h; omega
        · rename_i h; have := hf.1 (by simpa using h); omega
      obtain ⟨p1, p2, p3⟩ := pull_ord nd i.ahead _ i.next hv.2.2 hg hn0
      refine ⟨p2, fun g h => hg g (p3 g h), ?_, rfl⟩
      simp only [ord]
      cases hsum : f.sum
      · have := hf.1 hsum
        have e : f.seq = i.next := by
          have h1 : ¬ f.seq < i.next := fun h => c1 (.inl h)
          have h2 : ¬ i.next < f.seq := fun h => c2 ⟨hsum, h⟩
          omega
        rw [hsum] at p1
        simp only [Bool.false_eq_true, if_false] at p1 ⊢
        rw [if_neg (by simp [e]; rw [this.2.2, e]), ← e]
        exact p1
      · have := hf.2 hsum
        have e : ¬ f.seq ≤ i.next := by
          have h1 : ¬ f.seq < i.next := fun h => c1 (.inl h)
          have h2 : ¬ f.seq = i.next := fun h => c1 (.inr ⟨hsum, h⟩)
          omega
        rw [hsum] at p1
        simp only [if_true] at p1 ⊢
        rw [if_neg (by simp [e, this.2.2])]
        exact p1
end C24
/-
  Layer 24 (link): acts keep what holds of a link.
  Conditions: none; laws with no program in sight.
-/
namespace C24
theorem inv_put {k : Nat} {w : Line} (h : Inv k w) (hk : k < 500) : Inv (k + 1) { w with o := (putO w.o (msg (w.o.base + w.o.queue.length))).1, bad := bad w (putO w.o (msg (w.o.base + w.o.queue.length))).2 } := by
  have hv := h.v (by omega)
  have hb := h.b
  have hnd := h.nd
  have e : putO w.o (msg (w.o.base + w.o.queue.length)) = ({ w.o with queue := w.o.queue ++ [msg (w.o.base + w.o.queue.length)] }, 0) := by
    unfold putO
    rw [if_neg (by rw [msg_len]; grind), if_neg (by omega)]
  rw [e]
  have hl : (w.o.queue ++ [msg (w.o.base + w.o.queue.length)]).length = w.o.queue.length + 1 := by simp
  refine ⟨hb, ?_, ?_, h.sl, h.s, ?_, h.iv, ?_, ?_, ?_, ?_, h.dl, ?_, ?_, ?_, ?_⟩
  · have := h.a; simp only [hl]; omega
  · simp only [hl]; omega
  · intro j hj
    simp only [hl] at hj
    by_cases hlt : j < w.o.queue.length
    · simp only [List.getElem_append_left hlt]; exact h.q j hlt
    · obtain rfl : j = w.o.queue.length := by omega
      simp
  · have := h.inx; simp only [hl]; omega
  · intro f hf; exact good_mono (h.ig f hf) (by simp only [hl]; omega)
  · intro f hf; exact good_mono (h.sg f hf) (by simp only [hl]; omega)
  · intro t ht; have := h.tg t ht; simp only [hl]; omega
  · simp [bad, h.bad]
  · have := h.ls; simp only; omega
  · have := h.lt; simp only; omega
  · have := h.ld; simp only; omega
theorem inv_fold {k : Nat} {w : Line} (h : Inv k w) (hk : k < 500) {u : Int} (hu : w.o.base ≤ u ∧ u ≤ w.o.base + w.o.queue.length) : Inv (k + 1) { w with o := (foldO w.o u (sm u)).1, bad := bad w (foldO w.o u (sm u)).2 } := by
  have hv := h.v (by omega)
  have hb := h.b
  have hnd := h.nd
  have e : foldO w.o u (sm u) = (⟨u, w.o.acked, sm u, w.o.queue.drop (u - w.o.base).toNat⟩, 0) := by
    unfold foldO
    rw [if_neg (by rw [sm_len]; grind)]
  rw [e]
  have hl : ((w.o.queue.drop (u - w.o.base).toNat).length : Int) = w.o.base + w.o.queue.length - u := by rw [List.length_drop]; omega
  refine ⟨by simp only; omega, ?_, ?_, Nat.le_refl _, fun _ => rfl, ?_, h.iv, ?_, ?_, ?_, ?_, h.dl, ?_, ?_, ?_, ?_⟩
  · have := h.a; simp only [hl]; omega
  · simp only [hl]; omega
  · intro j hj
    simp only [List.length_drop] at hj
    simp only [List.getElem_drop]
    rw [h.q _ (by omega)]
    congr 1; omega
  · have := h.inx; simp only [hl]; omega
  · intro f hf; exact good_mono (h.ig f hf) (by simp only [hl]; omega)
  · intro f hf; exact good_mono (h.sg f hf) (by simp only [hl]; omega)
  · intro t ht; have := h.tg t ht; simp only [hl]; omega
  · simp [bad, h.bad]
  · have := h.ls; simp only; omega
  · have := h.lt; simp only; omega
  · have := h.ld; simp only; omega
theorem inv_send {k : Nat} {w : Line} (h : Inv k w) (hk : k < 500) {n : Int} (hn : 0 ≤ n ∧ n ≤ 20) : Inv (k + 1) { w with sent := w.sent ++ (framesO w.o n).1, bad := bad w (framesO w.o n).2 } := by
  have hv := h.v (by omega)
  have e : framesO w.o n = ((allF w.o).take n.toNat, 0) := by
    unfold framesO
    rw [if_neg (by grind)]
  rw [e]
  have h' := h.up
  refine { h' with sg := ?_, bad := ?_, ls := ?_ }
  · intro f hf
    rcases List.mem_append.1 hf with hf | hf
    · exact h.sg f hf
    · exact mem_allF h f (List.mem_of_mem_take hf)
  · simp [bad, h.bad]
  · have := h.ls; simp only [List.length_append, List.length_take]; omega
theorem inv_recv {k : Nat} {w : Line} (h : Inv k w) (hk : k < 500) {f : Fr} (hf : good (w.o.base + w.o.queue.length) f) : Inv (k + 1) { w with i := (recv w.i f).1, told := w.told ++ [(recv w.i f).1.next], del := w.del ++ (recv w.i f).2.1, bad := bad w (recv w.i f).2.2 } := by
  have hnd := h.nd
  obtain ⟨r1, r2, r3, r4, r5⟩ := recv_good_inv h.iv h.inx (by omega) h.ig hf
  have h' := h.up
  refine { h' with iv := r1, inx := r2, ig := r3, tg := ?_, dl := ?_, bad := ?_, lt := ?_, ld := ?_ }
  · intro t ht
    rcases List.mem_append.1 ht with ht | ht
    · exact h.tg t ht
    · obtain rfl := List.mem_singleton.1 ht
      exact ⟨r1.1.1, r2⟩
  · rw [ord_app, h.dl]; exact r4
  · simp [bad, h.bad, r5]
  · have := h.lt; simp only [List.length_append, List.length_singleton]; omega
  · have := h.ld
    have h2 := recv_out w.i f
    have h3 := h.iv.2.1
    simp only [List.length_append]; omega
theorem inv_ack {k : Nat} {w : Line} (h : Inv k w) (hk : k < 500) {t : Int} (ht : 0 ≤ t ∧ t ≤ w.o.base + w.o.queue.length) : Inv (k + 1) { w with o := (ackO w.o t).1, bad := bad w (ackO w.o t).2 } := by
  have hv := h.v (by omega)
  have hb := h.b
  have hnd := h.nd
  have e : ackO w.o t = (if t ≤ w.o.acked then w.o else if w.o.base < t then ⟨t, t, [], w.o.queue.drop (t - w.o.base).toNat⟩ else { w.o with acked := t }, 0) := by
    unfold ackO
    rw [if_neg (by grind)]
    split
    · rfl
    · split <;> rfl
  rw [e]
  have h' := h.up
  by_cases c1 : t ≤ w.o.acked
  · simp only [if_pos c1]
    exact { h' with bad := by simp [bad, h.bad] }
  · simp only [if_neg c1]
    by_cases c2 : w.o.base < t
    · simp only [if_pos c2]
      have hl : ((w.o.queue.drop (t - w.o.base).toNat).length : Int) = w.o.base + w.o.queue.length - t := by rw [List.length_drop]; omega
      have hn : t + ((w.o.queue.drop (t - w.o.base).toNat).length : Int) = w.o.base + w.o.queue.length := by omega
      refine ⟨by simp only; omega, ?_, ?_, Nat.zero_le _, fun hlt => absurd hlt (Int.lt_irrefl _), ?_, h.iv, ?_, ?_, ?_, ?_, h.dl, ?_, h'.ls, h'.lt, h'.ld⟩
      · simp only [hn]; omega
      · simp only [hn]; omega
      · intro j hj
        simp only [List.length_drop] at hj
        simp only [List.getElem_drop]
        rw [h.q _ (by omega)]
        congr 1; omega
      · simp only [hn]; exact h.inx
      · simp only [hn]; exact h.ig
      · simp only [hn]; exact h.sg
      · simp only [hn]; exact h.tg
      · simp [bad, h.bad]
    · simp only [if_neg c2]
      exact { h' with a := ⟨by simp only; omega, by simp only; omega⟩, s := fun hlt => h.s (by simp only at hlt; omega), bad := by simp [bad, h.bad] }
theorem emod_ix {n : Int} {len : Nat} (h : 0 < len) : 0 ≤ n % (len : Int) ∧ (n % (len : Int)).toNat < len := by
  have h1 := Int.emod_lt_of_pos n (b := (len : Int)) (by omega)
  have h2 := Int.emod_nonneg n (b := (len : Int)) (by omega)
  omega
theorem inv_step {k : Nat} {w : Line} (h : Inv k w) (hk : k < 500) (a : Ac) : Inv (k + 1) (actW w a) := by
  unfold actW
  split
  · exact inv_put h hk
  · split
    · refine inv_fold h hk ?_
      have h1 := Int.emod_lt_of_pos a.n (b := (w.o.queue.length : Int) + 1) (by omega)
      have h2 := Int.emod_nonneg a.n (b := (w.o.queue.length : Int) + 1) (by omega)
      omega
    · split
      · refine inv_send h hk ?_
        omega
      · split
        · split
          · rename_i hl
            exact inv_recv h hk (h.sg _ (List.getElem_mem _))
          · exact h.up
        · split
          · split
            · exact inv_ack h hk (h.tg _ (List.getElem_mem _))
            · exact h.up
          · split
            · have h' := h.up
              exact { h' with iv := ⟨h.iv.1, Nat.zero_le _, trivial⟩, inx := h.inx, ig := fun f hf => (by cases hf), dl := h.dl }
            · exact h.up
def start : Line := ⟨⟨0, 0, [], []⟩, ⟨0, []⟩, [], [], [], false⟩
theorem inv_start : Inv 0 start := by
  refine ⟨by decide, by decide, by decide, by decide, fun h => absurd h (by decide), fun j h => absurd h (Nat.not_lt_zero _), by decide, by decide, fun f h => (by cases h), fun f h => (by cases h), fun f h => (by cases h), rfl, rfl, by decide, by decide, by decide⟩
def runW (l : List Ac) : Nat → Line
  | 0 => start
  | k + 1 => match l[k]? with | some a => actW (runW l k) a | none => runW l k
theorem inv_run (l : List Ac) : ∀ k, k ≤ 400 → Inv k (runW l k)
  | 0, _ => inv_start
  | k + 1, hk => by
    have ih := inv_run l k (by omega)
    unfold runW
    split
    · exact inv_step ih (by omega) _
    · exact ih.up
theorem runW_succ {l : List Ac} {k : Nat} (h : k < l.length) : runW l (k + 1) = actW (runW l k) l[k] := by
  rw [runW, List.getElem?_eq_getElem h]
end C24
/-
  Layer 24 (link): when all frames arrive.
  Conditions: none; laws with no program in sight.
-/
namespace C24
structure Inv2 (k : Nat) (w : Line) : Prop where
  i : Inv k w
  t : ∀ t ∈ w.told, t ≤ w.i.next
  a : w.o.acked ≤ w.i.next
theorem putO_acked (o : Out) (s : List UInt8) : (putO o s).1.acked = o.acked ∨ (putO o s).1.acked = 0 := by
  unfold putO noO; split
  · exact .inr rfl
  · split
    · exact .inr rfl
    · exact .inl rfl
theorem foldO_acked (o : Out) (n : Int) (s : List UInt8) : (foldO o n s).1.acked = o.acked ∨ (foldO o n s).1.acked = 0 := by
  unfold foldO noO; split
  · exact .inr rfl
  · exact .inl rfl
theorem ackO_acked (o : Out) (n : Int) : (ackO o n).1.acked = o.acked ∨ (ackO o n).1.acked = 0 ∨ (ackO o n).1.acked = n := by
  unfold ackO noO; split
  · exact .inr (.inl rfl)
  · split
    · exact .inl rfl
    · split <;> exact .inr (.inr rfl)
theorem inv2_step {k : Nat} {w : Line} (h : Inv2 k w) (hk : k < 500) (a : Ac) : Inv2 (k + 1) (actW w a) := by
  refine ⟨inv_step h.i hk a, ?_, ?_⟩
  · have ht := h.t
    have hn : ∀ f, w.i.next ≤ (recv w.i f).1.next := fun f => (recv_once (f := f) h.i.iv).2.1
    unfold actW
    split
    · exact ht
    · split
      · exact ht
      · split
        · exact ht
        · split
          · split
            · intro t hm
              rcases List.mem_append.1 hm with hm | hm
              · exact Int.le_trans (ht t hm) (hn _)
              · obtain rfl := List.mem_singleton.1 hm
                exact Int.le_refl _
            · exact ht
          · split
            · split <;> exact ht
            · split <;> exact ht
  · have ha := h.a
    have h0 : 0 ≤ w.i.next := h.i.iv.1.1
    have hn : ∀ f, w.i.next ≤ (recv w.i f).1.next := fun f => (recv_once (f := f) h.i.iv).2.1
    unfold actW
    split
    · have := putO_acked w.o (msg (w.o.base + w.o.queue.length)); simp only; omega
    · split
      · have := foldO_acked w.o (w.o.base + a.n % (w.o.queue.length + 1)) (sm (w.o.base + a.n % (w.o.queue.length + 1))); simp only; omega
      · split
        · exact ha
        · split
          · split
            · exact Int.le_trans ha (hn _)
            · exact ha
          · split
            · split
              · rename_i hl
                have hm := h.t _ (List.getElem_mem (emod_ix (n := a.n) hl).2)
                have := ackO_acked w.o (w.told[(a.n % w.told.length).toNat]'(emod_ix (n := a.n) hl).2); simp only; omega
              · exact ha
            · split
              · exact ha
              · exact ha
theorem inv2_run (l : List Ac) : ∀ k, k ≤ 400 → Inv2 k (runW l k)
  | 0, _ => ⟨inv_start, fun t h => (by cases h), Int.le_refl (0 : Int)⟩
  | k + 1, hk => by
    have ih := inv2_run l k (by omega)
    unfold runW
    split
    · exact inv2_step ih (by omega) _
    · exact ⟨ih.i.up, ih.t, ih.a⟩
theorem good_range {nd : Int} {f : Fr} (hd : nd ≤ 1000000) (hf : good nd f) : 0 ≤ f.seq ∧ f.seq ≤ 1000000 ∧ f.body.length ≤ 65536 := by
  cases hsum : f.sum
  · have := hf.1 hsum; rw [this.2.2, msg_len]; omega
  · have := hf.2 hsum; rw [this.2.2, sm_len]; omega
theorem recv_reach {nd : Int} {i : In} {f : Fr} (hv : validI i) (hd : nd ≤ 1000000) (hf : good nd f) : (f.sum = true → f.seq ≤ (recv i f).1.next) ∧ (f.sum = false → f.seq ≤ i.next → f.seq + 1 ≤ (recv i f).1.next) := by
  have hs := good_range hd hf
  have hr : recv i f = (if f.seq < i.next ∨ (f.sum = true ∧ f.seq = i.next) then (i, [], 0) else if f.sum = false ∧ i.next < f.seq then
            (if ¬ known f.seq i.ahead ∧ i.ahead.length < 64 then ⟨i.next, insF f i.ahead⟩ else i, [], 0)
          else (⟨(pull (if f.sum = true then f.seq else f.seq + 1) i.ahead).1, (pull (if f.sum = true then f.seq else f.seq + 1) i.ahead).2.1⟩, f :: (pull (if f.sum = true then f.seq else f.seq + 1) i.ahead).2.2, 0)) := by
    unfold recv; rw [if_neg (by have := hs.2.2; have := hs.1; have := hs.2.1; grind)]
  have hps := fun n => (pull_spec i.ahead n i.next hv.2.2).1
  rw [hr]
  constructor
  · intro hsum
    rw [hsum]
    have := hps f.seq
    by_cases c : f.seq < i.next ∨ (true = true ∧ f.seq = i.next)
    · rw [if_pos c]; simp only; omega
    · rw [if_neg c, if_neg (by simp)]; simpa using this
  · intro hsum hle
    rw [hsum]
    have := hps (f.seq + 1)
    by_cases c : f.seq < i.next ∨ (false = true ∧ f.seq = i.next)
    · rw [if_pos c]; simp only
      rcases c with c | c
      · omega
      · simp at c
    · rw [if_neg c, if_neg (by omega)]; simpa using this
def recvW (w : Line) (f : Fr) : Line := { w with i := (recv w.i f).1, del := w.del ++ (recv w.i f).2.1 }
def catchW (w : Line) (fs : List Fr) : Nat → Line
  | 0 => w
  | k + 1 => match fs[k]? with | some f => recvW (catchW w fs k) f | none => catchW w fs k
theorem catchW_succ {w : Line} {fs : List Fr} {k : Nat} (h : k < fs.length) : catchW w fs (k + 1) = recvW (catchW w fs k) fs[k] := by
  rw [catchW, List.getElem?_eq_getElem h]
theorem msgs_get : ∀ (n : Int) (q : List (List UInt8)) (j : Nat) (h : j < (msgs n q).length), (msgs n q)[j].sum = false ∧ (msgs n q)[j].seq = n + j
  | n, [], j, h => by simp [msgs] at h
  | n, s :: q, 0, h => by simp [msgs]
  | n, s :: q, j + 1, h => by
    have := msgs_get (n + 1) q j (by simpa [msgs] using h)
    simp only [msgs, List.getElem_cons_succ]
    rw [this.1, this.2]
    exact ⟨rfl, by omega⟩
theorem msgs_len' : ∀ (n : Int) (q : List (List UInt8)), (msgs n q).length = q.length
  | _, [] => rfl
  | n, s :: q => by simp [msgs, msgs_len' (n + 1) q]
def pre (o : Out) : Nat := if o.acked < o.base then 1 else 0
theorem allF_get (o : Out) (k : Nat) (h : k < (allF o).length) : (k < pre o → (allF o)[k].sum = true ∧ (allF o)[k].seq = o.base) ∧ (pre o ≤ k → (allF o)[k].sum = false ∧ (allF o)[k].seq = max o.acked o.base + ((k - pre o : Nat) : Int)) := by
  unfold pre
  by_cases c : o.acked < o.base
  · have e : allF o = ⟨true, o.base, o.summary⟩ :: msgs (max o.acked o.base) (o.queue.drop (max o.acked o.base - o.base).toNat) := by unfold allF; rw [if_pos c]; rfl
    simp only [c, if_true]
    cases k with
    | zero => simp [e]
    | succ k =>
      refine ⟨fun h => by omega, fun _ => ?_⟩
      simp only [e, List.getElem_cons_succ, Nat.add_sub_cancel]
      exact msgs_get _ _ _ _
  · have e : allF o = msgs (max o.acked o.base) (o.queue.drop (max o.acked o.base - o.base).toNat) := by unfold allF; rw [if_neg c]; rfl
    simp only [c, if_false]
    refine ⟨fun h => by omega, fun _ => ?_⟩
    simp only [e, Nat.sub_zero]
    exact msgs_get _ _ _ _
theorem allF_len2 {k : Nat} {w : Line} (h : Inv k w) : ((allF w.o).length : Int) = pre w.o + (w.o.base + w.o.queue.length - max w.o.acked w.o.base) := by
  have := h.a
  have := h.b
  unfold allF pre
  split <;> simp [msgs_len', List.length_drop] <;> omega
structure Catch (k : Nat) (w0 w : Line) (j : Nat) : Prop where
  o : w.o = w0.o
  iv : validI w.i
  inx : w.i.next ≤ w0.o.base + w0.o.queue.length
  ig : ∀ f ∈ w.i.ahead, good (w0.o.base + w0.o.queue.length) f
  dl : ord 0 w.del = some w.i.next
  ld : w.del.length ≤ 65 * k + 65 * j
  bad : w.bad = false
  s : w.sent = w0.sent ∧ w.told = w0.told
  r : pre w0.o ≤ j → max w0.o.acked w0.o.base + ((j - pre w0.o : Nat) : Int) ≤ w.i.next
theorem catch_ok {k : Nat} {w0 : Line} (h : Inv2 k w0) (hk : k ≤ 400) : ∀ j, j ≤ (allF w0.o).length → Catch k w0 (catchW w0 (allF w0.o) j) j ∧ ∀ (hj : j < (allF w0.o).length), (recv (catchW w0 (allF w0.o) j).i (allF w0.o)[j]).2.2 = 0
  | j, hj => by
    have hnd := h.i.nd
    have key : ∀ (w : Line) (j : Nat), Catch k w0 w j → ∀ (hj : j < (allF w0.o).length), Catch k w0 (recvW w (allF w0.o)[j]) (j + 1) ∧ (recv w.i (allF w0.o)[j]).2.2 = 0 := by
      intro w j c hj
      have hg := mem_allF h.i _ (List.getElem_mem hj)
      obtain ⟨r1, r2, r3, r4, r5⟩ := recv_good_inv c.iv c.inx (by omega) c.ig hg
      obtain ⟨q1, q2⟩ := recv_reach (i := w.i) c.iv (by omega) hg
      obtain ⟨g1, g2⟩ := allF_get w0.o j hj
      refine ⟨⟨c.o, r1, r2, r3, ?_, ?_, c.bad, c.s, ?_⟩, r5⟩
      · show ord 0 (w.del ++ _) = _
        rw [ord_app, c.dl]; exact r4
      · have h2 := recv_out w.i (allF w0.o)[j]
        have h3 := c.iv.2.1
        have h4 := c.ld
        show (w.del ++ _).length ≤ _
        rw [List.length_append]; omega
      · intro hp
        show _ ≤ (recv w.i (allF w0.o)[j]).1.next
        by_cases hlt : j < pre w0.o
        · obtain ⟨e1, e2⟩ := g1 hlt
          have := q1 e1
          have hpr : pre w0.o = 1 ∧ w0.o.acked < w0.o.base := by
            unfold pre at hlt ⊢; split at hlt
            · exact ⟨by simp [*], by assumption⟩
            · omega
          rw [e2] at this
          have e3 : ((j + 1 - pre w0.o : Nat) : Int) = 0 := by omega
          rw [e3]; omega
        · obtain ⟨e1, e2⟩ := g2 (by omega)
          have c1 := c.r (by omega)
          have := q2 e1 (by omega)
          have e3 : ((j + 1 - pre w0.o : Nat) : Int) = ((j - pre w0.o : Nat) : Int) + 1 := by omega
          omega
    have all : ∀ j, j ≤ (allF w0.o).length → Catch k w0 (catchW w0 (allF w0.o) j) j := by
      intro j
      induction j with
      | zero =>
        intro _
        refine ⟨rfl, h.i.iv, h.i.inx, h.i.ig, h.i.dl, by have := h.i.ld; show w0.del.length ≤ _; omega, h.i.bad, ⟨rfl, rfl⟩, fun hp => ?_⟩
        show _ ≤ w0.i.next
        have := h.a
        have hp0 : ¬ w0.o.acked < w0.o.base := by
          intro hlt; unfold pre at hp; rw [if_pos hlt] at hp; omega
        omega
      | succ j ih =>
        intro hj
        rw [catchW_succ (by omega)]
        exact (key _ j (ih (by omega)) (by omega)).1
    exact ⟨all j hj, fun hj => (key _ j (all j (by omega)) hj).2⟩
/-- In the end the receiver has everything, and there is nothing to be sent. -/
theorem catch_end {k : Nat} {w0 : Line} (h : Inv2 k w0) (hk : k ≤ 400) : (catchW w0 (allF w0.o) (allF w0.o).length).i.next = w0.o.base + w0.o.queue.length ∧ (ackO w0.o (w0.o.base + w0.o.queue.length)).2 = 0 ∧ framesO (ackO w0.o (w0.o.base + w0.o.queue.length)).1 1000 = ([], 0) := by
  have hc := (catch_ok h hk (allF w0.o).length (Nat.le_refl _)).1
  have hl := allF_len2 h.i
  have ha := h.i.a
  have hb := h.i.b
  have hnd := h.i.nd
  have hi := inv_ack h.i (by omega) (t := w0.o.base + w0.o.queue.length) (by omega)
  have hv := hi.v (by omega)
  simp only at hv
  refine ⟨?_, ?_, ?_⟩
  · have h1 := hc.r (by omega)
    have h2 := hc.inx
    omega
  · have := hi.bad
    simpa [bad, h.i.bad] using this
  · have e : allF (ackO w0.o (w0.o.base + w0.o.queue.length)).1 = [] := by
      have hv0 := h.i.v (by omega)
      unfold ackO
      rw [if_neg (by grind)]
      have end0 : ∀ (o : Out), ¬ o.acked < o.base → o.base + o.queue.length ≤ max o.acked o.base → allF o = [] := by
        intro o h1 h2
        unfold allF
        rw [if_neg h1, List.drop_of_length_le (by omega)]; rfl
      split
      · exact end0 _ (by simp only; omega) (by simp only; omega)
      · split
        · refine end0 _ (by simp) ?_
          simp only [List.length_drop]; omega
        · refine end0 _ (by simp only; omega) (by simp only; omega)
    unfold framesO
    rw [if_neg (by intro h; rcases h with h | h; exact h hv; omega), e]; rfl
end C24
