/-
  Layer 24 (link): what it is about, in plain terms.
  Conditions: none; definitions and laws with no program in sight.
-/
namespace C24
structure Fr where
  sum : Bool
  seq : Int
  body : List UInt8
  deriving DecidableEq, Inhabited
structure Out where
  base : Int
  acked : Int
  summary : List UInt8
  queue : List (List UInt8)
  deriving DecidableEq, Inhabited
structure In where
  next : Int
  ahead : List Fr
  deriving DecidableEq, Inhabited
def Out.nd (o : Out) : Int := o.base + o.queue.length
def long (q : List (List UInt8)) : Prop := ∃ s ∈ q, 65536 < s.length
instance (q : List (List UInt8)) : Decidable (long q) := by unfold long; infer_instance
def validO (o : Out) : Prop := (0 ≤ o.base ∧ o.base ≤ 1099511627776) ∧ (0 ≤ o.acked ∧ o.acked ≤ 1099511627776 ∧ o.acked ≤ o.base + o.queue.length) ∧ o.queue.length ≤ 1000 ∧ o.summary.length ≤ 65536 ∧ ¬ long o.queue
instance (o : Out) : Decidable (validO o) := by unfold validO; infer_instance
def asc (last : Int) : List Fr → Prop
  | [] => True
  | f :: fs => f.sum = false ∧ last < f.seq ∧ f.seq ≤ 2199023255552 ∧ f.body.length ≤ 65536 ∧ asc f.seq fs
instance ascDec : ∀ (last : Int) (fs : List Fr), Decidable (asc last fs)
  | _, [] => .isTrue trivial
  | last, f :: fs => by unfold asc; have := ascDec f.seq fs; infer_instance
def validI (i : In) : Prop := (0 ≤ i.next ∧ i.next ≤ 2199023255552) ∧ i.ahead.length ≤ 64 ∧ asc i.next i.ahead
instance (i : In) : Decidable (validI i) := by unfold validI; infer_instance
def noO : Out := ⟨0, 0, [], []⟩
def putO (o : Out) (s : List UInt8) : Out × Int :=
  if ¬ validO o ∨ ¬ s.length ≤ 65536 then (noO, 1)
  else if o.queue.length = 1000 ∨ 1099511627776 ≤ o.base + o.queue.length then (noO, 2)
  else ({ o with queue := o.queue ++ [s] }, 0)
def foldO (o : Out) (n : Int) (s : List UInt8) : Out × Int :=
  if ¬ validO o ∨ n < o.base ∨ o.base + o.queue.length < n ∨ ¬ s.length ≤ 65536 then (noO, 1)
  else (⟨n, o.acked, s, o.queue.drop (n - o.base).toNat⟩, 0)
def ackO (o : Out) (n : Int) : Out × Int :=
  if ¬ validO o ∨ n < 0 ∨ o.base + o.queue.length < n then (noO, 1)
  else if n ≤ o.acked then (o, 0)
  else if o.base < n then (⟨n, n, [], o.queue.drop (n - o.base).toNat⟩, 0)
  else ({ o with acked := n }, 0)
/-- The frames that are to be sent: the summary, and the messages from a number on. -/
def msgs (n : Int) : List (List UInt8) → List Fr
  | [] => []
  | s :: q => ⟨false, n, s⟩ :: msgs (n + 1) q
def allF (o : Out) : List Fr := (if o.acked < o.base then [⟨true, o.base, o.summary⟩] else []) ++ msgs (max o.acked o.base) (o.queue.drop (max o.acked o.base - o.base).toNat)
def framesO (o : Out) (n : Int) : List Fr × Int :=
  if ¬ validO o ∨ n < 0 then ([], 1) else ((allF o).take n.toNat, 0)
/-- The place of a number, and whether it is there. -/
def place (n : Int) (l : List Fr) : Nat := (l.takeWhile fun f => decide (f.seq < n)).length
def known (n : Int) (l : List Fr) : Prop := ∃ f ∈ l, f.seq = n
instance (n : Int) (l : List Fr) : Decidable (known n l) := by unfold known; infer_instance
/-- What comes out of the frames ahead, from a number on: the next number, what stays, what is delivered. -/
def pull (n : Int) : List Fr → Int × List Fr × List Fr
  | [] => (n, [], [])
  | f :: fs =>
    if f.seq = n then ((pull (n + 1) fs).1, (pull (n + 1) fs).2.1, f :: (pull (n + 1) fs).2.2)
    else if f.seq < n then pull n fs
    else ((pull n fs).1, f :: (pull n fs).2.1, (pull n fs).2.2)
def insF (f : Fr) (l : List Fr) : List Fr := l.take (place f.seq l) ++ [f] ++ l.drop (place f.seq l)
def recv (i : In) (f : Fr) : In × List Fr × Int :=
  if ¬ validI i ∨ ¬ (0 ≤ f.seq ∧ f.seq ≤ 1099511627776) ∨ ¬ f.body.length ≤ 65536 then (i, [], 1)
  else if f.seq < i.next ∨ (f.sum = true ∧ f.seq = i.next) then (i, [], 0)
  else if f.sum = false ∧ i.next < f.seq then
    (if ¬ known f.seq i.ahead ∧ i.ahead.length < 64 then ⟨i.next, insF f i.ahead⟩ else i, [], 0)
  else
    let n0 := if f.sum = true then f.seq else f.seq + 1
    (⟨(pull n0 i.ahead).1, (pull n0 i.ahead).2.1⟩, f :: (pull n0 i.ahead).2.2, 0)
end C24
/-
  Layer 24 (link): laws about rows of frames.
  Conditions: none; laws with no program in sight.
-/
namespace C24
def lt (a b : Fr) : Prop := a.seq < b.seq
theorem asc_gt : ∀ {last : Int} {l : List Fr}, asc last l → ∀ f ∈ l, last < f.seq
  | _, [], _, f, hf => by cases hf
  | last, g :: l, h, f, hf => by
    simp only [asc] at h
    rcases List.mem_cons.1 hf with e | hf
    · subst e; exact h.2.1
    · have := asc_gt h.2.2.2.2 f hf; omega
theorem asc_pair : ∀ {last : Int} {l : List Fr}, asc last l → l.Pairwise lt
  | _, [], _ => .nil
  | last, g :: l, h => by
    simp only [asc] at h
    exact List.pairwise_cons.2 ⟨fun f hf => asc_gt h.2.2.2.2 f hf, asc_pair h.2.2.2.2⟩
theorem asc_mem : ∀ {last : Int} {l : List Fr}, asc last l → ∀ f ∈ l, f.sum = false ∧ last < f.seq ∧ f.seq ≤ 2199023255552 ∧ f.body.length ≤ 65536
  | _, [], _, f, hf => by cases hf
  | last, g :: l, h, f, hf => by
    simp only [asc] at h
    rcases List.mem_cons.1 hf with e | hf
    · subst e; exact ⟨h.1, h.2.1, h.2.2.1, h.2.2.2.1⟩
    · have := asc_mem h.2.2.2.2 f hf; exact ⟨this.1, by omega, this.2.2⟩
theorem place_le (n : Int) (l : List Fr) : place n l ≤ l.length := by
  unfold place; exact (List.takeWhile_sublist _).length_le
theorem place_eq : ∀ {n : Int} {l : List Fr} {i : Nat}, i ≤ l.length → (∀ (m : Nat) (h : m < l.length), m < i → l[m].seq < n) → (∀ (m : Nat) (h : m < l.length), i ≤ m → ¬ l[m].seq < n) → place n l = i
  | n, [], i, hi, _, _ => by simp at hi; subst hi; rfl
  | n, f :: l, 0, hi, _, h2 => by
    have := h2 0 (by simp) (by omega)
    simp only [List.getElem_cons_zero] at this
    simp [place, List.takeWhile_cons, this]
  | n, f :: l, i + 1, hi, h1, h2 => by
    have h0 := h1 0 (by simp) (by omega)
    simp only [List.getElem_cons_zero] at h0
    have ih := place_eq (n := n) (l := l) (i := i) (by simpa using hi) (fun m h hm => by have := h1 (m + 1) (by simpa using h) (by omega); rwa [List.getElem_cons_succ] at this) (fun m h hm => by have := h2 (m + 1) (by simpa using h) (by omega); rwa [List.getElem_cons_succ] at this)
    unfold place at ih ⊢
    simp [List.takeWhile_cons, h0, ih]
theorem pair_get {l : List Fr} (h : l.Pairwise lt) {i j : Nat} (hj : j < l.length) (hij : i < j) : l[i].seq < l[j].seq := List.pairwise_iff_getElem.1 h i j (by omega) hj hij
theorem pull_app (n : Int) : ∀ (k : List Fr) (l : List Fr), (∀ f ∈ k, n < f.seq) → pull n (k ++ l) = ((pull n l).1, k ++ (pull n l).2.1, (pull n l).2.2)
  | [], l, _ => rfl
  | f :: k, l, h => by
    have h1 := h f List.mem_cons_self
    have ih := pull_app n k l fun g hg => h g (List.mem_cons_of_mem _ hg)
    rw [List.cons_append, pull, if_neg (by omega), if_neg (by omega), ih]
    rfl
end C24
/-
  Layer 24 (link): what receiving keeps.
  Conditions: none; laws with no program in sight.
-/
namespace C24
theorem pull_spec : ∀ (l : List Fr) (n last : Int), asc last l → n ≤ (pull n l).1 ∧ (pull n l).1 ≤ n + l.length ∧ asc (pull n l).1 (pull n l).2.1 ∧ (pull n l).2.1.length ≤ l.length
  | [], n, _, _ => by simp [pull, asc]
  | f :: fs, n, last, h => by
    simp only [asc] at h
    obtain ⟨h1, h2, h3, h4, h5⟩ := h
    have ih := fun m => pull_spec fs m f.seq h5
    rw [pull]
    split
    · obtain ⟨a, b, c, d⟩ := ih (n + 1); simp only [List.length_cons]; exact ⟨by omega, by omega, c, by omega⟩
    · split
      · obtain ⟨a, b, c, d⟩ := ih n; simp only [List.length_cons]; exact ⟨a, by omega, c, by omega⟩
      · have hall : ∀ g ∈ fs, n < g.seq := fun g hg => by have := asc_gt h5 g hg; omega
        have hp := pull_app n fs [] hall
        simp only [pull, List.append_nil] at hp
        rw [hp]
        simp only [List.length_cons, asc]
        refine ⟨by omega, by omega, ⟨h1, by omega, h3, h4, h5⟩, by omega⟩
theorem insF_cons (f g : Fr) (l : List Fr) : insF f (g :: l) = if g.seq < f.seq then g :: insF f l else f :: g :: l := by
  by_cases h : g.seq < f.seq
  · have e : place f.seq (g :: l) = place f.seq l + 1 := by simp [place, List.takeWhile_cons, h]
    simp [insF, e, h]
  · have e : place f.seq (g :: l) = 0 := by simp [place, List.takeWhile_cons, h]
    simp [insF, e, h]
theorem asc_ins {f : Fr} (h1 : f.sum = false) (h3 : f.seq ≤ 2199023255552) (h4 : f.body.length ≤ 65536) : ∀ {l : List Fr} {last : Int}, last < f.seq → asc last l → ¬ known f.seq l → asc last (insF f l)
  | [], last, h2, _, _ => by simp [insF, asc, h1, h2, h3, h4, place]
  | g :: l, last, h2, h, hk => by
    rw [insF_cons]
    have h' := h
    simp only [asc] at h
    have hg : ¬ g.seq = f.seq := fun e => hk ⟨g, List.mem_cons_self, e⟩
    have hk' : ¬ known f.seq l := fun ⟨x, hx, e⟩ => hk ⟨x, List.mem_cons_of_mem _ hx, e⟩
    split
    · rename_i hlt
      exact ⟨h.1, h.2.1, h.2.2.1, h.2.2.2.1, asc_ins h1 h3 h4 hlt h.2.2.2.2 hk'⟩
    · exact ⟨h1, h2, h3, h4, h.1, by omega, h.2.2⟩
theorem insF_len (f : Fr) (l : List Fr) : (insF f l).length = l.length + 1 := by
  have := place_le f.seq l
  simp [insF]; omega
theorem insF_known (f : Fr) (l : List Fr) : known f.seq (insF f l) := ⟨f, by simp [insF], rfl⟩
theorem recv_len (i : In) (f : Fr) : (recv i f).1.ahead.length ≤ i.ahead.length + 1 := by
  unfold recv
  split
  · simp
  · split
    · simp
    · split
      · split
        · simp [insF_len]
        · simp
      · rename_i h _ _
        have hv : validI i := Decidable.not_not.1 fun h2 => h (.inl h2)
        have := (pull_spec i.ahead (if f.sum = true then f.seq else f.seq + 1) i.next hv.2.2).2.2.2
        simp only; omega
theorem pull_out : ∀ (l : List Fr) (n : Int), (pull n l).2.2.length ≤ l.length
  | [], n => by simp [pull]
  | f :: fs, n => by
    rw [pull]
    split
    · have := pull_out fs (n + 1); simp; omega
    · split
      · have := pull_out fs n; simp; omega
      · have := pull_out fs n; simp; omega
theorem recv_out (i : In) (f : Fr) : (recv i f).2.1.length ≤ i.ahead.length + 1 := by
  unfold recv
  split
  · simp
  · split
    · simp
    · split
      · simp
      · have := pull_out i.ahead (if f.sum = true then f.seq else f.seq + 1); simp; omega
/-- What receiving keeps; and that the same frame once more changes nothing. -/
theorem recv_once {i : In} {f : Fr} (hv : validI i) : validI (recv i f).1 ∧ i.next ≤ (recv i f).1.next ∧ ((recv i f).2.2 ≠ 0 → (recv i f).1 = i ∧ (recv i f).2.1 = []) ∧ ((recv i f).2.2 = 0 → recv (recv i f).1 f = ((recv i f).1, [], 0)) := by
  by_cases hb : (0 ≤ f.seq ∧ f.seq ≤ 1099511627776) ∧ f.body.length ≤ 65536
  · obtain ⟨hs, hb⟩ := hb
    have hu : ∀ {j : In}, validI j → recv j f = if f.seq < j.next ∨ (f.sum = true ∧ f.seq = j.next) then (j, [], 0) else if f.sum = false ∧ j.next < f.seq then
            (if ¬ known f.seq j.ahead ∧ j.ahead.length < 64 then ⟨j.next, insF f j.ahead⟩ else j, [], 0)
          else (⟨(pull (if f.sum = true then f.seq else f.seq + 1) j.ahead).1, (pull (if f.sum = true then f.seq else f.seq + 1) j.ahead).2.1⟩, f :: (pull (if f.sum = true then f.seq else f.seq + 1) j.ahead).2.2, 0) := by
      intro j hj; unfold recv; rw [if_neg (by grind)]
    have hv' := hv
    obtain ⟨hn, hl, ha⟩ := hv'
    have hr := hu hv
    by_cases c1 : f.seq < i.next ∨ (f.sum = true ∧ f.seq = i.next)
    · rw [if_pos c1] at hr
      rw [hr]
      exact ⟨hv, Int.le_refl _, fun h => absurd rfl h, fun _ => hr⟩
    · rw [if_neg c1] at hr
      by_cases c2 : f.sum = false ∧ i.next < f.seq
      · rw [if_pos c2] at hr
        by_cases c3 : ¬ known f.seq i.ahead ∧ i.ahead.length < 64
        · rw [if_pos c3] at hr
          rw [hr]
          have hv2 : validI ⟨i.next, insF f i.ahead⟩ := ⟨hn, by rw [insF_len]; omega, asc_ins c2.1 (by omega) hb c2.2 ha c3.1⟩
          refine ⟨hv2, Int.le_refl _, fun h => absurd rfl h, fun _ => ?_⟩
          rw [hu hv2, if_neg c1, if_pos c2, if_neg (fun h => h.1 (insF_known f i.ahead))]
        · rw [if_neg c3] at hr
          rw [hr]
          exact ⟨hv, Int.le_refl _, fun h => absurd rfl h, fun _ => hr⟩
      · rw [if_neg c2] at hr
        have hps := pull_spec i.ahead (if f.sum = true then f.seq else f.seq + 1) i.next ha
        have hn0 : f.seq ≤ (if f.sum = true then f.seq else f.seq + 1) ∧ (if f.sum = true then f.seq else f.seq + 1) ≤ f.seq + 1 := by split <;> omega
        have hsx : f.sum = false → (if f.sum = true then f.seq else f.seq + 1) = f.seq + 1 := fun h => by rw [h]; rfl
        rw [hr]
        revert hps hn0 hsx
        generalize (if f.sum = true then f.seq else f.seq + 1) = n0
        intro hps hn0 hsx
        have hv2 : validI ⟨(pull n0 i.ahead).1, (pull n0 i.ahead).2.1⟩ := ⟨by simp only; omega, by simp only; omega, hps.2.2.1⟩
        refine ⟨hv2, by simp only; omega, fun h => absurd rfl h, fun _ => ?_⟩
        rw [hu hv2, if_pos]
        simp only
        cases hsum : f.sum
        · left; have := hsx hsum; omega
        · by_cases e : f.seq = (pull n0 i.ahead).1
          · exact .inr ⟨rfl, e⟩
          · left; omega
  · have hr : recv i f = (i, [], 1) := by unfold recv; rw [if_pos (by grind)]
    rw [hr]
    exact ⟨hv, Int.le_refl _, fun _ => ⟨rfl, rfl⟩, fun h => by simp at h⟩
end C24
