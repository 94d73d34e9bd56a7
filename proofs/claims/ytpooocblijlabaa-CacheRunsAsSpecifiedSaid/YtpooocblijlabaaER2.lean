/-
  The relation behind an allocation and behind a store.
  Conditions: none; laws.
-/
import Derived.Test.YtpooocblijlabaaER
namespace Go.E2

def Shape (lv lv' : List Hp) : Prop :=
  lv'.length = lv.length ∧ ∀ (k : Nat) (h h' : Hp), lv[k]? = some h → lv'[k]? = some h' → ∀ s, (h' s).g = (h s).g ∧ ((h' s).c = none ↔ (h s).c = none)
theorem Shape.refl (lv : List Hp) : Shape lv lv := ⟨rfl, fun k h h' a b s => by rw [a] at b; cases b; exact ⟨rfl, Iff.rfl⟩⟩
theorem Shape.get {lv lv' : List Hp} (h : Shape lv lv') {k : Nat} {x : Hp} (hx : lv[k]? = some x) : ∃ y, lv'[k]? = some y := by
  have := (List.getElem?_eq_some_iff.1 hx).1
  exact ⟨_, List.getElem?_eq_getElem (by rw [h.1]; exact this)⟩
theorem Shape.trans {a b c : List Hp} (h : Shape a b) (h' : Shape b c) : Shape a c := by
  refine ⟨h'.1.trans h.1, fun k x z hx hz s => ?_⟩
  obtain ⟨y, hy⟩ := h.get hx
  exact ⟨((h'.2 k y z hy hz s).1).trans (h.2 k x y hx hy s).1, ((h'.2 k y z hy hz s).2).trans (h.2 k x y hx hy s).2⟩
theorem Shape.tail {x y : Hp} {a b : List Hp} (h : Shape (x :: a) (y :: b)) : Shape a b :=
  ⟨by have := h.1; simpa using this, fun k u v hu hv => h.2 (k + 1) u v (by simpa using hu) (by simpa using hv)⟩
theorem VRptr.shape {lv lv' : List Hp} {ms : List (Nat → Nat)} (hs : Shape lv lv') {k s g off : Nat} {v : Value} (h : VRptr lv ms k s g off v) : VRptr lv' ms k s g off v := by
  obtain ⟨x, m, b, h1, h2, h3, h4, h5⟩ := h
  obtain ⟨y, hy⟩ := hs.get h1
  have e := hs.2 k x y h1 hy s
  exact ⟨y, m, b, hy, h2, h3, by rw [e.1]; exact h4, fun n1 n2 => h5 (fun z => n1 (e.2.2 z)) (by rw [← e.1]; exact n2)⟩
theorem VR.shape {S : Stb} {lv lv' : List Hp} {ms : List (Nat → Nat)} (hs : Shape lv lv') {x : AV} {v : Value} (h : VR S lv ms x v) : VR S lv' ms x v := by
  cases x with
  | ptr k s g off => exact VRptr.shape hs h
  | func f caps => obtain ⟨cv, h1, h2, h3⟩ := h; exact ⟨cv, h1, h2, fun j p u a b => (h3 j p u a b).shape hs⟩
  | _ => exact h

/-! ### a new box -/
def push (m : Nat → Nat) (s b : Nat) : Nat → Nat := upd m s b
theorem live_new {L : Hp} {σ : List Hp} {m : Nat → Nat} {mt : List (Nat → Nat)} {s B : Nat} {g : Nat} {cs : List D} {k s' b : Nat} {cs' : List D}
    (h : Live (upd L s ⟨g, some cs⟩ :: σ) (upd m s B :: mt) k s' b cs') :
    (k = 0 ∧ s' = s ∧ b = B ∧ cs' = cs) ∨ (¬(k = 0 ∧ s' = s) ∧ Live (L :: σ) (m :: mt) k s' b cs') := by
  obtain ⟨x, y, h1, h2, h3, h4⟩ := h
  cases k with
  | zero =>
    simp at h1 h2
    subst h1; subst h2
    by_cases e : s' = s
    · subst e
      rw [upd_same] at h3 h4
      simp at h3
      exact .inl ⟨rfl, rfl, h4.symm, h3.symm⟩
    · rw [upd_other _ _ e] at h3 h4
      exact .inr ⟨fun z => e z.2, L, m, rfl, rfl, h3, h4⟩
  | succ k =>
    simp at h1 h2
    exact .inr ⟨fun z => by simp at z, x, y, by simpa using h1, by simpa using h2, h3, h4⟩
theorem VRptr.new {L : Hp} {σ : List Hp} {m : Nat → Nat} {mt : List (Nat → Nat)} {s B : Nat} {cs : List D} {k s' g off : Nat} {v : Value}
    (h : VRptr (L :: σ) (m :: mt) k s' g off v) : VRptr (upd L s ⟨(L s).g + 1, some cs⟩ :: σ) (upd m s B :: mt) k s' g off v := by
  obtain ⟨x, y, b, h1, h2, h3, h4, h5⟩ := h
  cases k with
  | zero =>
    simp at h1 h2
    subst h1; subst h2
    refine ⟨_, _, b, rfl, rfl, h3, ?_, ?_⟩
    · by_cases e : s' = s
      · subst e; rw [upd_same]; simp; omega
      · rw [upd_other _ _ e]; exact h4
    · by_cases e : s' = s
      · subst e; rw [upd_same]; intro _ hg; simp at hg; omega
      · rw [upd_other _ _ e, upd_other _ _ e]; exact h5
  | succ k => exact ⟨x, y, b, by simpa using h1, by simpa using h2, h3, h4, h5⟩
theorem VR.new {S : Stb} {L : Hp} {σ : List Hp} {m : Nat → Nat} {mt : List (Nat → Nat)} {s B : Nat} {cs : List D} {x : AV} {v : Value}
    (h : VR S (L :: σ) (m :: mt) x v) : VR S (upd L s ⟨(L s).g + 1, some cs⟩ :: σ) (upd m s B :: mt) x v := by
  cases x with
  | ptr k s g off => exact VRptr.new h
  | func f caps => obtain ⟨cv, h1, h2, h3⟩ := h; exact ⟨cv, h1, h2, fun j p u a b => (h3 j p u a b).new⟩
  | _ => exact h
theorem heap_push_old {w : World} {o : Obj} {b : Nat} (h : b < w.heap.size) : (w.alloc o).heap[b]? = w.heap[b]? := by
  exact Go.heap_alloc_old (w := w) (o := o) h
theorem heap_push_new {w : World} {o : Obj} : (w.alloc o).heap[w.heap.size]? = some o := heap_alloc_new w o
theorem cell_push_old {w : World} {o : Obj} {ad : Addr} (h : ad.block < w.heap.size) : (w.alloc o).cell? ad = w.cell? ad := by
  simp only [World.cell?, heap_push_old h]
theorem size_push {w : World} {o : Obj} : (w.alloc o).heap.size = w.heap.size + 1 := by
  show (w.heap.push o).size = _
  simp
theorem Rel.alloc {S : Stb} {m : Nat → Nat} {mt : List (Nat → Nat)} {ow : Nat → Option Nat} {base : Nat} {O : Nat → Prop} {ρ : Env} {L : Hp} {σ : List Hp} {G : Gh} {a : Act} {w : World}
    (h : Rel S (m :: mt) ow base O ρ L σ G a w) {s : Nat} {cs : List D} {vs : Array Value} {e : TypeId} (hv : VRDs S cs vs.toList) (ho : cs.all D.one = true) (hs : s < a.tmps.size) :
    Rel S (upd m s w.heap.size :: mt) ow base O (upd ρ s (.ptr 0 s ((L s).g + 1) 0)) (upd L s ⟨(L s).g + 1, some cs⟩) σ G (a.put (some s) (.pointer (some ⟨w.heap.size, 0, none⟩))) (w.alloc (.cells vs e)) := by
  have hold : ∀ {k s' b cs'}, Live (L :: σ) (m :: mt) k s' b cs' → b < w.heap.size := fun hl => h.h.block_lt hl
  refine { h := { sub := ?_, len := ?_, box := ?_, nos := ?_, inj := ?_, gbox := fun {b cs'} hb => (h.h.gbox hb).mono (Sub.refl S) (heap_push_old (h.h.g_lt hb)), gnos := h.h.gnos, gnl := fun {b cs' k s' c2} hb hl => ?_ }, tmp := fun i => ?_, own := fun {i sz es} hi => ?_, ownI := fun {i j sz es sz' es' g} hi hj => ?_, ownB := fun {i sz es g} hi gi => ?_,
           new := fun {s' b cs'} hl => ?_, old := fun {k s' b cs'} hl => ?_, gold := h.gold, dfs := h.dfs, bas := by rw [size_push]; exact Nat.le_succ_of_le h.bas }
  · intro ad v hS
    rw [cell_push_old (h.h.S_lt hS)]; exact h.h.sub _ _ hS
  · have := h.h.len; simpa using this
  · intro k s' b cs' hl
    rcases live_new hl with ⟨_, _, rfl, rfl⟩ | ⟨_, hl⟩
    · exact ⟨vs, e, heap_push_new, hv, ho⟩
    · exact (h.h.box hl).mono (Sub.refl S) (heap_push_old (hold hl))
  · intro k s' b cs' hl off sp
    rcases live_new hl with ⟨_, _, rfl, rfl⟩ | ⟨_, hl⟩
    · cases hS : S ⟨w.heap.size, off, sp⟩ with
      | none => rfl
      | some v => have := h.h.S_lt hS; simp at this
    · exact h.h.nos hl off sp
  · intro k s1 b c1 k' s2 c2 hl hl'
    rcases live_new hl with ⟨e1, e2, e3, _⟩ | ⟨_, hl⟩ <;> rcases live_new hl' with ⟨e4, e5, e6, _⟩ | ⟨_, hl'⟩
    · exact ⟨e1.trans e4.symm, e2.trans e5.symm⟩
    · exact absurd (hold hl') (by omega)
    · exact absurd (hold hl) (by omega)
    · exact h.h.inj hl hl'
  · rcases live_new hl with ⟨_, _, rfl, _⟩ | ⟨_, hl⟩
    · have := h.h.g_lt hb; omega
    · exact h.h.gnl hb hl
  · rw [put_getD hs]
    simp only [upd]
    split
    · refine ⟨_, _, w.heap.size, rfl, rfl, rfl, ?_, ?_⟩
      · rw [upd_same]; exact Nat.le_refl _
      · intro _ _; rw [upd_same]
    · exact (h.tmp i).new
  · rw [put_getD hs]
    simp only [upd] at hi
    split at hi
    · cases hi
    · rename_i hne
      rw [if_neg hne]
      have hown := h.own hi
      exact hown.mono (Sub.refl S) (fun g hg => by rw [hg] at hown; exact heap_push_old hown.lt) (fun _ _ _ _ => rfl)
  · simp only [upd] at hi hj
    split at hi
    · cases hi
    · split at hj
      · cases hj
      · exact h.ownI hi hj
  · simp only [upd] at hi
    split at hi
    · cases hi
    · refine ⟨(h.ownB hi gi).1, (h.ownB hi gi).2.1, fun k s' cs' hl => ?_⟩
      rcases live_new hl with ⟨_, _, e3, _⟩ | ⟨_, hl⟩
      · have hown := h.own hi; rw [gi] at hown; have := hown.lt; omega
      · exact (h.ownB hi gi).2.2 _ _ _ hl
  · rcases live_new hl with ⟨_, _, rfl, _⟩ | ⟨_, hl⟩
    · exact h.bas
    · exact h.new hl
  · rcases live_new hl with ⟨e1, _⟩ | ⟨_, hl⟩
    · simp at e1
    · exact h.old hl
theorem Evo.alloc {base : Nat} {O : Nat → Prop} {S : Stb} {w : World} (hb : base ≤ w.heap.size) (o : Obj) : Evo base O S w S (w.alloc o) :=
  ⟨by rw [size_push]; omega, fun b h _ => heap_push_old (by omega), fun _ _ => rfl, Sub.refl S, rfl, rfl, rfl⟩

/-! ### a store into a box -/
theorem live_set {lv : List Hp} {ms : List (Nat → Nat)} {k s : Nat} {h : Hp} {g : Nat} {cs1 cs : List D} (hk : lv[k]? = some h) (hc : (h s).c = some cs1) (hg : (h s).g = g) {k' s' b : Nat} {cs' : List D}
    (hl : Live (lv.set k (upd h s ⟨g, some cs⟩)) ms k' s' b cs') : (k' = k ∧ s' = s ∧ cs' = cs ∧ Live lv ms k s b cs1) ∨ (¬(k' = k ∧ s' = s) ∧ Live lv ms k' s' b cs') := by
  obtain ⟨x, y, h1, h2, h3, h4⟩ := hl
  rw [List.getElem?_set] at h1
  split at h1
  · rename_i e
    subst e
    split at h1
    · simp at h1
      subst h1
      by_cases e : s' = s
      · subst e
        rw [upd_same] at h3
        simp at h3
        exact .inl ⟨rfl, rfl, h3.symm, h, y, hk, h2, hc, h4⟩
      · rw [upd_other _ _ e] at h3
        exact .inr ⟨fun z => e z.2, h, y, hk, h2, h3, h4⟩
    · cases h1
  · rename_i e
    exact .inr ⟨fun z => e z.1.symm, x, y, h1, h2, h3, h4⟩
theorem live_set' {lv : List Hp} {ms : List (Nat → Nat)} {k s : Nat} {h : Hp} {g : Nat} {cs1 cs : List D} (hk : lv[k]? = some h) (hc : (h s).c = some cs1) {k' s' b : Nat} {cs' : List D}
    (hl : Live lv ms k' s' b cs') : ∃ cs'', Live (lv.set k (upd h s ⟨g, some cs⟩)) ms k' s' b cs'' := by
  obtain ⟨x, y, h1, h2, h3, h4⟩ := hl
  by_cases e : k' = k
  · subst e
    rw [hk] at h1; cases h1
    have hlt := (List.getElem?_eq_some_iff.1 hk).1
    by_cases e2 : s' = s
    · subst e2
      exact ⟨cs, _, y, by rw [List.getElem?_set]; simp [hlt]; rfl, h2, by rw [upd_same], h4⟩
    · exact ⟨cs', _, y, by rw [List.getElem?_set]; simp [hlt]; rfl, h2, by rw [upd_other _ _ e2]; exact h3, h4⟩
  · exact ⟨cs', x, y, by rw [List.getElem?_set, if_neg (Ne.symm e)]; exact h1, h2, h3, h4⟩
theorem shape_set {lv : List Hp} {k s : Nat} {h : Hp} {g : Nat} {cs1 cs : List D} (hk : lv[k]? = some h) (hc : (h s).c = some cs1) (hg : (h s).g = g) : Shape lv (lv.set k (upd h s ⟨g, some cs⟩)) := by
  refine ⟨by simp, fun k' x y hx hy s' => ?_⟩
  rw [List.getElem?_set] at hy
  split at hy
  · rename_i e
    subst e
    rw [hk] at hx; cases hx
    split at hy
    · simp at hy
      subst hy
      by_cases e : s' = s
      · subst e; rw [upd_same]; simp [hc, hg]
      · rw [upd_other _ _ e]; exact ⟨rfl, Iff.rfl⟩
    · cases hy
  · rw [hx] at hy; cases hy; exact ⟨rfl, Iff.rfl⟩
theorem Rel.store {S : Stb} {ms : List (Nat → Nat)} {ow : Nat → Option Nat} {base : Nat} {O : Nat → Prop} {ρ : Env} {L : Hp} {σ : List Hp} {G : Gh} {a : Act} {w w' : World}
    (h : Rel S ms ow base O ρ L σ G a w) {k s g b : Nat} {x : Hp} {cs1 cs : List D} (hk : (L :: σ)[k]? = some x) (hc : (x s).c = some cs1) (hg : (x s).g = g) (hl : Live (L :: σ) ms k s b cs1)
    (hsz : w'.heap.size = w.heap.size) (hw : ∀ i, i ≠ b → w'.heap[i]? = w.heap[i]?) (hbox : BoxAt S w' b cs) {L' : Hp} {σ' : List Hp} (he : (L :: σ).set k (upd x s ⟨g, some cs⟩) = L' :: σ') :
    Rel S ms ow base O ρ L' σ' G a w' := by
  have hsh := shape_set (cs := cs) hk hc hg
  rw [he] at hsh
  have hlv : ∀ {k' s' b' cs'}, Live (L' :: σ') ms k' s' b' cs' → (k' = k ∧ s' = s ∧ cs' = cs ∧ Live (L :: σ) ms k s b' cs1) ∨ (¬(k' = k ∧ s' = s) ∧ Live (L :: σ) ms k' s' b' cs') := fun hl' => live_set hk hc hg (he ▸ hl')
  have hany : ∀ {k' s' b' cs'}, Live (L' :: σ') ms k' s' b' cs' → ∃ cs'', Live (L :: σ) ms k' s' b' cs'' := fun hl' => by
    rcases hlv hl' with ⟨rfl, rfl, _, hl⟩ | ⟨_, hl⟩
    · exact ⟨_, hl⟩
    · exact ⟨_, hl⟩
  have hb : ∀ {b' cs'}, Live (L :: σ) ms k s b' cs' → b' = b := fun hl' => by
    obtain ⟨x1, y1, a1, a2, a3, a4⟩ := hl
    obtain ⟨x2, y2, b1, b2, b3, b4⟩ := hl'
    rw [a2] at b2; cases b2; exact b4.symm.trans a4
  refine { h := { sub := ?_, len := ?_, box := ?_, nos := ?_, inj := ?_, gbox := fun {b' cs'} hb' => (h.h.gbox hb').mono (Sub.refl S) (hw _ fun e => h.h.gnl hb' (e ▸ hl)), gnos := h.h.gnos, gnl := fun {b' c1 k' s' c2} hb' hl' => by obtain ⟨_, h2⟩ := hany hl'; exact h.h.gnl hb' h2 }, tmp := fun i => (h.tmp i).shape hsh, own := fun {i sz es} hi => ?_, ownI := h.ownI, ownB := fun {i sz es g} hi gi => ?_,
           new := fun {s' b cs'} hl' => ?_, old := fun {k s' b cs'} hl' => ?_, gold := h.gold, dfs := h.dfs, bas := by rw [hsz]; exact h.bas }
  · intro ad v hS
    have hne : ad.block ≠ b := fun e => by
      have := h.h.nos hl ad.off ad.spot
      rw [← e] at this
      have : S ad = none := this
      rw [this] at hS; cases hS
    have : w'.cell? ad = w.cell? ad := by simp only [World.cell?, hw _ hne]
    rw [this]; exact h.h.sub _ _ hS
  · have := h.h.len; rw [this, ← he]; simp
  · intro k' s' b' cs' hl'
    rcases hlv hl' with ⟨_, _, rfl, hl2⟩ | ⟨hne, hl2⟩
    · rw [hb hl2]; exact hbox
    · refine (h.h.box hl2).mono (Sub.refl S) (hw _ fun e => hne ?_)
      subst e
      exact h.h.inj hl2 hl
  · intro k' s' b' cs' hl' off sp
    obtain ⟨_, hl2⟩ := hany hl'
    exact h.h.nos hl2 off sp
  · intro k1 s1 b1 c1 k2 s2 c2 hl1 hl2
    obtain ⟨_, h1⟩ := hany hl1
    obtain ⟨_, h2⟩ := hany hl2
    exact h.h.inj h1 h2
  · have hown := h.own hi
    exact hown.mono (Sub.refl S) (fun g' hg' => hw g' fun e => by subst e; exact (h.ownB hi hg').2.2 _ _ _ hl) (fun _ _ _ _ => rfl)
  · exact ⟨(h.ownB hi gi).1, (h.ownB hi gi).2.1, fun k' s' cs' hl' => by obtain ⟨_, h2⟩ := hany hl'; exact (h.ownB hi gi).2.2 _ _ _ h2⟩
  · obtain ⟨_, h2⟩ := hany hl'; exact h.new h2
  · obtain ⟨_, h2⟩ := hany hl'; exact h.old h2
theorem Evo.store {base : Nat} {O : Nat → Prop} {S : Stb} {w w' : World} {b : Nat} (hsz : w'.heap.size = w.heap.size) (hw : ∀ i, i ≠ b → w'.heap[i]? = w.heap[i]?) (hb : b < base → O b)
    (h1 : w'.os = w.os) (h2 : w'.tape = w.tape) (h3 : w'.output = w.output) : Evo base O S w S w' :=
  ⟨by omega, fun i hi hO => hw i fun e => by subst e; exact hO (hb hi), fun _ _ => rfl, Sub.refl S, h1, h2, h3⟩

/-! ### blocks that may change -/
theorem Rel.g_none {S : Stb} {ms : List (Nat → Nat)} {ow : Nat → Option Nat} {base : Nat} {O : Nat → Prop} {ρ : Env} {L : Hp} {σ : List Hp} {G : Gh} {a : Act} {w : World} (h : Rel S ms ow base O ρ L σ G a w) : G w.heap.size = none := by
  cases hg : G w.heap.size with
  | none => rfl
  | some c => have := h.h.g_lt hg; omega
/-- A new block that may change. -/
theorem Rel.allocG {S : Stb} {ms : List (Nat → Nat)} {ow : Nat → Option Nat} {base : Nat} {O : Nat → Prop} {ρ : Env} {L : Hp} {σ : List Hp} {G : Gh} {a : Act} {w w' : World}
    (h : Rel S ms ow base O ρ L σ G a w) {cs : List D} (hsz : w'.heap.size = w.heap.size + 1) (hold : ∀ b, b < w.heap.size → w'.heap[b]? = w.heap[b]?) (hB : BoxAt S w' w.heap.size cs) :
    Rel S ms ow base O ρ L σ (upd G w.heap.size (some cs)) a w' := by
  have hg0 : G w.heap.size = none := by
    cases hg : G w.heap.size with
    | none => rfl
    | some c => have := h.h.g_lt hg; omega
  have hnl : ∀ {k s cs'}, ¬ Live (L :: σ) ms k s w.heap.size cs' := fun hl => by have := h.h.block_lt hl; omega
  have hnos : ∀ off sp, S ⟨w.heap.size, off, sp⟩ = none := fun off sp => by
    cases hS : S ⟨w.heap.size, off, sp⟩ with
    | none => rfl
    | some v => have := h.h.S_lt hS; simp at this
  have h1 : Rel S ms ow base O ρ L σ G a w' := h.ext (g := w.heap.size) (fun k s cs => hnl) hg0 (fun i sz es hi e => by have := h.own hi; rw [e] at this; have := this.lt; omega) (by omega) (fun b hb _ => hold b hb) (Sub.refl S) (fun _ _ _ => rfl) (fun ad v hS => by
    have := h.h.S_lt hS
    have e : w'.cell? ad = w.cell? ad := by simp only [World.cell?, hold _ this]
    rw [e]; exact h.h.sub _ _ hS)
  have at_ : ∀ {b c}, upd G w.heap.size (some cs) b = some c → (b = w.heap.size ∧ c = cs) ∨ (b ≠ w.heap.size ∧ G b = some c) := fun {b c} hb => by
    by_cases e : b = w.heap.size
    · subst e; rw [upd_same] at hb; cases hb; exact .inl ⟨rfl, rfl⟩
    · rw [upd_other _ _ e] at hb; exact .inr ⟨e, hb⟩
  exact { h1 with
    h := { h1.h with
      gbox := fun hb => by rcases at_ hb with ⟨rfl, rfl⟩ | ⟨_, hb⟩; exact hB; exact h1.h.gbox hb
      gnos := fun hb off sp => by rcases at_ hb with ⟨rfl, rfl⟩ | ⟨_, hb⟩; exact hnos off sp; exact h1.h.gnos hb off sp
      gnl := fun hb hl => by rcases at_ hb with ⟨rfl, rfl⟩ | ⟨_, hb⟩; exact hnl hl; exact h1.h.gnl hb hl }
    ownB := fun {i sz es g} hi gi => ⟨(h1.ownB hi gi).1, by
      have hne : g ≠ w.heap.size := by have := h.own hi; rw [gi] at this; have := this.lt; omega
      rw [upd_other _ _ hne]; exact (h1.ownB hi gi).2.1, (h1.ownB hi gi).2.2⟩
    gold := fun hb hlt => by rcases at_ hb with ⟨rfl, rfl⟩ | ⟨_, hb⟩; exact absurd h.bas (by omega); exact h1.gold hb hlt }
/-- A block that may change is changed. -/
theorem Rel.storeG {S : Stb} {ms : List (Nat → Nat)} {ow : Nat → Option Nat} {base : Nat} {O : Nat → Prop} {ρ : Env} {L : Hp} {σ : List Hp} {G : Gh} {a : Act} {w w' : World}
    (h : Rel S ms ow base O ρ L σ G a w) {g : Nat} {cs1 cs : List D} (hg : G g = some cs1) (hsz : w'.heap.size = w.heap.size) (hw : ∀ i, i ≠ g → w'.heap[i]? = w.heap[i]?) (hbox : BoxAt S w' g cs) :
    Rel S ms ow base O ρ L σ (upd G g (some cs)) a w' := by
  have at_ : ∀ {b c}, upd G g (some cs) b = some c → (b = g ∧ c = cs) ∨ (b ≠ g ∧ G b = some c) := fun {b c} hb => by
    by_cases e : b = g
    · subst e; rw [upd_same] at hb; cases hb; exact .inl ⟨rfl, rfl⟩
    · rw [upd_other _ _ e] at hb; exact .inr ⟨e, hb⟩
  have hS : ∀ ad v, S ad = some v → ad.block ≠ g := fun ad v hS e => by
    have := h.h.gnos hg ad.off ad.spot
    rw [← e] at this
    have : S ad = none := this
    rw [this] at hS; cases hS
  refine { h := { sub := fun ad v hs => ?_, len := h.h.len, box := fun hl => (h.h.box hl).mono (Sub.refl S) (hw _ fun e => h.h.gnl hg (e ▸ hl)), nos := h.h.nos, inj := h.h.inj, gbox := fun hb => ?_, gnos := fun hb off sp => ?_, gnl := fun hb hl => ?_ },
           tmp := h.tmp, own := fun {i sz es} hi => ?_, ownI := h.ownI, ownB := fun {i sz es g'} hi gi => ⟨(h.ownB hi gi).1, ?_, (h.ownB hi gi).2.2⟩, new := h.new, old := h.old, gold := fun hb hlt => ?_, dfs := h.dfs, bas := by rw [hsz]; exact h.bas }
  · have e : w'.cell? ad = w.cell? ad := by simp only [World.cell?, hw _ (hS ad v hs)]
    rw [e]; exact h.h.sub _ _ hs
  · rcases at_ hb with ⟨rfl, rfl⟩ | ⟨hne, hb⟩
    · exact hbox
    · exact (h.h.gbox hb).mono (Sub.refl S) (hw _ hne)
  · rcases at_ hb with ⟨rfl, rfl⟩ | ⟨hne, hb⟩
    · exact h.h.gnos hg off sp
    · exact h.h.gnos hb off sp
  · rcases at_ hb with ⟨rfl, rfl⟩ | ⟨hne, hb⟩
    · exact h.h.gnl hg hl
    · exact h.h.gnl hb hl
  · have hown := h.own hi
    exact hown.mono (Sub.refl S) (fun g' hg' => hw g' fun e => by have := (h.ownB hi hg').2.1; rw [e, hg] at this; cases this) (fun _ _ _ _ => rfl)
  · have hne : g' ≠ g := fun e => by have := (h.ownB hi gi).2.1; rw [e, hg] at this; cases this
    rw [upd_other _ _ hne]; exact (h.ownB hi gi).2.1
  · rcases at_ hb with ⟨rfl, rfl⟩ | ⟨hne, hb⟩
    · exact h.gold hg hlt
    · exact h.gold hb hlt
end Go.E2
