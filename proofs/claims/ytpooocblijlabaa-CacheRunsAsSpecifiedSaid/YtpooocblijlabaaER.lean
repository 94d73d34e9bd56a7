/-
  The relation between the evaluator's state and the machine's, and how it is kept.
  Conditions: none; definitions and laws.
-/
import Derived.Test.YtpooocblijlabaaEC
namespace Go.E2

def Live (lv : List Hp) (ms : List (Nat → Nat)) (k s b : Nat) (cs : List D) : Prop :=
  ∃ h m, lv[k]? = some h ∧ ms[k]? = some m ∧ (h s).c = some cs ∧ m s = b
def BoxAt (S : Stb) (w : World) (b : Nat) (cs : List D) : Prop :=
  ∃ (vs : Array Value) (e : TypeId), w.heap[b]? = some (.cells vs e (0, 0)) ∧ VRDs S cs vs.toList ∧ cs.all D.one = true
def OwnAt (S : Stb) (w : World) (sz : Nat) (es : List D) (v : Value) : Option Nat → Prop
  | none => es = [] ∧ (v = .slice none 0 0 ∨ ∃ a : Addr, v = .slice (some a) 0 0 ∧ a.spot = none)
  | some g => ∃ (cap : Nat) (cur : Array Value) (e : TypeId), v = .slice (some ⟨g, 0, none⟩) es.length cap ∧ w.heap[g]? = some (.cells cur e (0, 0)) ∧ es.length ≤ cap ∧ cap ≤ maxLen ∧
      cur.size = cap * sz ∧ es.all (sizeOk sz) = true ∧ VRDs S (flat es) (cur.toList.take (es.length * sz)) ∧
      (∀ (j : Nat) (u : Value), (cur.toList.take (es.length * sz))[j]? = some u → S ⟨g, j, none⟩ = some u) ∧ (∀ off sp, es.length * sz ≤ off → S ⟨g, off, sp⟩ = none)
def VRptr (lv : List Hp) (ms : List (Nat → Nat)) (k s g off : Nat) (v : Value) : Prop :=
  ∃ h m b, lv[k]? = some h ∧ ms[k]? = some m ∧ v = .pointer (some ⟨b, off, none⟩) ∧ g ≤ (h s).g ∧ ((h s).c ≠ none → g = (h s).g → b = m s)
def VR (S : Stb) (lv : List Hp) (ms : List (Nat → Nat)) : AV → Value → Prop
  | .d x, v => VRD S x v
  | .ptr k s g off, v => VRptr lv ms k s g off v
  | .cptr cs, v => ∃ (a : Addr) (c : List Value), v = .pointer (some a) ∧ a.spot = none ∧ VRDs S cs c ∧ cs.all D.one = true ∧ ∀ (j : Nat) (u : Value), c[j]? = some u → S ⟨a.block, a.off + j, none⟩ = some u
  | .func f caps, v => ∃ cv : Array Value, v = .func (.func f) #[] cv ∧ cv.size = caps.length ∧ ∀ (j : Nat) (p : Nat × Nat × Nat) (u : Value), caps[j]? = some p → cv[j]? = some u → VRptr lv ms p.1 p.2.1 p.2.2 0 u
  | .own _ es, v => VRD S (.list es) v
  | .tup xs, v => ∃ vs : Array Value, v = .tuple vs ∧ VRDs S xs vs.toList
  | .skp, v => v = Go.undef
  | .undef, _ => True
structure RelH (S : Stb) (ms : List (Nat → Nat)) (lv : List Hp) (G : Gh) (w : World) : Prop where
  sub : ∀ ad v, S ad = some v → w.cell? ad = some v
  len : ms.length = lv.length
  box : ∀ {k s b cs}, Live lv ms k s b cs → BoxAt S w b cs
  nos : ∀ {k s b cs}, Live lv ms k s b cs → ∀ off sp, S ⟨b, off, sp⟩ = none
  inj : ∀ {k s b cs k' s' cs'}, Live lv ms k s b cs → Live lv ms k' s' b cs' → k = k' ∧ s = s'
  gbox : ∀ {b cs}, G b = some cs → BoxAt S w b cs
  gnos : ∀ {b cs}, G b = some cs → ∀ off sp, S ⟨b, off, sp⟩ = none
  gnl : ∀ {b cs k s cs'}, G b = some cs → ¬ Live lv ms k s b cs'
structure Rel (S : Stb) (ms : List (Nat → Nat)) (ow : Nat → Option Nat) (base : Nat) (O : Nat → Prop) (ρ : Env) (L : Hp) (σ : List Hp) (G : Gh) (a : Act) (w : World) : Prop where
  h : RelH S ms (L :: σ) G w
  tmp : ∀ i, VR S (L :: σ) ms (ρ i) (a.tmps.getD i undef)
  own : ∀ {i sz es}, ρ i = .own sz es → OwnAt S w sz es (a.tmps.getD i undef) (ow i)
  ownI : ∀ {i j sz es sz' es' g}, ρ i = .own sz es → ρ j = .own sz' es' → ow i = some g → ow j = some g → i = j
  ownB : ∀ {i sz es g}, ρ i = .own sz es → ow i = some g → base ≤ g ∧ G g = none ∧ ∀ k s cs, ¬ Live (L :: σ) ms k s g cs
  new : ∀ {s b cs}, Live (L :: σ) ms 0 s b cs → base ≤ b
  old : ∀ {k s b cs}, Live (L :: σ) ms (k + 1) s b cs → b < base ∧ O b
  gold : ∀ {b cs}, G b = some cs → b < base → O b
  dfs : a.defers = []
  bas : base ≤ w.heap.size
/-- What has become of the world: blocks below 'base' are as they were, but for those in 'O'. -/
structure Evo (base : Nat) (O : Nat → Prop) (S : Stb) (w : World) (S' : Stb) (w' : World) : Prop where
  sz : w.heap.size ≤ w'.heap.size
  keep : ∀ b, b < base → ¬ O b → w'.heap[b]? = w.heap[b]?
  st : ∀ ad, ad.block < base → S' ad = S ad
  sub : Sub S S'
  os : w'.os = w.os
  tape : w'.tape = w.tape
  out : w'.output = w.output
theorem Evo.refl (base : Nat) (O : Nat → Prop) (S : Stb) (w : World) : Evo base O S w S w :=
  ⟨Nat.le_refl _, fun _ _ _ => rfl, fun _ _ => rfl, Sub.refl S, rfl, rfl, rfl⟩
theorem Evo.trans {base : Nat} {O : Nat → Prop} {S S' S'' : Stb} {w w' w'' : World} (h : Evo base O S w S' w') (h' : Evo base O S' w' S'' w'') : Evo base O S w S'' w'' :=
  ⟨Nat.le_trans h.sz h'.sz, fun b x y => (h'.keep b x y).trans (h.keep b x y), fun ad x => (h'.st ad x).trans (h.st ad x), h.sub.trans h'.sub, h'.os.trans h.os, h'.tape.trans h.tape, h'.out.trans h.out⟩

theorem cell_none_of_size {w : World} {ad : Addr} (h : w.heap.size ≤ ad.block) : w.cell? ad = none := by
  simp [World.cell?, Array.getElem?_eq_none h]
theorem RelH.block_lt {S : Stb} {ms : List (Nat → Nat)} {lv : List Hp} {G : Gh} {w : World} (h : RelH S ms lv G w) {k s b : Nat} {cs : List D} (hl : Live lv ms k s b cs) : b < w.heap.size := by
  obtain ⟨vs, e, hb, _⟩ := h.box hl
  exact (Array.getElem?_eq_some_iff.1 hb).1
theorem RelH.g_lt {S : Stb} {ms : List (Nat → Nat)} {lv : List Hp} {G : Gh} {w : World} (h : RelH S ms lv G w) {b : Nat} {cs : List D} (hb : G b = some cs) : b < w.heap.size := by
  obtain ⟨vs, e, hb, _⟩ := h.gbox hb
  exact (Array.getElem?_eq_some_iff.1 hb).1
theorem RelH.S_lt {S : Stb} {ms : List (Nat → Nat)} {lv : List Hp} {G : Gh} {w : World} (h : RelH S ms lv G w) {ad : Addr} {v : Value} (hs : S ad = some v) : ad.block < w.heap.size := by
  rcases Nat.lt_or_ge ad.block w.heap.size with hlt | hge
  · exact hlt
  · have := h.sub _ _ hs; rw [cell_none_of_size hge] at this; cases this
theorem RelH.S_spot {S : Stb} {ms : List (Nat → Nat)} {lv : List Hp} {G : Gh} {w : World} (h : RelH S ms lv G w) {ad : Addr} {v : Value} (hs : S ad = some v) : ad.spot = none := by
  have := h.sub _ _ hs
  unfold World.cell? at this
  split at this
  · split at this
    · cases this
    · rename_i hn; simpa using hn
  · cases this
theorem VR.mono {S S' : Stb} {lv : List Hp} {ms : List (Nat → Nat)} (hs : Sub S S') {x : AV} {v : Value} (h : VR S lv ms x v) : VR S' lv ms x v := by
  cases x with
  | d x => exact VRD.mono hs h
  | ptr k s g off => exact h
  | cptr cs => obtain ⟨a, c, h1, h2, h3, h4, h5⟩ := h; exact ⟨a, c, h1, h2, h3.mono hs, h4, fun j u hj => hs _ _ (h5 j u hj)⟩
  | func f caps => exact h
  | own sz es => exact VRD.mono hs h
  | tup xs => obtain ⟨vs, h1, h2⟩ := h; exact ⟨vs, h1, h2.mono hs⟩
  | skp => exact h
  | undef => trivial
theorem BoxAt.mono {S S' : Stb} {w w' : World} (hs : Sub S S') {b : Nat} {cs : List D} (hb : w'.heap[b]? = w.heap[b]?) (h : BoxAt S w b cs) : BoxAt S' w' b cs := by
  obtain ⟨vs, e, h1, h2, h3⟩ := h
  exact ⟨vs, e, hb.trans h1, h2.mono hs, h3⟩
theorem OwnAt.mono {S S' : Stb} {w w' : World} (hs : Sub S S') {sz : Nat} {es : List D} {v : Value} {R : Option Nat} (hb : ∀ g, R = some g → w'.heap[g]? = w.heap[g]?)
    (hS : ∀ g, R = some g → ∀ off sp, S' ⟨g, off, sp⟩ = S ⟨g, off, sp⟩) (h : OwnAt S w sz es v R) : OwnAt S' w' sz es v R := by
  cases R with
  | none => exact h
  | some g =>
    obtain ⟨cap, cur, e, h1, h2, h3, h4, h5, h6, h7, h8, h9⟩ := h
    exact ⟨cap, cur, e, h1, (hb g rfl).trans h2, h3, h4, h5, h6, h7.mono hs, fun j u hj => hs _ _ (h8 j u hj), fun off sp ho => (hS g rfl off sp).trans (h9 off sp ho)⟩
theorem OwnAt.lt {S : Stb} {w : World} {sz : Nat} {es : List D} {v : Value} {g : Nat} (h : OwnAt S w sz es v (some g)) : g < w.heap.size := by
  obtain ⟨cap, cur, e, _, h2, _⟩ := h
  exact (Array.getElem?_eq_some_iff.1 h2).1
theorem OwnAt.vrd {S : Stb} {w : World} {sz : Nat} {es : List D} {v : Value} {R : Option Nat} (h : OwnAt S w sz es v R) : VRD S (.list es) v := by
  cases R with
  | none =>
    obtain ⟨rfl, rfl | ⟨a, rfl, hsp⟩⟩ := h
    · exact .nilL
    · exact VRD.list_mk (sz := 0) (es := []) (c := []) hsp (Nat.le_refl _) rfl VRDs.nil (fun j v hj => by simp at hj)
  | some g =>
    obtain ⟨cap, cur, e, rfl, h2, h3, h4, h5, h6, h7, h8, h9⟩ := h
    exact VRD.list_mk rfl h3 h6 h7 (fun j v hj => by simpa using h8 j v hj)
/-- New cells that do not change any more; blocks that nobody owns may change. -/
theorem RelH.ext {S S' : Stb} {ms : List (Nat → Nat)} {lv : List Hp} {G : Gh} {w w' : World} {g : Nat} (h : RelH S ms lv G w)
    (hg : ∀ k s cs, ¬ Live lv ms k s g cs) (hgG : G g = none) (hw : ∀ b, b < w.heap.size → b ≠ g → w'.heap[b]? = w.heap[b]?)
    (hs : Sub S S') (hS : ∀ ad, ad.block < w.heap.size → ad.block ≠ g → S' ad = S ad) (hc : ∀ ad v, S' ad = some v → w'.cell? ad = some v) : RelH S' ms lv G w' := by
  have ne : ∀ {b cs}, G b = some cs → b ≠ g := fun hb e => by rw [e, hgG] at hb; cases hb
  refine ⟨hc, h.len, fun {k s b cs} hl => ?_, fun {k s b cs} hl off sp => ?_, h.inj, fun {b cs} hb => (h.gbox hb).mono hs (hw b (h.g_lt hb) (ne hb)), fun {b cs} hb off sp => by rw [hS ⟨b, off, sp⟩ (h.g_lt hb) (ne hb)]; exact h.gnos hb off sp, h.gnl⟩
  · have hb := h.block_lt hl
    exact (h.box hl).mono hs (hw b hb (fun e => hg k s cs (e ▸ hl)))
  · have hb := h.block_lt hl
    rw [hS ⟨b, off, sp⟩ hb (fun e => hg k s cs (e ▸ hl))]
    exact h.nos hl off sp
theorem Rel.ext {S S' : Stb} {ms : List (Nat → Nat)} {ow : Nat → Option Nat} {base : Nat} {O : Nat → Prop} {ρ : Env} {L : Hp} {σ : List Hp} {G : Gh} {a : Act} {w w' : World} {g : Nat}
    (h : Rel S ms ow base O ρ L σ G a w) (hg : ∀ k s cs, ¬ Live (L :: σ) ms k s g cs) (hgG : G g = none) (ho : ∀ i sz es, ρ i = .own sz es → ow i ≠ some g)
    (hsz : w.heap.size ≤ w'.heap.size) (hw : ∀ b, b < w.heap.size → b ≠ g → w'.heap[b]? = w.heap[b]?)
    (hs : Sub S S') (hS : ∀ ad, ad.block < w.heap.size → ad.block ≠ g → S' ad = S ad) (hc : ∀ ad v, S' ad = some v → w'.cell? ad = some v) :
    Rel S' ms ow base O ρ L σ G a w' :=
  { h := h.h.ext hg hgG hw hs hS hc
    tmp := fun i => (h.tmp i).mono hs
    own := fun {i sz es} hi => (h.own hi).mono hs
      (fun g' hg' => hw g' (by have := h.own hi; rw [hg'] at this; exact this.lt) (fun e => ho i sz es hi (e ▸ hg')))
      (fun g' hg' off sp => hS ⟨g', off, sp⟩ (by have := h.own hi; rw [hg'] at this; exact this.lt) (fun e => ho i sz es hi (e ▸ hg')))
    ownI := h.ownI
    ownB := h.ownB
    new := h.new
    old := h.old
    gold := h.gold
    dfs := h.dfs
    bas := Nat.le_trans h.bas hsz }

theorem upd_same {α : Type} (f : Nat → α) (i : Nat) (v : α) : upd f i v i = v := by simp [upd]
theorem upd_other {α : Type} (f : Nat → α) {i j : Nat} (v : α) (h : j ≠ i) : upd f i v j = f j := by simp [upd, h]
theorem put_getD {a : Act} {d : Nat} {v : Value} (hd : d < a.tmps.size) (i : Nat) : (a.put (some d) v).tmps.getD i undef = if i = d then v else a.tmps.getD i undef := by
  simp only [Act.put]
  by_cases h : i = d
  · subst h; simp [hd]
  · simp [h, Array.getElem?_setIfInBounds_ne (Ne.symm h)]
theorem put_size {a : Act} {d : Option Nat} {v : Value} : (a.put d v).tmps.size = a.tmps.size := by cases d <;> simp [Act.put]
theorem put_defers {a : Act} {d : Option Nat} {v : Value} : (a.put d v).defers = a.defers := by cases d <;> rfl
/-- A value goes into its slot. -/
theorem Rel.put {S : Stb} {ms : List (Nat → Nat)} {ow : Nat → Option Nat} {base : Nat} {O : Nat → Prop} {ρ : Env} {L : Hp} {σ : List Hp} {G : Gh} {a : Act} {w : World}
    (h : Rel S ms ow base O ρ L σ G a w) {d : Option Nat} {x : AV} {v : Value} (hx : VR S (L :: σ) ms x v) (hn : ∀ sz es, x ≠ .own sz es) (hd : ∀ i, d = some i → i < a.tmps.size) :
    Rel S ms ow base O (put ρ d x) L σ G (a.put d v) w := by
  cases d with
  | none => exact h
  | some d =>
    have hd' := hd d rfl
    refine { h := h.h, tmp := fun i => ?_, own := fun {i sz es} hi => ?_, ownI := fun {i j sz es sz' es' g} hi hj => ?_, ownB := fun {i sz es g} hi => ?_, new := h.new, old := h.old, gold := h.gold, dfs := h.dfs, bas := h.bas }
    · rw [put_getD hd']
      simp only [E2.put, upd]
      split
      · exact hx
      · exact h.tmp i
    · rw [put_getD hd']
      simp only [E2.put, upd] at hi
      split at hi
      · exact absurd hi (hn sz es)
      · rename_i hne; rw [if_neg hne]; exact h.own hi
    · simp only [E2.put, upd] at hi hj
      split at hi
      · exact absurd hi (hn _ _)
      · split at hj
        · exact absurd hj (hn _ _)
        · exact h.ownI hi hj
    · simp only [E2.put, upd] at hi
      split at hi
      · exact absurd hi (hn _ _)
      · exact h.ownB hi
/-- A list with a block of its own goes into its slot. -/
theorem Rel.putOwn {S : Stb} {ms : List (Nat → Nat)} {ow : Nat → Option Nat} {base : Nat} {O : Nat → Prop} {ρ : Env} {L : Hp} {σ : List Hp} {G : Gh} {a : Act} {w : World}
    (h : Rel S ms ow base O ρ L σ G a w) {d : Nat} {sz : Nat} {es : List D} {v : Value} {R : Option Nat} (hx : OwnAt S w sz es v R)
    (hR : ∀ g, R = some g → base ≤ g ∧ G g = none ∧ (∀ k s cs, ¬ Live (L :: σ) ms k s g cs) ∧ ∀ i sz es, i ≠ d → ρ i = .own sz es → ow i ≠ some g) (hd : d < a.tmps.size) :
    Rel S ms (upd ow d R) base O (upd ρ d (.own sz es)) L σ G (a.put (some d) v) w := by
  refine { h := h.h, tmp := fun i => ?_, own := fun {i sz' es'} hi => ?_, ownI := fun {i j sz1 es1 sz2 es2 g} hi hj gi gj => ?_, ownB := fun {i sz' es' g} hi gi => ?_, new := h.new, old := h.old, gold := h.gold, dfs := h.dfs, bas := h.bas }
  · rw [put_getD hd]
    simp only [upd]
    split
    · exact hx.vrd
    · exact h.tmp i
  · rw [put_getD hd]
    simp only [upd] at hi ⊢
    split at hi
    · rename_i e; rw [if_pos e, if_pos e]; cases hi; exact hx
    · rename_i e; rw [if_neg e, if_neg e]; exact h.own hi
  · simp only [upd] at hi hj gi gj
    by_cases e1 : i = d <;> by_cases e2 : j = d
    · rw [e1, e2]
    · rw [if_pos e1] at gi; rw [if_neg e2] at hj gj
      exact absurd gj ((hR g gi).2.2.2 j _ _ e2 hj)
    · rw [if_neg e1] at hi gi; rw [if_pos e2] at gj
      exact absurd gi ((hR g gj).2.2.2 i _ _ e1 hi)
    · rw [if_neg e1] at hi gi; rw [if_neg e2] at hj gj
      exact h.ownI hi hj gi gj
  · simp only [upd] at hi gi
    by_cases e1 : i = d
    · rw [if_pos e1] at gi; exact ⟨(hR g gi).1, (hR g gi).2.1, (hR g gi).2.2.1⟩
    · rw [if_neg e1] at hi gi; exact h.ownB hi gi
theorem VR.cp {S : Stb} {lv : List Hp} {ms : List (Nat → Nat)} {x : AV} {v : Value} (h : VR S lv ms x v) : VR S lv ms x.cp v := by cases x <;> exact h
theorem cp_not_own {x : AV} : ∀ sz es, x.cp ≠ .own sz es := by intro sz es; cases x <;> simp [AV.cp]
theorem VR.data {S : Stb} {lv : List Hp} {ms : List (Nat → Nat)} {x : AV} {v : Value} {y : D} (h : VR S lv ms x v) (hy : x.data = some y) : VRD S y v := by
  cases x <;> simp [AV.data] at hy <;> subst hy <;> exact h
/-- A slot gives up what it owns. -/
theorem Rel.give {S : Stb} {ms : List (Nat → Nat)} {ow : Nat → Option Nat} {base : Nat} {O : Nat → Prop} {ρ : Env} {L : Hp} {σ : List Hp} {G : Gh} {a : Act} {w : World}
    (h : Rel S ms ow base O ρ L σ G a w) (x : AO) : Rel S ms ow base O (given ρ x) L σ G a w := by
  cases x with
  | c x => exact h
  | t i =>
    refine { h := h.h, tmp := fun j => ?_, own := fun {j sz es} hj => ?_, ownI := fun {j k sz es sz' es' g} hj hk => ?_, ownB := fun {j sz es g} hj => ?_, new := h.new, old := h.old, gold := h.gold, dfs := h.dfs, bas := h.bas }
    · simp only [given, upd]
      split
      · rename_i e; subst e; exact (h.tmp j).cp
      · exact h.tmp j
    · simp only [given, upd] at hj
      split at hj
      · exact absurd hj (cp_not_own _ _)
      · exact h.own hj
    · simp only [given, upd] at hj hk
      split at hj
      · exact absurd hj (cp_not_own _ _)
      · split at hk
        · exact absurd hk (cp_not_own _ _)
        · exact h.ownI hj hk
    · simp only [given, upd] at hj
      split at hj
      · exact absurd hj (cp_not_own _ _)
      · exact h.ownB hj
end Go.E2
