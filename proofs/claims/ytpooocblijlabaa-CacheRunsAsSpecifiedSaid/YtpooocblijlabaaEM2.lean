/-
  Calls: what is asked of a function, and what becomes of the caller.
  Conditions: none; definitions and laws.
-/
import Derived.Test.YtpooocblijlabaaEM1
import Derived.Orders
namespace Go.E2
theorem cOpers_get {c : Ctx} {ops : Array Oper} : ∀ {l : List Oper} {as : List AI}, cOpers c ops l = some as → as.length = l.length ∧ ∀ (i : Nat) (o : Oper), l[i]? = some o → ∃ a, as[i]? = some a ∧ cOper c ops o = some a
  | [], as, h => by simp [cOpers] at h; subst h; exact ⟨rfl, fun i o h => by simp at h⟩
  | o :: l, as, h => by
    simp only [cOpers] at h
    split at h
    · rename_i x xs hx hxs
      cases h
      obtain ⟨h1, h2⟩ := cOpers_get hxs
      refine ⟨by simp [h1], fun i o' ho => ?_⟩
      cases i with
      | zero => simp at ho; subst ho; exact ⟨x, rfl, hx⟩
      | succ i => obtain ⟨a, ha, hc⟩ := h2 i o' (by simpa using ho); exact ⟨a, by simpa using ha, hc⟩
    · cases h


/-! ### calls -/
def Ret (S : Stb) (w : World) (G : Gh) (base : Nat) : AV → Value → Prop
  | .d x, v => VRD S x v
  | .own sz es, v => ∃ R, OwnAt S w sz es v R ∧ ∀ g, R = some g → base ≤ g ∧ G g = none
  | .tup xs, v => ∃ vs : Array Value, v = .tuple vs ∧ VRDs S xs vs.toList
  | _, _ => False
def outer (lv : List Hp) (ms : List (Nat → Nat)) (G : Gh) (b : Nat) : Prop := (∃ k s cs, Live lv ms k s b cs) ∨ ∃ cs, G b = some cs
/-- The function has a body of its own, so that a call of it enters it. -/
def Called (P : Program) (f : FuncId) : Prop := ∃ fn c, P.funcs[f]? = some fn ∧ fn.body = some c ∧ (fn.name == "runtime.NumGoroutine") = false
theorem run_callFunc {P : Program} {w : World} {f : FuncId} {args : Array Value} (h : Called P f) : (callFunc f args).run P w = .ok (.enter f args) w := by
  obtain ⟨fn, c, hf, hb, hn⟩ := h
  have hn' : ¬ (fn.name = "runtime.NumGoroutine") := by simpa using hn
  simp [callFunc, hf, hn', hb]
/-- What has become of the machine's state behind a call that gives 'v' back. -/
def Post (S : Stb) (ms : List (Nat → Nat)) (w : World) (σ : List Hp) (G : Gh) (Q : AV → List Hp → Gh → Prop) (v : Value) (w' : World) : Prop :=
  ∃ S' r σ' G', Q r σ' G' ∧ RelH S' ms σ' G' w' ∧ Evo w.heap.size (outer σ ms G) S w S' w' ∧ Shape σ σ' ∧ Ret S' w' G' w.heap.size r v ∧ ∀ b cs, G' b = some cs → b < w.heap.size → ∃ cs0, G b = some cs0
theorem Post.mono {S : Stb} {ms : List (Nat → Nat)} {w : World} {σ : List Hp} {G : Gh} {Q Q' : AV → List Hp → Gh → Prop} {v : Value} {w' : World} (h : Post S ms w σ G Q v w') (hq : ∀ r σ' G', Q r σ' G' → Q' r σ' G') : Post S ms w σ G Q' v w' := by
  obtain ⟨S', r, σ', G', hQ, rest⟩ := h
  exact ⟨S', r, σ', G', hq _ _ _ hQ, rest⟩
/-- How a call of 'f' comes to an outcome of which 'R' holds: it is entered, or it is one of the model's own. -/
def Outcome (P : Program) (f : FuncId) (args : Array Value) (w : World) (R : Value → World → Prop) : Prop :=
  (Called P f ∧ Calls P f args w fun e w' => ∃ v, e = .returned v ∧ R v w') ∨ ∃ v w', (callFunc f args).run P w = .ok (.value v) w' ∧ R v w'
theorem Outcome.mono {P : Program} {f : FuncId} {args : Array Value} {w : World} {R R' : Value → World → Prop} (h : Outcome P f args w R) (hr : ∀ v w', R v w' → R' v w') : Outcome P f args w R' := by
  rcases h with ⟨hc, h⟩ | ⟨v, w', h, hR⟩
  · exact .inl ⟨hc, h.mono fun _ _ ⟨v, he, hR⟩ => ⟨v, he, hr _ _ hR⟩⟩
  · exact .inr ⟨v, w', h, hr _ _ hR⟩
/-- What a call comes to: from whatever state of the machine that the evaluator's state tells of, the function returns, and 'Q' holds of what it returns, of the boxes and of the blocks. -/
def CallT (P : Program) (f : FuncId) (vs : List AV) (σ : List Hp) (G : Gh) (Q : AV → List Hp → Gh → Prop) : Prop :=
  ∀ (S : Stb) (ms : List (Nat → Nat)) (w : World) (args : Array Value) (m0 : Nat → Nat), args.size = vs.length → RelH S ms σ G w → (∀ i, VR S (noHp :: σ) (m0 :: ms) (ofL vs i) (args.getD i undef)) → (∀ i sz es, ofL vs i ≠ .own sz es) →
  Outcome P f args w (Post S ms w σ G Q)
theorem CallT.mono {P : Program} {f : FuncId} {vs : List AV} {σ : List Hp} {G : Gh} {Q Q' : AV → List Hp → Gh → Prop} (h : CallT P f vs σ G Q) (hq : ∀ r σ' G', Q r σ' G' → Q' r σ' G') : CallT P f vs σ G Q' :=
  fun S ms w args m0 h0 h1 h2 h3 => (h S ms w args m0 h0 h1 h2 h3).mono fun _ _ hp => hp.mono hq
theorem live_shape {lv lv' : List Hp} {ms : List (Nat → Nat)} (hs : Shape lv lv') {k s b : Nat} {cs : List D} (h : Live lv' ms k s b cs) : ∃ cs', Live lv ms k s b cs' := by
  obtain ⟨x, m, h1, h2, h3, h4⟩ := h
  have hlt := (List.getElem?_eq_some_iff.1 h1).1
  obtain ⟨y, hy⟩ : ∃ y, lv[k]? = some y := ⟨_, List.getElem?_eq_getElem (by rw [← hs.1]; exact hlt)⟩
  have e := (hs.2 k y x hy h1 s).2
  cases hc : (y s).c with
  | none => rw [e.2 hc] at h3; cases h3
  | some cs' => exact ⟨cs', y, m, hy, h2, hc, h4⟩
section
variable {P : Program} {S : Stb} {ms : List (Nat → Nat)} {ow : Nat → Option Nat} {base : Nat} {O : Nat → Prop} {ρ : Env} {L : Hp} {σ : List Hp} {G : Gh} {a : Act} {w : World}
/-- Behind a call: what the caller held it still holds. -/
theorem Rel.called (h : Rel S ms ow base O ρ L σ G a w) {S' : Stb} {L' : Hp} {σ' : List Hp} {G' : Gh} {w' : World} (hr : RelH S' ms (L' :: σ') G' w') (he : Evo w.heap.size (outer (L :: σ) ms G) S w S' w') (hs : Shape (L :: σ) (L' :: σ'))
    (hG : ∀ b cs, G' b = some cs → b < w.heap.size → ∃ cs0, G b = some cs0) :
    Rel S' ms ow base O ρ L' σ' G' a w' ∧ Evo base O S w S' w' := by
  have hO : ∀ b, b < base → ¬ O b → ¬ outer (L :: σ) ms G b := by
    rintro b hb hn (⟨k, s, cs, hl⟩ | ⟨cs, hg⟩)
    · cases k with
      | zero => exact absurd (h.new hl) (by omega)
      | succ k => exact hn (h.old hl).2
    · exact hn (h.gold hg hb)
  have hno : ∀ {i sz es g}, ρ i = .own sz es → ow i = some g → ¬ outer (L :: σ) ms G g := by
    rintro i sz es g hi gi (⟨k, s, cs, hl⟩ | ⟨cs, hg⟩)
    · exact (h.ownB hi gi).2.2 _ _ _ hl
    · rw [(h.ownB hi gi).2.1] at hg; cases hg
  refine ⟨{ h := hr, tmp := fun i => ((h.tmp i).mono he.sub).shape hs, own := fun {i sz es} hi => ?_, ownI := h.ownI, ownB := fun {i sz es g} hi gi => ?_, new := fun {s b cs} hl => ?_, old := fun {k s b cs} hl => ?_, gold := fun {b cs} hb hlt => ?_, dfs := h.dfs, bas := Nat.le_trans h.bas he.sz },
    ⟨he.sz, fun b hb hn => he.keep b (Nat.lt_of_lt_of_le hb h.bas) (hO b hb hn), fun ad hb => he.st ad (Nat.lt_of_lt_of_le hb h.bas), he.sub, he.os, he.tape, he.out⟩⟩
  · have hown := h.own hi
    exact hown.mono he.sub (fun g hg => by
      rw [hg] at hown
      exact he.keep g hown.lt (hno hi hg)) (fun g hg off sp => by
      rw [hg] at hown
      exact he.st ⟨g, off, sp⟩ hown.lt)
  · refine ⟨(h.ownB hi gi).1, ?_, fun k s cs hl => by obtain ⟨cs', hl'⟩ := live_shape hs hl; exact (h.ownB hi gi).2.2 _ _ _ hl'⟩
    have hown := h.own hi
    rw [gi] at hown
    cases hg : G' g with
    | none => rfl
    | some cs =>
      obtain ⟨cs0, h0⟩ := hG g cs hg hown.lt
      rw [(h.ownB hi gi).2.1] at h0; cases h0
  · obtain ⟨cs', hl'⟩ := live_shape hs hl; exact h.new hl'
  · obtain ⟨cs', hl'⟩ := live_shape hs hl; exact h.old hl'
  · obtain ⟨cs0, h0⟩ := hG b cs hb (Nat.lt_of_lt_of_le hlt h.bas)
    exact h.gold h0 hlt
/-- Behind a call that saw no box. -/
theorem Rel.calledQ (h : Rel S ms ow base O ρ L σ G a w) {S' : Stb} {G' : Gh} {w' : World} (hr : RelH S' [] [] G' w') (he : Evo w.heap.size (outer [] [] G) S w S' w') (hG : ∀ b cs, G' b = some cs → b < w.heap.size → ∃ cs0, G b = some cs0) :
    Rel S' ms ow base O ρ L σ G' a w' ∧ Evo base O S w S' w' := by
  have hO : ∀ b, G b = none → ¬ outer [] [] G b := by
    rintro b hb (⟨k, s, cs, x, m, h1, _⟩ | ⟨cs, hg⟩)
    · simp at h1
    · rw [hb] at hg; cases hg
  have live0 : ∀ {k s b cs}, Live (L :: σ) ms k s b cs → G b = none := fun {k s b cs} hl => by
    cases hg : G b with
    | none => rfl
    | some c => exact absurd hl (h.h.gnl hg)
  have none' : ∀ {b}, b < w.heap.size → G b = none → G' b = none := fun {b} hb h0 => by
    cases hg : G' b with
    | none => rfl
    | some c =>
      obtain ⟨c0, h1⟩ := hG b c hg hb
      rw [h0] at h1; cases h1
  refine ⟨{ h := ?_, tmp := fun i => (h.tmp i).mono he.sub, own := fun {i sz es} hi => ?_, ownI := h.ownI, ownB := fun {i sz es g} hi gi => ?_, new := h.new, old := h.old, gold := fun {b cs} hb hlt => ?_, dfs := h.dfs, bas := Nat.le_trans h.bas he.sz }, ?_⟩
  · refine ⟨hr.sub, h.h.len, fun hl => (h.h.box hl).mono he.sub (he.keep _ (h.h.block_lt hl) (hO _ (live0 hl))), fun {k s b cs} hl off sp => ?_, h.h.inj, hr.gbox, hr.gnos, fun {b cs k s c2} hb hl => ?_⟩
    · rw [he.st ⟨b, off, sp⟩ (h.h.block_lt hl)]; exact h.h.nos hl off sp
    · have := none' (h.h.block_lt hl) (live0 hl)
      rw [this] at hb; cases hb
  · have hown := h.own hi
    exact hown.mono he.sub (fun g hg => by
      rw [hg] at hown
      exact he.keep g hown.lt (hO g (h.ownB hi hg).2.1)) (fun g hg off sp => by
      rw [hg] at hown
      exact he.st ⟨g, off, sp⟩ hown.lt)
  · have hown := h.own hi
    rw [gi] at hown
    exact ⟨(h.ownB hi gi).1, none' hown.lt (h.ownB hi gi).2.1, (h.ownB hi gi).2.2⟩
  · obtain ⟨c0, h0⟩ := hG b cs hb (Nat.lt_of_lt_of_le hlt h.bas)
    exact h.gold h0 hlt
  · refine ⟨he.sz, fun b hb hn => he.keep b (Nat.lt_of_lt_of_le hb h.bas) (hO b ?_), fun ad hb => he.st ad (Nat.lt_of_lt_of_le hb h.bas), he.sub, he.os, he.tape, he.out⟩
    cases hg : G b with
    | none => rfl
    | some c => exact absurd (h.gold hg hb) hn
/-- What a call gives back goes into its slot. -/
theorem Rel.putRet (h : Rel S ms ow base O ρ L σ G a w) {n : Nat} (hn : ∀ k s b cs, Live (L :: σ) ms k s b cs → b < n) (hno : ∀ i sz es g, ρ i = .own sz es → ow i = some g → g < n) (hb : base ≤ n) {d : Option Nat} {r : AV} {v : Value}
    (hr : Ret S w G n r v) (hd : ∀ i, d = some i → i < a.tmps.size) : ∃ ow', Rel S ms ow' base O (E2.put ρ d r) L σ G (a.put d v) w := by
  cases r with
  | d x => exact ⟨ow, h.put (x := .d x) hr (fun _ _ e => by cases e) hd⟩
  | own sz es =>
    obtain ⟨R, ho, hR⟩ := hr
    cases d with
    | none => exact ⟨ow, h⟩
    | some d =>
      refine ⟨upd ow d R, h.putOwn ho (fun g hg => ⟨Nat.le_trans hb (hR g hg).1, (hR g hg).2, fun k s cs hl => ?_, fun i sz' es' _ hi e => ?_⟩) (hd d rfl)⟩
      · have := hn _ _ _ _ hl; have := (hR g hg).1; omega
      · have := hno i sz' es' g hi e; have := (hR g hg).1; omega
  | tup xs => exact ⟨ow, h.put (x := .tup xs) hr (fun _ _ e => by cases e) hd⟩
  | _ => exact hr.elim
end
end Go.E2
