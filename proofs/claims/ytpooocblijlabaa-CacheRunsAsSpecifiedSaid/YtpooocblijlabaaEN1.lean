/-
  A function's contract, from what its body comes to.
  Conditions: none; laws.
-/
import Derived.Test.YtpooocblijlabaaEM9
namespace Go.E2
/-- What a function gives back, with something forgotten. -/
inductive RLe : AV → AV → Prop
  | refl (x : AV) : RLe x x
  | nilown (sz : Nat) : RLe (.d .nilS) (.own sz [])
  | le (x y : D) (h : DLe x y) : RLe (.d x) (.d y)
  | own (sz : Nat) (es : List D) (y : D) (h : DLe (.list es) y) : RLe (.own sz es) (.d y)
  | tup (xs ys : List D) (h : DsLe xs ys) : RLe (.tup xs) (.tup ys)
theorem Ret.le {S : Stb} {w : World} {G : Gh} {base : Nat} {r r' : AV} {v : Value} (h : Ret S w G base r v) (hl : RLe r r') : Ret S w G base r' v := by
  cases hl with
  | refl => exact h
  | nilown sz =>
    refine ⟨none, ⟨rfl, .inl ?_⟩, fun g hg => by cases hg⟩
    cases h; rfl
  | le x y hd => exact VRD.le h hd
  | own sz es y hd => obtain ⟨R, ho, _⟩ := h; exact ho.vrd.le hd
  | tup xs ys hd => obtain ⟨vs, e, h⟩ := h; exact ⟨vs, e, h.le hd⟩
/-- How a body ends well: with results that satisfy 'Q'. -/
def endR (res : List ARes) (Q : AV → List Hp → Gh → Prop) (st : St) : Prop := ∃ r r', fin res st.1 (st.2.1 :: st.2.2.1) = some r ∧ RLe r r' ∧ Q r' st.2.2.1 st.2.2.2
def endQ (res : List ARes) (Q : AV → List Hp → Gh → Prop) : AExit → St → Prop
  | .normal, st => endR res Q st
  | .ret, st => endR res Q st
  | .exit _, _ => False
theorem RelH.tail {P : Program} {S : Stb} {m : List (Nat → Nat)} {L : Hp} {σ : List Hp} {G : Gh} {w : World} (h : RelH S m (L :: σ) G w) : RelH S m.tail σ G w := by
  have live : ∀ {k s b cs}, Live σ m.tail k s b cs → Live (L :: σ) m (k + 1) s b cs := by
    rintro k s b cs ⟨x, y, h1, h2, h3, h4⟩
    exact ⟨x, y, by simpa using h1, by simpa using h2, h3, h4⟩
  refine ⟨h.sub, by have := h.len; simp at this ⊢; omega, fun hl => h.box (live hl), fun hl => h.nos (live hl), fun h1 h2 => ?_, h.gbox, h.gnos, fun hb hl => h.gnl hb (live hl)⟩
  have := h.inj (live h1) (live h2)
  exact ⟨by omega, this.2⟩
/-- **A function's contract.** -/
theorem callT_of_SW {P : Program} (hm : P.follows .mixedOrders = true) {gs : List Nat} {f : FuncId} {af : AFunc} (hf : compile P gs f = some af) {vs : List AV} {σ : List Hp} {G : Gh} {Q : AV → List Hp → Gh → Prop}
    (h : SW P af.body (endQ af.res Q) (ofL vs, noHp, σ, G)) : CallT P f vs σ G Q := by
  intro S ms w args m0 _ hrel hargs hown
  obtain ⟨fn, c, hfn, hb, hng, hres, hbody, hnt⟩ := compile_inv hf
  refine .inl ⟨⟨fn, c, hfn, hb, hng⟩, ?_⟩
  have hno : ∀ s : Nat, (noHp s).c = none := fun s => rfl
  have live0 : ∀ {k s b cs}, Live (noHp :: σ) (m0 :: ms) k s b cs → ∃ k', k = k' + 1 ∧ Live σ ms k' s b cs := by
    rintro k s b cs ⟨x, y, h1, h2, h3, h4⟩
    cases k with
    | zero => simp at h1; subst h1; rw [hno] at h3; cases h3
    | succ k => exact ⟨k, rfl, x, y, by simpa using h1, by simpa using h2, h3, h4⟩
  have hR0 : Rel S (m0 :: ms) (fun _ => none) w.heap.size (outer σ ms G) (ofL vs) noHp σ G { tmps := args ++ Array.replicate (fn.ntmps - args.size) undef, defers := [] } w := by
    refine { h := ⟨hrel.sub, by simp [hrel.len], fun hl => ?_, fun hl => ?_, fun h1 h2 => ?_, hrel.gbox, hrel.gnos, fun hb hl => ?_⟩, tmp := fun i => ?_, own := fun {i sz es} hi => absurd hi (hown i sz es), ownI := fun {i j sz es sz' es' g} hi => absurd hi (hown i sz es), ownB := fun {i sz es g} hi => absurd hi (hown i sz es), new := fun {s b cs} hl => ?_, old := fun {k s b cs} hl => ?_, gold := fun {b cs} hb _ => .inr ⟨cs, hb⟩, dfs := rfl, bas := Nat.le_refl _ }
    · obtain ⟨k', rfl, hl'⟩ := live0 hl; exact hrel.box hl'
    · obtain ⟨k', rfl, hl'⟩ := live0 hl; exact hrel.nos hl'
    · obtain ⟨k', rfl, hl'⟩ := live0 h1
      obtain ⟨k'', rfl, hl''⟩ := live0 h2
      have := hrel.inj hl' hl''
      exact ⟨by omega, this.2⟩
    · obtain ⟨k', rfl, hl'⟩ := live0 hl; exact hrel.gnl hb hl'
    · have hai := hargs i
      have : (args ++ Array.replicate (fn.ntmps - args.size) undef).getD i undef = args.getD i undef := by
        simp only [Array.getD_eq_getD_getElem?]
        rcases Nat.lt_or_ge i args.size with hi | hi
        · rw [Array.getElem?_append_left hi]
        · rw [Array.getElem?_append_right hi, Array.getElem?_eq_none hi]
          simp only [Array.getElem?_replicate]
          split <;> rfl
      rw [this]
      exact hai
    · obtain ⟨k', e, _⟩ := live0 hl; cases e
    · obtain ⟨k', e, hl'⟩ := live0 hl
      cases e
      exact ⟨hrel.block_lt hl', .inl ⟨k, s, cs, hl'⟩⟩
  refine calls_of_wp hfn hb (wp_mono (h hm gs fn.ntmps (allOps c) c hbody _ _ _ _ _ _ _ hR0 (by simp; omega)) fun e a' w' hq => ?_)
  have fin' : ∀ {st : St}, endR af.res Q st → After S (m0 :: ms) w.heap.size (outer σ ms G) σ { tmps := args ++ Array.replicate (fn.ntmps - args.size) undef, defers := [] } w st a' w' →
      a'.defers = [] ∧ ∃ v, (results fn a'.tmps).run P w' = .ok v w' ∧ ∃ v', Ending.returned v = .returned v' ∧ Post S ms w σ G Q v' w' := by
    rintro st ⟨r, r', hr, hle, hQ⟩ ⟨⟨S', m', ow', hrel', hevo⟩, hsh, _⟩
    obtain ⟨v, hv, hret⟩ := fin_ok hrel' hres hr
    refine ⟨hrel'.dfs, v, hv, v, rfl, S', r', st.2.2.1, st.2.2.2, hQ, by have := RelH.tail (P := P) hrel'.h; simpa using this, hevo, hsh, hret.le hle, fun b cs hb hlt => ?_⟩
    rcases hrel'.gold hb hlt with ⟨k, s, cs', hl⟩ | h
    · exfalso
      obtain ⟨x, y, h1, h2, h3, h4⟩ := hl
      obtain ⟨x', hx'⟩ := hsh.get h1
      have e := (hsh.2 k x x' h1 hx' s).2
      cases hc : (x' s).c with
      | none => rw [e.1 hc] at h3; cases h3
      | some c0 => exact hrel'.h.gnl hb (k := k + 1) (s := s) (cs' := c0) ⟨x', y, by simpa using hx', by simpa using h2, hc, h4⟩
    · exact h
  cases e with
  | normal => obtain ⟨st, h1, h2⟩ := hq; exact fin' h1 h2
  | ret => obtain ⟨st, h1, h2⟩ := hq; exact fin' h1 h2
  | exit id => obtain ⟨st, h1, _⟩ := hq; exact h1.elim
  | _ => exact hq.elim
end Go.E2
