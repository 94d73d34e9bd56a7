/-
  One operation that is no call: what the evaluator says of it, the machine does.
  Conditions: none; laws.
-/
import Derived.Test.YtpooocblijlabaaEO7
namespace Go.E2
section
variable {S : Stb} {ms : List (Nat → Nat)} {ow : Nat → Option Nat} {base : Nat} {O : Nat → Prop} {ρ : Env} {L : Hp} {σ : List Hp} {G : Gh} {a : Act} {w : World} {c : Ctx} {o : Oper}
theorem cCall_builtin_append {c : Ctx} {dst : Option Nat} {callee : Callee} {as : List Operand} {ts : List TypeId} {ty : TypeId} {aop : AOp} (h : cCall c dst { callee, args := ⟨as⟩, argTypes := ⟨ts⟩ } ty = some aop)
    (hg : (∃ sz b z x y, aop = .appG sz b z x y) ∨ ∃ sz b z x y, aop = .appZ sz b z x y) : callee = .builtin .append := by
  cases callee with
  | value f =>
    simp only [cCall] at h
    split at h
    · cases h; rcases hg with ⟨_, _, _, _, _, e⟩ | ⟨_, _, _, _, _, e⟩ <;> cases e
    · cases h
  | invoke r m => simp [cCall] at h
  | builtin b =>
    cases b <;> first | rfl | (exfalso; simp only [cCall] at h; (repeat' split at h) <;> first | (cases h; done) | (cases h; rcases hg with ⟨_, _, _, _, _, e⟩ | ⟨_, _, _, _, _, e⟩ <;> cases e))
/-- Which operation becomes an append of the second kind. -/
theorem cOp_append {dst : Option Nat} {ty : TypeId} {op : Op} {aop : AOp} (hc : cOp c dst ty op = some aop) (hg : (∃ sz b z x y, aop = .appG sz b z x y) ∨ ∃ sz b z x y, aop = .appZ sz b z x y) :
    ∃ as ts, op = .call { callee := .builtin .append, args := ⟨as⟩, argTypes := ⟨ts⟩ } ∧ cCall c dst { callee := .builtin .append, args := ⟨as⟩, argTypes := ⟨ts⟩ } ty = some aop := by
  have no : ∀ {x : AOp}, aop = x → (∀ sz b z p q, x ≠ .appG sz b z p q) → (∀ sz b z p q, x ≠ .appZ sz b z p q) → False := by
    intro x e h1 h2
    subst e
    rcases hg with ⟨_, _, _, _, _, e⟩ | ⟨_, _, _, _, _, e⟩
    · exact h1 _ _ _ _ _ e
    · exact h2 _ _ _ _ _ e
  cases op with
  | call cl =>
    obtain ⟨callee, ⟨as⟩, ⟨ts⟩⟩ := cl
    simp only [cOp] at hc
    have := cCall_builtin_append hc hg
    subst this
    exact ⟨as, ts, rfl, hc⟩
  | unOp u t y => cases u <;> simp [cOp] at hc <;> (obtain ⟨_, _, e⟩ := hc; exact (no e.symm (by intros; simp) (by intros; simp)).elim)
  | makeFunc fn x y =>
    cases fn with
    | func f =>
      simp only [cOp] at hc
      split at hc
      · simp only [Option.map_eq_some_iff] at hc
        obtain ⟨_, _, e⟩ := hc
        exact (no e.symm (by intros; simp) (by intros; simp)).elim
      · cases hc
    | _ => simp [cOp] at hc
  | binOp o t x y u =>
    simp only [cOp] at hc
    split at hc
    · unfold cBin at hc
      (repeat' split at hc) <;> first | (cases hc; done) | (cases hc; exact (no rfl (by intros; simp) (by intros; simp)).elim)
    · cases hc
  | slice t x lo hi mx =>
    simp only [cOp] at hc
    split at hc
    · rcases cSlice_inv hc with ⟨_, _, _, _, _, _, e⟩ | ⟨_, _, _, _, ⟨_, _, _, _, _, e⟩ | ⟨_, _, _, e⟩ | ⟨_, _, _, _, _, _, _, _, _, _, e⟩⟩ <;> exact (no e (by intros; simp) (by intros; simp)).elim
    · cases hc
  | convert s d x =>
    simp only [cOp] at hc
    split at hc
    · unfold cConv at hc
      (repeat' split at hc) <;> first | (cases hc; done) | (cases hc; exact (no rfl (by intros; simp) (by intros; simp)).elim)
    · cases hc
  | buildSlice t n ps =>
    simp only [cOp] at hc
    exfalso
    split at hc
    · cases hc
    · split at hc
      · split at hc
        · split at hc
          · cases hc
            split at hg <;> rcases hg with ⟨_, _, _, _, _, e⟩ | ⟨_, _, _, _, _, e⟩ <;> cases e
          · split at hc
            · cases hc
              split at hg <;> rcases hg with ⟨_, _, _, _, _, e⟩ | ⟨_, _, _, _, _, e⟩ <;> cases e
            · cases hc
        · cases hc
      · cases hc
  | _ =>
    exfalso
    simp only [cOp] at hc
    first
    | (cases hc; done)
    | ((repeat' split at hc) <;> first | (cases hc; done) | (cases hc; exact no rfl (by intros; simp) (by intros; simp)) | (simp only [Option.map_eq_some_iff] at hc; obtain ⟨_, _, e⟩ := hc; exact no e.symm (by intros; simp) (by intros; simp)))
theorem cOp_mkG {dst : Option Nat} {ty : TypeId} {op : Op} {sz n : Nat} {zd : D} {ps' : List (Nat × AO)} (hc : cOp c dst ty op = some (.mkG sz n zd ps')) :
    ∃ t ps e z, op = .buildSlice t n ps ∧ c.P.underlying t = some (.slice e) ∧ tsz c.P e = some sz ∧ zeroOf c.P e = some z ∧ zd.cells = z ∧ 0 < sz ∧ z.length = sz ∧ n * sz ≤ 2 ^ 24 ∧ cPartsS ps.toList = some ps' := by
  cases op with
  | buildSlice t n' ps =>
    simp only [cOp] at hc
    split at hc
    · cases hc
    · rename_i e he
      have hu : c.P.underlying t = some (.slice e) := by
        unfold elemD at he
        split at he
        · cases he; assumption
        · cases he
      split at hc
      · rename_i sz' z g ps2 hsz hz hg hps
        split at hc
        · rename_i hcond
          split at hc
          · cases hin : inGs c dst with
            | false => rw [hin] at hc; simp at hc
            | true =>
              rw [hin] at hc
              simp at hc
              obtain ⟨rfl, rfl, rfl, rfl⟩ := hc
              exact ⟨t, ps, e, z, rfl, hu, hsz, hz, rfl, hcond.1, hcond.2.1, hcond.2.2, hps⟩
          · split at hc
            · rename_i z0
              cases hin : inGs c dst with
              | false => rw [hin] at hc; simp at hc
              | true =>
                rw [hin] at hc
                simp at hc
                obtain ⟨rfl, rfl, rfl, rfl⟩ := hc
                obtain ⟨_, _, _, hzo, _⟩ := zeroOf_ok (S := fun _ => none) hz
                exact ⟨t, ps, e, [z0], rfl, hu, hsz, hz, D.cells_one (by simpa using hzo), hcond.1, hcond.2.1, hcond.2.2, hps⟩
            · cases hc
        · cases hc
      · cases hc
  | call cl =>
    obtain ⟨callee, ⟨as⟩, ⟨ts⟩⟩ := cl
    simp only [cOp] at hc
    cases callee with
    | value f =>
      simp only [cCall] at hc
      split at hc <;> cases hc
    | invoke r m => simp [cCall] at hc
    | builtin b =>
      cases b <;> simp only [cCall] at hc <;> (repeat' split at hc) <;> first | (cases hc; done) | (split at hc <;> cases hc; done) | (simp at hc; done) | skip
      all_goals (first | (split at hc <;> simp at hc) | simp at hc)
  | unOp u t y => cases u <;> simp [cOp] at hc
  | makeFunc fn x y =>
    cases fn with
    | func f => simp only [cOp] at hc; split at hc <;> simp at hc
    | _ => simp [cOp] at hc
  | binOp o t x y u =>
    simp only [cOp] at hc
    split at hc
    · unfold cBin at hc
      (repeat' split at hc) <;> cases hc
    · cases hc
  | slice t x lo hi mx =>
    simp only [cOp] at hc
    split at hc
    · rcases cSlice_inv hc with ⟨_, _, _, _, _, _, e⟩ | ⟨_, _, _, _, ⟨_, _, _, _, _, e⟩ | ⟨_, _, _, e⟩ | ⟨_, _, _, _, _, _, _, _, _, _, e⟩⟩ <;> cases e
    · cases hc
  | convert s d x =>
    simp only [cOp] at hc
    split at hc
    · unfold cConv at hc
      (repeat' split at hc) <;> cases hc
    · cases hc
  | _ =>
    exfalso
    simp only [cOp] at hc
    first
    | (cases hc; done)
    | ((repeat' split at hc) <;> first | (cases hc; done) | (simp at hc; done))
end
end Go.E2
