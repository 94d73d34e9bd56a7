/-
  A region that draws its order: whatever order is drawn, the compiler's order serves.
  Conditions: none; laws.
-/
import Derived.Test.YtpooocblijlabaaEM5
namespace Go.E2
inductive Dep (ops : Array Oper) (i : Nat) : Nat → Prop
  | direct {j : Nat} {o : Oper} {e : Edge} (h : ops[j]? = some o) (he : e ∈ o.after) (hb : Region.binds .any e = true) (hi : e.on = i) : Dep ops i j
  | step {j : Nat} {o : Oper} {e : Edge} (h : ops[j]? = some o) (he : e ∈ o.after) (hb : Region.binds .any e = true) (hd : Dep ops i e.on) : Dep ops i j
theorem fold_bit {acc : List Nat} {i : Nat} : ∀ (l : List Edge) (s : Nat), (l.foldl (fun s e => if Region.binds .any e then s ||| 2 ^ e.on ||| acc.getD e.on 0 else s) s).testBit i = true →
    s.testBit i = true ∨ ∃ e ∈ l, Region.binds .any e = true ∧ (e.on = i ∨ (acc.getD e.on 0).testBit i = true)
  | [], s, h => .inl h
  | e :: l, s, h => by
    rcases fold_bit l _ h with h' | ⟨e', he, hb, hx⟩
    · by_cases hb : Region.binds .any e = true
      · simp only [hb, if_true] at h'
        rw [Nat.testBit_or, Nat.testBit_or] at h'
        simp only [Bool.or_eq_true] at h'
        rcases h' with (h' | h') | h'
        · exact .inl h'
        · refine .inr ⟨e, List.mem_cons_self, hb, .inl ?_⟩
          rw [Nat.testBit_two_pow] at h'
          simpa using h'
        · exact .inr ⟨e, List.mem_cons_self, hb, .inr h'⟩
      · simp only [hb, if_false, Bool.false_eq_true] at h'
        exact .inl h'
    · exact .inr ⟨e', List.mem_cons_of_mem _ he, hb, hx⟩
theorem masks_ok {ops : Array Oper} {i : Nat} : ∀ (os : List Oper) (acc : List Nat), os = ops.toList.drop acc.length → (∀ j, (acc.getD j 0).testBit i = true → Dep ops i j) → ∀ j, ((masks os acc).getD j 0).testBit i = true → Dep ops i j
  | [], acc, _, hacc, j, h => hacc j h
  | o :: os, acc, ho, hacc, j, h => by
    simp only [masks] at h
    have h0 : ops[acc.length]? = some o := by
      have := congrArg (fun l => l[0]?) ho
      simp only [List.getElem?_cons_zero, List.getElem?_drop, Nat.add_zero] at this
      simpa using this.symm
    refine masks_ok os _ ?_ ?_ j h
    · have := congrArg (List.drop 1) ho
      simp only [List.drop_succ_cons, List.drop_zero, List.drop_drop] at this
      simpa [Nat.add_comm] using this
    · intro k hk
      rcases Nat.lt_trichotomy k acc.length with hlt | heq | hgt
      · rw [List.getD_eq_getElem?_getD, List.getElem?_append_left hlt, ← List.getD_eq_getElem?_getD] at hk
        exact hacc k hk
      · subst heq
        rw [List.getD_eq_getElem?_getD, List.getElem?_append_right (Nat.le_refl _)] at hk
        simp only [Nat.sub_self, List.getElem?_cons_zero, Option.getD_some] at hk
        rcases fold_bit _ _ hk with hz | ⟨e, he, hb, hx⟩
        · simp at hz
        · rcases hx with hx | hx
          · exact .direct h0 (by simpa using he) hb hx
          · exact .step h0 (by simpa using he) hb (hacc _ hx)
      · rw [List.getD_eq_getElem?_getD, List.getElem?_eq_none (by simp; omega)] at hk
        simp at hk
/-- The operations of 'R', one after the other. -/
def regR (P : Program) (as : List AI) : List Nat → St → (St → Prop) → Prop
  | [], st, K => K st
  | i :: R, st, K => ∃ ai, as[i]? = some ai ∧ stepI P ai st.1 st.2.1 st.2.2.1 st.2.2.2 fun st1 => regR P as R st1 K
theorem regR_of_pick {P : Program} {as : List AI} : ∀ {R : List Nat} {l : List AI}, pickA as R = some l → ∀ {st : St} {K : St → Prop}, regW P l st.1 st.2.1 st.2.2.1 st.2.2.2 K → regR P as R st K
  | [], l, h, st, K, hr => by simp [pickA] at h; subst h; exact hr
  | i :: R, l, h, st, K, hr => by
    simp only [pickA] at h
    split at h
    · rename_i a l' ha hl
      cases h
      exact ⟨a, ha, stepI_mono (fun st1 h1 => regR_of_pick hl h1) hr⟩
    · cases h
theorem bubble {c : Ctx} {ms : List Nat} {as : List AI} {K : St → Prop} {j : Nat} : ∀ {R : List Nat}, goodOrd ms as R = true → j ∈ R → (∀ i ∈ R, i ≠ j → (ms.getD j 0).testBit i = false) → ∀ {st : St}, regR c.P as R st K →
    ∃ aj, as[j]? = some aj ∧ stepI c.P aj st.1 st.2.1 st.2.2.1 st.2.2.2 fun st' => regR c.P as (R.erase j) st' K
  | i :: R, hg, hj, hn, st, ⟨ai, hai, hs⟩ => by
    by_cases hij : i = j
    · subst hij
      refine ⟨ai, hai, ?_⟩
      rw [List.erase_cons_head]
      exact hs
    · have hjR : j ∈ R := by
        rcases List.mem_cons.1 hj with h | h
        · exact absurd h.symm hij
        · exact h
      simp only [goodOrd, Bool.and_eq_true, List.all_eq_true] at hg
      have hp := hg.1 j hjR
      simp only [pairOk, hn i List.mem_cons_self hij, Bool.false_or, hai] at hp
      cases haj : as[j]? with
      | none => simp [haj] at hp
      | some aj =>
        simp only [haj, Bool.and_eq_true] at hp
        refine ⟨aj, rfl, ?_⟩
        have h1 : stepI c.P ai st.1 st.2.1 st.2.2.1 st.2.2.2 fun st1 => stepI c.P aj st1.1 st1.2.1 st1.2.2.1 st1.2.2.2 fun st2 => regR c.P as (R.erase j) st2 K :=
          stepI_mono (fun st1 h1 => by
            obtain ⟨aj', e, h2⟩ := bubble hg.2 hjR (fun i hi => hn i (List.mem_cons_of_mem _ hi)) h1
            rw [haj] at e
            cases e
            exact h2) hs
        have h2 := sepA_swap hp.2 hp.1 h1
        rw [List.erase_cons_tail (by simpa using hij)]
        exact stepI_mono (fun st3 h3 => ⟨ai, hai, h3⟩) h2
theorem goodOrd_erase {ms : List Nat} {as : List AI} {j : Nat} : ∀ {R : List Nat}, goodOrd ms as R = true → goodOrd ms as (R.erase j) = true
  | [], h => h
  | i :: R, h => by
    simp only [goodOrd, Bool.and_eq_true, List.all_eq_true] at h
    by_cases hij : i = j
    · subst hij; rw [List.erase_cons_head]; exact h.2
    · rw [List.erase_cons_tail (by simpa using hij)]
      simp only [goodOrd, Bool.and_eq_true, List.all_eq_true]
      exact ⟨fun k hk => h.1 k (List.mem_of_mem_erase hk), goodOrd_erase h.2⟩
theorem topoOrd_erase {ops : Array Oper} {j : Nat} : ∀ {R : List Nat}, topoOrd ops R = true → topoOrd ops (R.erase j) = true
  | [], h => h
  | i :: R, h => by
    simp only [topoOrd, Bool.and_eq_true] at h
    by_cases hij : i = j
    · subst hij; rw [List.erase_cons_head]; exact h.2
    · rw [List.erase_cons_tail (by simpa using hij)]
      simp only [topoOrd, Bool.and_eq_true]
      refine ⟨?_, topoOrd_erase h.2⟩
      have h1 := h.1
      split at h1
      · rw [Array.all_eq_true] at h1 ⊢
        intro k hk
        have := h1 k hk
        simp only [Bool.or_eq_true, Bool.and_eq_true, Bool.not_eq_true', List.contains_eq_mem, decide_eq_false_iff_not, List.mem_cons, not_or] at this ⊢
        rcases this with h | ⟨h, h2, h3⟩
        · exact .inl h
        · exact .inr ⟨h, h2, fun hm => h3 (List.mem_of_mem_erase hm)⟩
      · cases h1
end Go.E2
