/-
  A region in the order of its text; and what two operations in either order come to.
  Conditions: none; laws.
-/
import Derived.Test.YtpooocblijlabaaEM3
namespace Go.E2
theorem growW_mono {d : Option Nat} {sz by_ : Nat} {z olds ys : List D} {n m : Nat} {ρ : Env} {L : Hp} {σ : List Hp} {G : Gh} {K K' : St → Prop} (hk : ∀ st, K st → K' st) (h : growW d sz by_ z olds ys n m ρ L σ G K) : growW d sz by_ z olds ys n m ρ L σ G K' :=
  ⟨h.1, fun b cap h1 h2 => hk _ (h.2 b cap h1 h2)⟩
theorem appW_mono {d : Option Nat} {sz by_ : Nat} {z ys : List D} {x : D} {m : Nat} {ρ : Env} {L : Hp} {σ : List Hp} {G : Gh} {K K' : St → Prop} (hk : ∀ st, K st → K' st) (h : appW d sz by_ z x m ys ρ L σ G K) : appW d sz by_ z x m ys ρ L σ G K' := by
  unfold appW at h ⊢
  split at h
  · split at h
    · rename_i hm; rw [if_pos hm]; exact hk _ h
    · rename_i hm; rw [if_neg hm]; exact growW_mono hk h
  · split at h
    · obtain ⟨h0, h⟩ := h
      refine ⟨h0, ?_⟩
      split at h
      · rename_i hm; rw [if_pos hm]; exact ⟨h.1, hk _ h.2⟩
      · rename_i hm; rw [if_neg hm]; exact growW_mono hk h
    · exact h.elim
  · exact h.elim
theorem stepN_mono {d : Option Nat} {op : AOp} {ρ : Env} {L : Hp} {σ : List Hp} {G : Gh} {K K' : St → Prop} (hk : ∀ st, K st → K' st) (h : stepN d op ρ L σ G K) : stepN d op ρ L σ G K' := by
  have dflt : (∃ st, stepOp d op ρ L σ G = some st ∧ K st) → ∃ st, stepOp d op ρ L σ G = some st ∧ K' st := fun ⟨st, h1, h2⟩ => ⟨st, h1, hk st h2⟩
  cases op with
  | appG sz b z x y =>
    simp only [stepN] at h ⊢
    split at h
    · split at h
      · exact appW_mono hk h
      · exact h.elim
    · exact h.elim
  | appZ sz b z x y =>
    simp only [stepN] at h ⊢
    split at h
    · exact ⟨h.1, h.2.1, appW_mono hk h.2.2⟩
    · exact h.elim
  | mkG sz n z ps =>
    simp only [stepN] at h ⊢
    split at h
    · exact ⟨h.1, fun b hb => hk _ (h.2 b hb)⟩
    · exact h.elim
  | isnil neg x =>
    simp only [stepN] at h ⊢
    split at h
    · exact fun t => hk _ (h t)
    · exact dflt h
  | _ => exact dflt h
theorem callW_mono {P : Program} {d : Option Nat} {f : AO} {args : List AO} {q : Nat} {ρ : Env} {L : Hp} {σ : List Hp} {G : Gh} {K K' : St → Prop} (hk : ∀ st, K st → K' st) (h : callW P d f args q ρ L σ G K) : callW P d f args q ρ L σ G K' := by
  unfold callW at h ⊢
  split at h
  · exact h.elim
  · split at h
    · rename_i hq
      rw [if_pos hq]
      exact h.mono fun r lv G' hr => by
        cases lv with
        | nil => exact hr
        | cons L' σ' => exact hk _ hr
    · rename_i hq
      rw [if_neg hq]
      split at h
      · rename_i h3
        rw [if_pos h3]
        exact h.mono fun r lv G' hr => ⟨hr.1, hr.2.1, hk _ hr.2.2⟩
      · rename_i h3
        rw [if_neg h3]
        obtain ⟨h1, h⟩ := h
        refine ⟨h1, ?_⟩
        split at h
        · exact h.elim
        · exact h.mono fun r lv G' hr => ⟨hr.1, hr.2.1, hk _ hr.2.2⟩
theorem stepRun_mono {P : Program} {o : AI} {ρ : Env} {L : Hp} {σ : List Hp} {G : Gh} {K K' : St → Prop} (hk : ∀ st, K st → K' st) (h : stepRun P o ρ L σ G K) : stepRun P o ρ L σ G K' := by
  unfold stepRun at h ⊢
  split at h
  · exact callW_mono hk h
  · exact stepN_mono hk h
theorem stepI_mono {P : Program} {o : AI} {ρ : Env} {L : Hp} {σ : List Hp} {G : Gh} {K K' : St → Prop} (hk : ∀ st, K st → K' st) (h : stepI P o ρ L σ G K) : stepI P o ρ L σ G K' := by
  unfold stepI at h ⊢
  split at h
  · exact stepRun_mono hk h
  · obtain ⟨b, hb, h⟩ := h
    refine ⟨b, hb, ?_⟩
    split at h
    · rename_i e; rw [if_pos e]; exact stepRun_mono hk h
    · rename_i e; rw [if_neg e]; exact hk _ h
theorem regW_mono {P : Program} : ∀ {os : List AI} {ρ : Env} {L : Hp} {σ : List Hp} {G : Gh} {K K' : St → Prop}, (∀ st, K st → K' st) → regW P os ρ L σ G K → regW P os ρ L σ G K'
  | [], _, _, _, _, _, _, hk, h => hk _ h
  | _ :: _, _, _, _, _, _, _, hk, h => stepI_mono (fun _ h => regW_mono hk h) h
section
variable {P : Program} {S : Stb} {ms : List (Nat → Nat)} {ow : Nat → Option Nat} {base : Nat} {O : Nat → Prop} {ρ : Env} {L : Hp} {σ : List Hp} {G : Gh} {a : Act} {w : World}
theorem After.refl (h : Rel S ms ow base O ρ L σ G a w) : After S ms base O σ a w (ρ, L, σ, G) a w := by
  obtain ⟨m, hm⟩ := own_data h
  exact ⟨⟨S, m, ow, by rw [← hm]; exact h, Evo.refl _ _ _ _⟩, Shape.refl _, rfl⟩
/-- One operation of a region. -/
theorem op_ok {c : Ctx} (h : Rel S ms ow base O ρ L σ G a w) {ops : Array Oper} {i : Nat} {o : Oper} (hi : ops[i]? = some o)
    {ai : AI} (ho : cOper c ops o = some ai) (hnt : c.nt ≤ a.tmps.size) {K' : St → Prop} (hs : stepI c.P ai ρ L σ G K') {K : Act → World → Prop} {Q : Exit → Act → World → Prop} (hK : ∀ st a' w', K' st → After S ms base O σ a w st a' w' → K a' w') : wpOp c.P ops Q i K a w := by
  obtain ⟨_, hdst, hdn, hg⟩ := cOper_inv ho
  have run : stepRun c.P ai ρ L σ G K' → o.wp c.P a w K Q := fun hr => run_ok h ho hnt hr hK
  unfold wpOp
  simp only [hi]
  rcases hg with ⟨g1, g2⟩ | ⟨j, want, t, g1, g2, g3⟩
  · simp only [stepI, g2] at hs
    simp only [Region.wanted, g1, if_true]
    exact .inl (run hs)
  · simp only [stepI, g3] at hs
    obtain ⟨r, hr, hs⟩ := hs
    have hv := h.tmp t
    have hy : (yielded ops a.tmps j == some want) = r := by
      unfold gdec at hr
      split at hr
      · rename_i b hb
        cases hr
        rw [hb] at hv
        have hv' := VRD.bool_inv hv
        have ht : a.tmps[t]? = some (.bool b) := by
          simp only [Array.getD_eq_getD_getElem?] at hv'
          cases hq : a.tmps[t]? with
          | none => rw [hq] at hv'; simp [undef] at hv'
          | some x => rw [hq] at hv'; simp at hv'; rw [hv']
        unfold yielded
        rw [g2]
        simp [ht]
      · rename_i hb
        cases hr
        rw [hb] at hv
        have hv' : a.tmps.getD t undef = Go.undef := hv
        unfold yielded
        rw [g2]
        simp only [Array.getD_eq_getD_getElem?] at hv'
        cases hq : a.tmps[t]? with
        | none => simp [hq]
        | some x => rw [hq] at hv'; simp at hv'; subst hv'; simp [hq, Go.undef]
      · cases hr
    simp only [Region.wanted, g1, hy]
    cases r with
    | true =>
      simp only [if_true] at hs ⊢
      exact .inl (run hs)
    | false =>
      simp only [if_false, Bool.false_eq_true] at hs ⊢
      obtain ⟨m, hm⟩ := own_data h
      refine hK _ _ _ hs ⟨⟨S, m, ow, ?_, Evo.refl _ _ _ _⟩, Shape.refl _, put_size⟩
      rw [← hm, hdst]
      exact h.put (x := .skp) rfl (fun _ _ e => by cases e) (fun i hi => Nat.lt_of_lt_of_le (hdn i hi) hnt)
theorem ops_ok {c : Ctx} {ops : Array Oper} {Q : Exit → Act → World → Prop} : ∀ (l : List Oper) (as : List AI) (k : Nat), (∀ j, l[j]? = ops[k + j]?) → cOpers c ops l = some as →
    ∀ {S : Stb} {ms : List (Nat → Nat)} {ow : Nat → Option Nat} {ρ : Env} {L : Hp} {σ : List Hp} {G : Gh} {a : Act} {w : World} {K' : St → Prop}, Rel S ms ow base O ρ L σ G a w → c.nt ≤ a.tmps.size → regW c.P as ρ L σ G K' →
    (∀ st a' w', K' st → After S ms base O σ a w st a' w' → Q .normal a' w') → wpOps c.P ops Q (List.range' k l.length) a w
  | [], as, k, hl, hc, S, ms, ow, ρ, L, σ, G, a, w, K', h, hnt, hr, hQ => by
    simp [cOpers] at hc
    subst hc
    exact hQ _ _ _ hr (After.refl h)
  | o :: l, as, k, hl, hc, S, ms, ow, ρ, L, σ, G, a, w, K', h, hnt, hr, hQ => by
    simp only [cOpers] at hc
    split at hc
    · rename_i x xs hx hxs
      cases hc
      simp only [regW] at hr
      simp only [List.length_cons, List.range'_succ]
      rw [wpOps_cons]
      refine op_ok h (by simpa using (hl 0).symm) hx hnt hr fun st1 a1 w1 hk1 ha1 => ?_
      have hsz := ha1.sz
      have ha1' := ha1
      obtain ⟨⟨S', m', ow', hr1, he1⟩, hs1, hz1⟩ := ha1'
      refine ops_ok l xs (k + 1) (fun j => by have := hl (j + 1); simpa [Nat.add_assoc, Nat.add_comm 1 j] using this) hxs hr1 (by rw [hsz]; exact hnt) hk1 fun st a' w' hk' ha' => ?_
      obtain ⟨⟨S'', m'', ow'', hr2, he2⟩, hs2, hz2⟩ := ha'
      exact hQ _ _ _ hk' ⟨⟨S'', m'', ow'', by simpa using hr2, he1.trans he2⟩, hs1.trans hs2, hz2.trans hz1⟩
    · cases hc
/-! ### states that there are -/
/-- There is a state of the machine that the evaluator's state tells of. -/
def Inh (nt : Nat) (st : St) : Prop := ∃ S ms ow base O a w, Rel S ms ow base O st.1 st.2.1 st.2.2.1 st.2.2.2 a w ∧ nt ≤ a.tmps.size
theorem wp_ne {o : Oper} {K : Act → World → Prop} (h : o.wp P a w K fun _ _ _ => False) : ∃ a' w', K a' w' := by
  have hl : ¬ LetsOut (fun _ _ _ => False) := fun ⟨_, _, h⟩ => h
  unfold Oper.wp at h
  generalize (execOp a.eval o).run P w = r at h
  cases r with
  | ok n w' =>
    cases n <;> simp only [Oper.upon] at h
    case value v => exact ⟨_, _, h⟩
    case skip => exact ⟨_, _, h⟩
    case defer d => exact ⟨_, _, h⟩
    case enter f args =>
      obtain ⟨e, w'', fr, hR, _⟩ := h []
      cases e with
      | returned v => exact ⟨_, _, hR⟩
      | panicked ch => exact hR.elim
      | outgrown => exact absurd hR hl
    case row row args =>
      obtain ⟨v, w'', hR, _⟩ := h default []
      exact ⟨_, _, hR⟩
    all_goals exact h.elim
  | halt x w' => cases x <;> simp only [Oper.upon] at h <;> exact h.elim
theorem stepRun_ne {c : Ctx} {ops : Array Oper} {o : Oper} {ai : AI} (ho : cOper c ops o = some ai) {st : St} (hi : Inh c.nt st) {K : St → Prop} (h : stepRun c.P ai st.1 st.2.1 st.2.2.1 st.2.2.2 K) : ∃ st', K st' ∧ Inh c.nt st' := by
  obtain ⟨S, ms, ow, base, O, a, w, hrel, hnt⟩ := hi
  have := run_ok (K := fun a' w' => ∃ st', K st' ∧ Inh c.nt st') (Q := fun _ _ _ => False) hrel ho hnt h fun st' a' w' hk ha => by
    obtain ⟨⟨S', m', ow', hr, he⟩, hs, hz⟩ := ha
    exact ⟨st', hk, S', _, ow', base, O, a', w', hr, by rw [hz]; exact hnt⟩
  obtain ⟨_, _, h⟩ := wp_ne this
  exact h
end
end Go.E2
