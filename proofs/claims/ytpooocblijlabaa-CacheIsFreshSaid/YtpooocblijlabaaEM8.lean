/-
  What holds of where a piece of code comes to, over the evaluator's states; the machine does the same.
  Conditions: none; definitions and laws.
-/
import Derived.Test.YtpooocblijlabaaEV
namespace Go.E2
theorem wp_loop_n {P : Program} {c : Code} {Q : Exit → Act → World → Prop} (I : Nat → Act → World → Prop)
    (round : ∀ n a w, I n a w → c.wp P (Exit.then (fun a' w' => ∃ m, m < n ∧ I m a' w') Q) a w) {n : Nat} {a : Act} {w : World} (h₀ : I n a w) : (Code.loop c).wp P Q a w := by
  intro b k cs
  have key : ∀ n a w, I n a w → ∃ e a' w', Q e a' w' ∧ Arrives P (lone (b.at a (.code c :: .inLoop c :: k)) cs w) b k cs e a' w' := by
    intro n
    induction n using Nat.strongRecOn with
    | _ n ih =>
      intro a w hI
      obtain ⟨e, a₁, w₁, hq, harr⟩ := round n a w hI b (.inLoop c :: k) cs
      cases e with
      | normal =>
        obtain ⟨m, hlt, hI₁⟩ := hq
        obtain ⟨e₂, a₂, w₂, hq₂, harr₂⟩ := ih m hlt a₁ w₁ hI₁
        exact ⟨e₂, a₂, w₂, hq₂, .of_steps (Steps.trans harr (.one step_inLoop)) harr₂⟩
      | exit id => exact ⟨_, a₁, w₁, hq, .pass (x := .inLoop c) rfl (fun _ _ => .inl (by simp)) harr⟩
      | goto l => exact ⟨_, a₁, w₁, hq, .pass (x := .inLoop c) rfl (fun _ _ => .inl (by simp)) harr⟩
      | ret => exact ⟨_, a₁, w₁, hq, .pass (x := .inLoop c) rfl (fun _ _ => .inl (by simp)) harr⟩
      | panic ch => exact ⟨_, a₁, w₁, hq, .pass (x := .inLoop c) rfl (fun _ _ => .inl (by simp)) harr⟩
      | outgrown => exact ⟨_, a₁, w₁, hq, .pass (x := .inLoop c) rfl (fun _ _ => .inl (by simp)) harr⟩
  obtain ⟨e, a', w', hq, harr⟩ := key n a w h₀
  exact ⟨e, a', w', hq, .of_steps (.one step_loop) harr⟩
inductive AExit where
  | normal
  | exit (id : Nat)
  | ret
def AExit.then (next : St → Prop) (κ : AExit → St → Prop) : AExit → St → Prop
  | .normal, st => next st
  | e, st => κ e st
def AExit.inBlock (id : Nat) (κ : AExit → St → Prop) : AExit → St → Prop
  | .exit id', st => if id' = id then κ .normal st else κ (.exit id') st
  | e, st => κ e st
/-- The machine's way out, told of by the evaluator's. -/
def outQ (S : Stb) (ms : List (Nat → Nat)) (base : Nat) (O : Nat → Prop) (σ : List Hp) (a : Act) (w : World) (κ : AExit → St → Prop) : Exit → Act → World → Prop
  | .normal, a', w' => ∃ st, κ .normal st ∧ After S ms base O σ a w st a' w'
  | .exit id, a', w' => ∃ st, κ (.exit id) st ∧ After S ms base O σ a w st a' w'
  | .ret, a', w' => ∃ st, κ .ret st ∧ After S ms base O σ a w st a' w'
  | _, _, _ => False
theorem After.trans {S S' : Stb} {ms : List (Nat → Nat)} {m' : Nat → Nat} {base : Nat} {O : Nat → Prop} {σ σ' : List Hp} {a a' a'' : Act} {w w' w'' : World} {st : St} (he : Evo base O S w S' w') (hs : Shape σ σ') (hz : a'.tmps.size = a.tmps.size)
    (h : After S' (m' :: ms.tail) base O σ' a' w' st a'' w'') : After S ms base O σ a w st a'' w'' := by
  obtain ⟨⟨S'', m'', ow'', hr, he'⟩, hs', hz'⟩ := h
  exact ⟨⟨S'', m'', ow'', by simpa using hr, he.trans he'⟩, hs.trans hs', hz'.trans hz⟩
/-- What holds of where a piece of code comes to: the machine's run of whatever code it was made of does so. -/
def SW (P : Program) (ac : ACode) (κ : AExit → St → Prop) (st : St) : Prop :=
  P.follows .mixedOrders = true → ∀ (gs : List Nat) (nt : Nat) (defs : List Oper) (code : Code), cCode P gs nt defs code = some ac →
  ∀ (S : Stb) (ms : List (Nat → Nat)) (ow : Nat → Option Nat) (base : Nat) (O : Nat → Prop) (a : Act) (w : World), Rel S ms ow base O st.1 st.2.1 st.2.2.1 st.2.2.2 a w → nt ≤ a.tmps.size → code.wp P (outQ S ms base O st.2.2.1 a w κ) a w
section
variable {P : Program} {κ κ' : AExit → St → Prop} {st st' : St}
theorem outQ_mono {S : Stb} {ms : List (Nat → Nat)} {base : Nat} {O : Nat → Prop} {σ : List Hp} {a : Act} {w : World} (hk : ∀ e st, κ e st → κ' e st) : ∀ e a' w', outQ S ms base O σ a w κ e a' w' → outQ S ms base O σ a w κ' e a' w' := by
  intro e a' w' h
  cases e with
  | normal => obtain ⟨st, h1, h2⟩ := h; exact ⟨st, hk _ _ h1, h2⟩
  | exit id => obtain ⟨st, h1, h2⟩ := h; exact ⟨st, hk _ _ h1, h2⟩
  | ret => obtain ⟨st, h1, h2⟩ := h; exact ⟨st, hk _ _ h1, h2⟩
  | _ => exact h.elim
/-- An outcome behind another. -/
theorem outQ_chain {S S' : Stb} {ms : List (Nat → Nat)} {m' : Nat → Nat} {base : Nat} {O : Nat → Prop} {σ σ' : List Hp} {a a' : Act} {w w' : World} (he : Evo base O S w S' w') (hs : Shape σ σ') (hz : a'.tmps.size = a.tmps.size) :
    ∀ e a'' w'', outQ S' (m' :: ms.tail) base O σ' a' w' κ e a'' w'' → outQ S ms base O σ a w κ e a'' w'' := by
  intro e a'' w'' h
  cases e with
  | normal => obtain ⟨st, h1, h2⟩ := h; exact ⟨st, h1, After.trans he hs hz h2⟩
  | exit id => obtain ⟨st, h1, h2⟩ := h; exact ⟨st, h1, After.trans he hs hz h2⟩
  | ret => obtain ⟨st, h1, h2⟩ := h; exact ⟨st, h1, After.trans he hs hz h2⟩
  | _ => exact h.elim
theorem SW.mono {c : ACode} (h : SW P c κ st) (hk : ∀ e st, κ e st → κ' e st) : SW P c κ' st :=
  fun hm gs nt defs code hc S ms ow base O a w hr hn => wp_mono (h hm gs nt defs code hc S ms ow base O a w hr hn) (outQ_mono hk)
theorem SW.weaken {c : ACode} (hl : StLe st st') (h : SW P c κ st') : SW P c κ st := by
  intro hm gs nt defs code hc S ms ow base O a w hr hn
  obtain ⟨ow', hr'⟩ := hr.le (ρ' := st'.1) (L' := st'.2.1) (G' := st'.2.2.2) hl.e hl.l hl.g
  have := h hm gs nt defs code hc S ms ow' base O a w (by rw [hl.s]; exact hr') hn
  rw [hl.s] at this
  exact this
theorem cCode_region {gs : List Nat} {nt : Nat} {defs : List Oper} {id : Nat} {ops : Array Oper} {draw : Bool} {ac : ACode} (h : cCode P gs nt defs (.region id ops draw) = some ac) : ∃ d as, ac = .reg d as := by
  simp only [cCode] at h
  split at h
  · split at h
    · split at h
      · simp only [Option.map_eq_some_iff] at h
        obtain ⟨l, _, e⟩ := h
        exact ⟨_, _, e.symm⟩
      · cases h
    · cases h; exact ⟨_, _, rfl⟩
  · cases h
theorem cCode_seq {gs : List Nat} {nt : Nat} {defs : List Oper} {a b : Code} {ac : ACode} (h : cCode P gs nt defs (.seq a b) = some ac) : ∃ x y, ac = .seq x y ∧ cCode P gs nt defs a = some x ∧ cCode P gs nt defs b = some y := by
  simp only [cCode] at h
  split at h
  · rename_i x y hx hy; cases h; exact ⟨x, y, rfl, hx, hy⟩
  · cases h
theorem cCode_cond {gs : List Nat} {nt : Nat} {defs : List Oper} {c : Operand} {a b : Code} {ac : ACode} (h : cCode P gs nt defs (.cond c a b) = some ac) : ∃ c' x y, ac = .cond c' x y ∧ cO c = some c' ∧ cCode P gs nt defs a = some x ∧ cCode P gs nt defs b = some y := by
  simp only [cCode] at h
  split at h
  · rename_i c' x y hc hx hy; cases h; exact ⟨c', x, y, rfl, hc, hx, hy⟩
  · cases h
theorem cCode_block {gs : List Nat} {nt : Nat} {defs : List Oper} {id : Nat} {a : Code} {ac : ACode} (h : cCode P gs nt defs (.block id a) = some ac) : ∃ x, ac = .block id x ∧ cCode P gs nt defs a = some x := by
  simp only [cCode, Option.map_eq_some_iff] at h
  obtain ⟨x, hx, rfl⟩ := h
  exact ⟨x, rfl, hx⟩
theorem cCode_loop {gs : List Nat} {nt : Nat} {defs : List Oper} {a : Code} {ac : ACode} (h : cCode P gs nt defs (.loop a) = some ac) : ∃ x, ac = .loop x ∧ cCode P gs nt defs a = some x := by
  simp only [cCode, Option.map_eq_some_iff] at h
  obtain ⟨x, hx, rfl⟩ := h
  exact ⟨x, rfl, hx⟩
theorem SW.skip (h : κ .normal st) : SW P .skip κ st := by
  intro hm gs nt defs code hc S ms ow base O a w hr hn
  cases code with
  | skip => exact wp_skip ⟨st, h, After.refl hr⟩
  | region id ops draw => obtain ⟨_, _, e⟩ := cCode_region hc; cases e
  | seq a b => obtain ⟨_, _, e, _⟩ := cCode_seq hc; cases e
  | cond c a b => obtain ⟨_, _, _, e, _⟩ := cCode_cond hc; cases e
  | block id a => obtain ⟨_, e, _⟩ := cCode_block hc; cases e
  | loop a => obtain ⟨_, e, _⟩ := cCode_loop hc; cases e
  | _ => simp [cCode] at hc
theorem SW.exit {id : Nat} (h : κ (.exit id) st) : SW P (.exit id) κ st := by
  intro hm gs nt defs code hc S ms ow base O a w hr hn
  cases code with
  | exit id' => simp [cCode] at hc; subst hc; exact wp_exit ⟨st, h, After.refl hr⟩
  | region id ops draw => obtain ⟨_, _, e⟩ := cCode_region hc; cases e
  | seq a b => obtain ⟨_, _, e, _⟩ := cCode_seq hc; cases e
  | cond c a b => obtain ⟨_, _, _, e, _⟩ := cCode_cond hc; cases e
  | block id a => obtain ⟨_, e, _⟩ := cCode_block hc; cases e
  | loop a => obtain ⟨_, e, _⟩ := cCode_loop hc; cases e
  | _ => simp [cCode] at hc
theorem SW.ret (h : κ .ret st) : SW P .ret κ st := by
  intro hm gs nt defs code hc S ms ow base O a w hr hn
  cases code with
  | ret => exact wp_ret ⟨st, h, After.refl hr⟩
  | region id ops draw => obtain ⟨_, _, e⟩ := cCode_region hc; cases e
  | seq a b => obtain ⟨_, _, e, _⟩ := cCode_seq hc; cases e
  | cond c a b => obtain ⟨_, _, _, e, _⟩ := cCode_cond hc; cases e
  | block id a => obtain ⟨_, e, _⟩ := cCode_block hc; cases e
  | loop a => obtain ⟨_, e, _⟩ := cCode_loop hc; cases e
  | _ => simp [cCode] at hc
theorem SW.reg {d : Bool} {os : List AI} (h : regW P os st.1 st.2.1 st.2.2.1 st.2.2.2 (κ .normal)) : SW P (.reg d os) κ st := by
  intro hm gs nt defs code hc S ms ow base O a w hr hn
  cases code with
  | region id ops draw => exact region_ok hm hc hr hn h fun st' a' w' hk ha => ⟨st', hk, ha⟩
  | seq a b => obtain ⟨_, _, e, _⟩ := cCode_seq hc; cases e
  | cond c a b => obtain ⟨_, _, _, e, _⟩ := cCode_cond hc; cases e
  | block id a => obtain ⟨_, e, _⟩ := cCode_block hc; cases e
  | loop a => obtain ⟨_, e, _⟩ := cCode_loop hc; cases e
  | _ => simp [cCode] at hc
theorem SW.seq {x y : ACode} (h : SW P x (AExit.then (fun st' => SW P y κ st') κ) st) : SW P (.seq x y) κ st := by
  intro hm gs nt defs code hc S ms ow base O a w hr hn
  cases code with
  | seq c1 c2 =>
    obtain ⟨_, _, e, hx, hy⟩ := cCode_seq hc
    cases e
    refine wp_seq (wp_mono (h hm gs nt defs c1 hx S ms ow base O a w hr hn) fun e a' w' hq => ?_)
    cases e with
    | normal =>
      obtain ⟨st', hk, ha⟩ := hq
      have hz := ha.sz
      obtain ⟨⟨S', m', ow', hr', he⟩, hs, _⟩ := ha
      exact wp_mono (hk hm gs nt defs c2 hy S' _ ow' base O a' w' hr' (by rw [hz]; exact hn)) fun e a'' w'' hq' => outQ_chain he hs hz e a'' w'' hq'
    | exit id => exact hq
    | ret => exact hq
    | _ => exact hq.elim
  | region id ops draw => obtain ⟨_, _, e⟩ := cCode_region hc; cases e
  | cond c a b => obtain ⟨_, _, _, e, _⟩ := cCode_cond hc; cases e
  | block id a => obtain ⟨_, e, _⟩ := cCode_block hc; cases e
  | loop a => obtain ⟨_, e, _⟩ := cCode_loop hc; cases e
  | _ => simp [cCode] at hc
theorem SW.cond {c : AO} {x y : ACode} {t : Bool} (ht : ev st.1 c = .d (.bool t)) (h1 : t = true → SW P x κ st) (h2 : t = false → SW P y κ st) : SW P (.cond c x y) κ st := by
  intro hm gs nt defs code hc S ms ow base O a w hr hn
  cases code with
  | cond c0 a0 b0 =>
    obtain ⟨_, _, _, e, hc', hx, hy⟩ := cCode_cond hc
    cases e
    have hv := operand_ok hr.tmp hc'
    rw [ht] at hv
    refine wp_cond (VRD.bool_inv hv) ?_
    cases t with
    | true => exact h1 rfl hm gs nt defs a0 hx S ms ow base O a w hr hn
    | false => exact h2 rfl hm gs nt defs b0 hy S ms ow base O a w hr hn
  | region id ops draw => obtain ⟨_, _, e⟩ := cCode_region hc; cases e
  | seq a b => obtain ⟨_, _, e, _⟩ := cCode_seq hc; cases e
  | block id a => obtain ⟨_, e, _⟩ := cCode_block hc; cases e
  | loop a => obtain ⟨_, e, _⟩ := cCode_loop hc; cases e
  | _ => simp [cCode] at hc
theorem SW.block {id : Nat} {x : ACode} (h : SW P x (AExit.inBlock id κ) st) : SW P (.block id x) κ st := by
  intro hm gs nt defs code hc S ms ow base O a w hr hn
  cases code with
  | block id' c0 =>
    obtain ⟨_, e, hx⟩ := cCode_block hc
    cases e
    refine wp_block (wp_mono (h hm gs nt defs c0 hx S ms ow base O a w hr hn) fun e a' w' hq => ?_)
    cases e with
    | normal => exact hq
    | exit id' =>
      obtain ⟨st', hk, ha⟩ := hq
      simp only [AExit.inBlock] at hk
      simp only [Exit.inBlock]
      split at hk
      · rename_i e; rw [if_pos e]; exact ⟨st', hk, ha⟩
      · rename_i e; rw [if_neg e]; exact ⟨st', hk, ha⟩
    | ret => exact hq
    | _ => exact hq.elim
  | region id ops draw => obtain ⟨_, _, e⟩ := cCode_region hc; cases e
  | seq a b => obtain ⟨_, _, e, _⟩ := cCode_seq hc; cases e
  | cond c a b => obtain ⟨_, _, _, e, _⟩ := cCode_cond hc; cases e
  | loop a => obtain ⟨_, e, _⟩ := cCode_loop hc; cases e
  | _ => simp [cCode] at hc
/-- A loop: 'I n' holds at each round's head, with lesser and lesser 'n'. -/
theorem SW.loop {x : ACode} (I : Nat → St → Prop) {n : Nat} (h0 : I n st) (round : ∀ n st', I n st' → SW P x (AExit.then (fun st'' => ∃ m st0, m < n ∧ StLe st'' st0 ∧ I m st0) κ) st') : SW P (.loop x) κ st := by
  intro hm gs nt defs code hc S ms ow base O a w hr hn
  cases code with
  | loop c0 =>
    obtain ⟨_, e, hx⟩ := cCode_loop hc
    cases e
    refine wp_loop_n (n := n) (fun n a' w' => ∃ st', I n st' ∧ After S ms base O st.2.2.1 a w st' a' w') (fun n a' w' ⟨st', hI, ha⟩ => ?_) ⟨st, h0, After.refl hr⟩
    have hz := ha.sz
    obtain ⟨⟨S', m', ow', hr', he⟩, hs, _⟩ := ha
    refine wp_mono (round n st' hI hm gs nt defs c0 hx S' _ ow' base O a' w' hr' (by rw [hz]; exact hn)) fun e a'' w'' hq => ?_
    cases e with
    | normal =>
      obtain ⟨st'', ⟨m, st0, hlt, hle, hI'⟩, ha'⟩ := hq
      have hz' := ha'.sz
      obtain ⟨⟨S'', m'', ow'', hr2, he2⟩, hs2, _⟩ := ha'
      obtain ⟨ow3, hr3⟩ := hr2.le (ρ' := st0.1) (L' := st0.2.1) (G' := st0.2.2.2) hle.e hle.l hle.g
      refine ⟨m, hlt, st0, hI', ⟨⟨S'', m'', ow3, ?_, he.trans he2⟩, by rw [hle.s]; exact hs.trans hs2, hz'.trans hz⟩⟩
      rw [hle.s]
      simpa using hr3
    | exit id => exact outQ_chain he hs hz (.exit id) a'' w'' hq
    | ret => exact outQ_chain he hs hz .ret a'' w'' hq
    | _ => exact hq.elim
  | region id ops draw => obtain ⟨_, _, e⟩ := cCode_region hc; cases e
  | seq a b => obtain ⟨_, _, e, _⟩ := cCode_seq hc; cases e
  | cond c a b => obtain ⟨_, _, _, e, _⟩ := cCode_cond hc; cases e
  | block id a => obtain ⟨_, e, _⟩ := cCode_block hc; cases e
  | _ => simp [cCode] at hc
/-- What holds behind a piece of code is what the rest begins with. -/
theorem SW.cut {x y : ACode} (J : St → Prop) (h : SW P x (AExit.then (fun st' => ∃ st0, StLe st' st0 ∧ J st0) κ) st) (hJ : ∀ st', J st' → SW P y κ st') : SW P (.seq x y) κ st :=
  .seq (h.mono fun e st' hk => by
    cases e with
    | normal => obtain ⟨st0, hl, hj⟩ := hk; exact (hJ st0 hj).weaken hl
    | exit id => exact hk
    | ret => exact hk)
end
end Go.E2
/-
  The evaluator's runs are the machine's: the whole function.
  Conditions: none; laws.
-/
namespace Go.E2
def resM (tmps : Array Value) : ResultVar → Sem Value
  | .tmp t => pure (tmps.getD t undef)
  | .cell a t => do loadVar t (← asAddr (tmps.getD a undef))
theorem results_eq (fn : Func) (tmps : Array Value) : results fn tmps = (do
    let vs ← Functor.map List.toArray (fn.results.toList.mapM (resM tmps))
    pure (if h : vs.size = 1 then vs[0] else .tuple vs)) := by
  unfold results
  rw [Array.mapM_eq_mapM_toList]
  rfl
section
variable {P : Program} {S : Stb} {ms : List (Nat → Nat)} {ow : Nat → Option Nat} {base : Nat} {O : Nat → Prop} {ρ : Env} {L : Hp} {σ : List Hp} {G : Gh} {a : Act} {w : World}
theorem resOne_ok (h : Rel S ms ow base O ρ L σ G a w) {r : ResultVar} {ar : ARes} (hc : cRes P [r] = some [ar]) {x : AV} (hx : resOne ρ (L :: σ) ar = some x) :
    ∃ v, (resM a.tmps r).run P w = .ok v w ∧ Ret S w G base x v := by
  cases r with
  | tmp t =>
    simp [cRes] at hc
    subst hc
    refine ⟨a.tmps.getD t undef, by simp only [resM, Sem.run_pure], ?_⟩
    have ht := h.tmp t
    simp only [resOne] at hx
    split at hx
    · rename_i y e; cases hx; rw [e] at ht; exact ht
    · rename_i sz es e
      cases hx
      exact ⟨ow t, h.own e, fun g hg => ⟨(h.ownB e hg).1, (h.ownB e hg).2.1⟩⟩
    · cases hx
  | cell b t =>
    simp only [cRes] at hc
    split at hc
    · rename_i g n rs e1 e2 e3
      split at hc
      · rename_i hgn
        cases e3
        cases hc
        have ht := h.tmp b
        simp only [resOne] at hx
        split at hx
        · rename_i k s g0 off e
          rw [e] at ht
          split at hx
          · rename_i cs hcs
            simp only [Option.map_eq_some_iff] at hx
            obtain ⟨z, hz, rfl⟩ := hx
            obtain ⟨bb, hb, _, c0, e0, hc0, hvc, hone⟩ := box_cells h.h ht hcs
            obtain ⟨v, hv, hr⟩ := loadVar_ok (w := w) (b := bb) (o := off) e1 e2 hgn (hvc.drop off) (all_drop hone off) (cell_of_block hc0) hz
            exact ⟨v, by simp [resM, hb, asAddr, hv], hr⟩
          · cases hx
        · cases hx
      · cases hc
    · cases hc
theorem cRes_cons {r : ResultVar} {rs : List ResultVar} {res : List ARes} (h : cRes P (r :: rs) = some res) : ∃ ar res', res = ar :: res' ∧ cRes P [r] = some [ar] ∧ cRes P rs = some res' := by
  cases r with
  | tmp t =>
    simp only [cRes, Option.map_eq_some_iff] at h
    obtain ⟨x, hx, rfl⟩ := h
    exact ⟨_, _, rfl, rfl, hx⟩
  | cell b t =>
    simp only [cRes] at h
    split at h
    · rename_i g n rs' e1 e2 e3
      split at h
      · rename_i hgn
        cases h
        exact ⟨_, _, rfl, by simp [cRes, e1, e2, hgn], e3⟩
      · cases h
    · cases h
theorem Ret.data {x : AV} {y : D} {v : Value} (h : Ret S w G base x v) (hy : x.data = some y) : VRD S y v := by
  cases x with
  | d z => simp [AV.data] at hy; subst hy; exact h
  | own sz es => simp [AV.data] at hy; subst hy; obtain ⟨R, ho, _⟩ := h; exact ho.vrd
  | _ => simp [AV.data] at hy
theorem resAll_ok (h : Rel S ms ow base O ρ L σ G a w) : ∀ (rs : List ResultVar) (res : List ARes) (xs : List D), cRes P rs = some res → resAll ρ (L :: σ) res = some xs →
    ∃ vs, (rs.mapM (resM a.tmps)).run P w = .ok vs w ∧ VRDs S xs vs
  | [], res, xs, hc, hx => by
    simp [cRes] at hc; subst hc
    simp [resAll] at hx; subst hx
    exact ⟨[], by simp, VRDs.nil⟩
  | r :: rs, res, xs, hc, hx => by
    obtain ⟨ar, res', rfl, h1, h2⟩ := cRes_cons hc
    simp only [resAll] at hx
    split at hx
    · rename_i v vs e1 e2
      split at hx
      · rename_i y hy
        cases hx
        obtain ⟨u, hu, hru⟩ := resOne_ok h h1 e1
        obtain ⟨us, hus, hrus⟩ := resAll_ok h rs res' vs h2 e2
        exact ⟨u :: us, by simp [List.mapM_cons, hu, hus], VRDs.cons (hru.data hy) hrus⟩
      · cases hx
    · cases hx
theorem cRes_len : ∀ {rs : List ResultVar} {res : List ARes}, cRes P rs = some res → rs.length = res.length
  | [], res, h => by simp [cRes] at h; subst h; rfl
  | r :: rs, res, h => by
    obtain ⟨ar, res', rfl, _, h2⟩ := cRes_cons h
    simp [cRes_len h2]
theorem resAll_len {lv : List Hp} : ∀ {res : List ARes} {xs : List D}, resAll ρ lv res = some xs → xs.length = res.length
  | [], xs, h => by simp [resAll] at h; subst h; rfl
  | r :: res, xs, h => by
    simp only [resAll] at h
    split at h
    · rename_i v vs e1 e2
      split at h
      · cases h
        simp [resAll_len e2]
      · cases h
    · cases h
theorem fin_ok (h : Rel S ms ow base O ρ L σ G a w) {fn : Func} {res : List ARes} (hc : cRes P fn.results.toList = some res) {r : AV} (hx : fin res ρ (L :: σ) = some r) :
    ∃ v, (results fn a.tmps).run P w = .ok v w ∧ Ret S w G base r v := by
  rw [results_eq]
  generalize fn.results.toList = rs at hc
  have many : ∀ xs, resAll ρ (L :: σ) res = some xs → res.length ≠ 1 → r = .tup xs → ∃ v, ((do
    let vs ← Functor.map List.toArray (rs.mapM (resM a.tmps))
    pure (if h : vs.size = 1 then vs[0] else .tuple vs) : Sem Value)).run P w = .ok v w ∧ Ret S w G base r v := by
    intro xs hxs hl ho
    subst ho
    obtain ⟨vs, hvs, hr⟩ := resAll_ok h rs res xs hc hxs
    have hlen := cRes_len hc
    have hxl := resAll_len hxs
    refine ⟨.tuple vs.toArray, ?_, vs.toArray, rfl, by simpa using hr⟩
    have h1 : vs.length ≠ 1 := by have := hr.1; omega
    simp [hvs, h1]
  match res, hx, hc, many with
  | [ar], hx, hc, _ =>
    simp only [fin] at hx
    cases rs with
    | nil => simp [cRes] at hc
    | cons r0 rs =>
      obtain ⟨ar', res', e, h1, h2⟩ := cRes_cons hc
      cases e
      have : rs = [] := by
        cases rs with
        | nil => rfl
        | cons r' rs' => obtain ⟨_, _, e, _⟩ := cRes_cons h2; cases e
      subst this
      obtain ⟨u, hu, hru⟩ := resOne_ok h h1 hx
      exact ⟨u, by simp [List.mapM_cons, hu], hru⟩
  | [], hx, hc, many =>
    simp only [fin, Option.map_eq_some_iff] at hx
    obtain ⟨xs, hxs, rfl⟩ := hx
    exact many xs hxs (by simp) rfl
  | x :: y :: res, hx, hc, many =>
    simp only [fin, Option.map_eq_some_iff] at hx
    obtain ⟨xs, hxs, rfl⟩ := hx
    exact many xs hxs (by simp) rfl
end
end Go.E2
