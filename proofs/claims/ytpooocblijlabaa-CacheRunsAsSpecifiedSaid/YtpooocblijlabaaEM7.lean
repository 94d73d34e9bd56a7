/-
  Regions.
  Conditions: none; laws.
-/
import Derived.Test.YtpooocblijlabaaEM6
namespace Go.E2
section
variable {P : Program} {S : Stb} {ms : List (Nat → Nat)} {ow : Nat → Option Nat} {base : Nat} {O : Nat → Prop} {ρ : Env} {L : Hp} {σ : List Hp} {G : Gh} {a : Act} {w : World}
/-- Whatever hangs on what is not listed is not listed. -/
theorem dep_listed {ops : Array Oper} {listed : Array Bool} (hcl : ∀ m o, ops[m]? = some o → listed.getD m true = true → ∀ e ∈ o.after, Region.binds .any e = true → listed.getD e.on true = true) {i : Nat} (hi : listed.getD i true = false) {j : Nat} (hd : Dep ops i j) :
    (∀ o, ops[j]? = some o → ∀ e ∈ o.after, Region.binds .any e = true → listed.getD e.on true = true) → False := by
  induction hd with
  | direct h he hb hx =>
    intro hall
    have := hall _ h _ he hb
    rw [hx, hi] at this; cases this
  | step h he hb hd ih =>
    intro hall
    have hl := hall _ h _ he hb
    exact ih fun o ho e' he' hb' => hcl _ o ho hl e' he' hb'
theorem getD_of_false {l : Array Bool} {i : Nat} (h : l.getD i false = true) : l.getD i true = true := by
  simp only [Array.getD_eq_getD_getElem?] at h ⊢
  cases hq : l[i]? with
  | none => rfl
  | some b => rw [hq] at h; exact h
theorem any_ok {c : Ctx} {ops : Array Oper} {as : List AI} (hc : cOpers c ops ops.toList = some as) {Q : Exit → Act → World → Prop} {K' : St → Prop} : ∀ (n : Nat) (R : List Nat) (listed : Array Bool), R.length = n → R.Nodup → listed.size = ops.size →
    (∀ j, j < ops.size → (listed.getD j true = false ↔ j ∈ R)) → (∀ j ∈ R, j < ops.size) → goodOrd (masks ops.toList []) as R = true → topoOrd ops R = true →
    (∀ m o, ops[m]? = some o → listed.getD m true = true → ∀ e ∈ o.after, Region.binds .any e = true → listed.getD e.on true = true) →
    ∀ {S : Stb} {ms : List (Nat → Nat)} {ow : Nat → Option Nat} {a : Act} {w : World} {st : St}, Rel S ms ow base O st.1 st.2.1 st.2.2.1 st.2.2.2 a w → c.nt ≤ a.tmps.size → regR c.P as R st K' →
    (∀ st' a' w', K' st' → After S ms base O st.2.2.1 a w st' a' w' → Q .normal a' w') → wpAny c.P .any ops Q n listed a w
  | 0, R, listed, hlen, hnd, hsz, hun, hlt, hgo, hto, hcl, S, ms, ow, a, w, st, h, hnt, hr, hQ => by
    have hR : R = [] := List.eq_nil_of_length_eq_zero hlen
    subst hR
    refine ⟨?_, hQ _ _ _ hr (After.refl h)⟩
    apply List.eq_nil_iff_forall_not_mem.2
    intro j hj
    obtain ⟨hju, oj, hoj, _⟩ := mem_ready.1 hj
    have := (hun j (Array.getElem?_eq_some_iff.1 hoj).1).1 hju
    simp at this
  | n + 1, R, listed, hlen, hnd, hsz, hun, hlt, hgo, hto, hcl, S, ms, ow, a, w, st, h, hnt, hr, hQ => by
    refine ⟨fun hnil => ?_, fun j hj => ?_⟩
    · -- the first of 'R' is ready
      exfalso
      cases R with
      | nil => simp at hlen
      | cons i R =>
        have hilt := hlt i List.mem_cons_self
        simp only [topoOrd, Bool.and_eq_true] at hto
        have h1 := hto.1
        have hoi : ops[i]? = some ops[i] := by simp [hilt]
        rw [hoi] at h1
        simp only at h1
        rw [Array.all_eq_true] at h1
        have : i ∈ Region.ready .any ops listed := by
          refine mem_ready.2 ⟨(hun i hilt).2 List.mem_cons_self, ops[i], hoi, fun e he hb => ?_⟩
          obtain ⟨k, hk, rfl⟩ := Array.mem_iff_getElem.1 he
          have h2 := h1 k hk
          simp only [hb, Bool.not_true, Bool.false_or, Bool.and_eq_true, decide_eq_true_eq, Bool.not_eq_true', List.contains_eq_mem, decide_eq_false_iff_not] at h2
          have h3 : listed.getD (ops[i].after[k]).on true ≠ false := fun hf => h2.2 ((hun _ h2.1).1 hf)
          have hlt2 : (ops[i].after[k]).on < listed.size := by rw [hsz]; exact h2.1
          simp only [Array.getD_eq_getD_getElem?, Array.getElem?_eq_getElem hlt2, Option.getD_some] at h3 ⊢
          simpa using h3
        rw [hnil] at this
        cases this
    · obtain ⟨hju, oj, hoj, hdeps⟩ := mem_ready.1 hj
      have hjlt := (Array.getElem?_eq_some_iff.1 hoj).1
      have hjR := (hun j hjlt).1 hju
      have hnot : ∀ i ∈ R, i ≠ j → ((masks ops.toList []).getD j 0).testBit i = false := by
        intro i hi _
        cases hb : ((masks ops.toList []).getD j 0).testBit i with
        | false => rfl
        | true =>
          exfalso
          have hd := masks_ok (ops := ops) (i := i) ops.toList [] rfl (fun k hk => by simp at hk) j hb
          refine dep_listed hcl ((hun i (hlt i hi)).2 hi) hd fun o ho e he hbe => ?_
          rw [hoj] at ho
          cases ho
          exact getD_of_false (hdeps e he hbe)
      obtain ⟨aj, haj, hs⟩ := bubble hgo hjR hnot hr
      obtain ⟨hlen2, hget⟩ := cOpers_get hc
      obtain ⟨aj', haj', hco⟩ := hget j oj (by simpa using hoj)
      rw [haj] at haj'
      cases haj'
      refine op_ok h hoj hco hnt hs fun st1 a1 w1 hk1 ha1 => ?_
      have hsz1 := ha1.sz
      have ha1' := ha1
      obtain ⟨⟨S', m', ow', hr1, he1⟩, hs1, hz1⟩ := ha1'
      have hjl : j < listed.size := by rw [hsz]; exact hjlt
      refine any_ok hc n (R.erase j) (listed.setIfInBounds j true) (by rw [List.length_erase_of_mem hjR, hlen]; rfl) (hnd.erase j) (by simpa using hsz) (fun k hk => ?_) (fun k hk => hlt k (List.mem_of_mem_erase hk)) (goodOrd_erase hgo) (topoOrd_erase hto) (fun m o ho hm e he hb => ?_) hr1 (by rw [hsz1]; exact hnt) hk1 fun st' a' w' hk' ha' => ?_
      · by_cases hkj : j = k
        · subst hkj
          constructor
          · intro hf
            simp [hjl] at hf
          · intro hm
            exact absurd hm (List.Nodup.not_mem_erase hnd)
        · rw [getD_set_ne true hkj, hun k hk]
          exact (List.mem_erase_of_ne (Ne.symm hkj)).symm
      · by_cases hej : j = e.on
        · rw [← hej]; simp [hjl]
        · rw [getD_set_ne true hej]
          by_cases hmj : j = m
          · subst hmj
            rw [hoj] at ho
            cases ho
            exact getD_of_false (hdeps e he hb)
          · rw [getD_set_ne true hmj] at hm
            exact hcl m o ho hm e he hb
      · obtain ⟨⟨S'', m'', ow'', hr2, he2⟩, hs2, hz2⟩ := ha'
        exact hQ _ _ _ hk' ⟨⟨S'', m'', ow'', by simpa using hr2, he1.trans he2⟩, hs1.trans hs2, hz2.trans hz1⟩
theorem RelH.drawn {lv : List Hp} (h : RelH S ms lv G w) (d : Nat) : RelH S ms lv G { w with drawn := d } := ⟨h.sub, h.len, h.box, h.nos, h.inj, h.gbox, h.gnos, h.gnl⟩
theorem Rel.drawn (h : Rel S ms ow base O ρ L σ G a w) (d : Nat) : Rel S ms ow base O ρ L σ G a { w with drawn := d } :=
  { h := h.h.drawn d, tmp := h.tmp, own := fun {i sz es} hi => by
      have := h.own hi
      cases ho : ow i with
      | none => rw [ho] at this; exact this
      | some g => rw [ho] at this; exact this
    ownI := h.ownI, ownB := h.ownB, new := h.new, old := h.old, gold := h.gold, dfs := h.dfs, bas := h.bas }
theorem Evo.drawn (d : Nat) {S' : Stb} {w' : World} (h : Evo base O S { w with drawn := d } S' w') : Evo base O S w S' w' :=
  ⟨h.sz, h.keep, h.st, h.sub, h.os, h.tape, h.out⟩
/-- **A region.** -/
theorem region_ok (hm : P.follows .mixedOrders = true) {gs : List Nat} {nt : Nat} {defs : List Oper} {id : Nat} {ops : Array Oper} {draw : Bool} {d : Bool} {as : List AI}
    (hc : cCode P gs nt defs (.region id ops draw) = some (.reg d as)) (h : Rel S ms ow base O ρ L σ G a w) (hnt : nt ≤ a.tmps.size) {K' : St → Prop} (hr : regW P as ρ L σ G K') {Q : Exit → Act → World → Prop}
    (hQ : ∀ st a' w', K' st → After S ms base O σ a w st a' w' → Q .normal a' w') : (Code.region id ops draw).wp P Q a w := by
  simp only [cCode] at hc
  split at hc
  · rename_i as' hco
    cases draw with
    | false =>
      simp at hc
      obtain ⟨rfl, rfl⟩ := hc
      refine wp_region ?_
      have := ops_ok (Q := Q) ops.toList as' 0 (fun j => by simp) hco h hnt hr hQ
      rw [List.range_eq_range']
      simpa using this
    | true =>
      simp only [if_true] at hc
      split at hc
      · rename_i hok
        simp only [Option.map_eq_some_iff] at hc
        obtain ⟨l, hl, he⟩ := hc
        cases he
        simp only [ordOk, Bool.and_eq_true, beq_iff_eq, decide_eq_true_eq, List.all_eq_true] at hok
        obtain ⟨⟨⟨⟨⟨⟨h1, h2⟩, h0⟩, h3⟩, _⟩, h5⟩, h6⟩ := hok
        have hperm : ∀ j, j < ops.size → j ∈ orderOf ops as' ops.size (List.range ops.size) := fun j hj => by
          have := h0 j (List.mem_range.2 hj)
          simpa using this
        refine wp_region_any hm ?_
        refine any_ok hco ops.size _ _ h1 h2 (by simp) (fun j hj => ⟨fun _ => hperm j hj, fun _ => by simp [hj]⟩) h3 h6 h5 (fun m o ho hmt e he hb => ?_) (h.drawn (w.drawn + 1)) hnt (regR_of_pick hl (st := (ρ, L, σ, G)) hr) fun st a' w' hk ha => hQ _ _ _ hk ?_
        · have hml := (Array.getElem?_eq_some_iff.1 ho).1
          simp [hml] at hmt
        · obtain ⟨⟨S', m', ow', hr1, he1⟩, hs1, hz1⟩ := ha
          exact ⟨⟨S', m', ow', hr1, he1.drawn _⟩, hs1, hz1⟩
      · cases hc
  · cases hc
end
end Go.E2
