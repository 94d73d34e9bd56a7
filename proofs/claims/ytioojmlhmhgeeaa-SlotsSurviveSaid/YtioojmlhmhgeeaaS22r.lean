/-
 Layer 22 (slots): the slots of a new disk, as plain mathematics.
 Conditions: none.
-/
import Derived.Test.YtioojmlhmhgeeaaS22k
namespace C22
def dN (k : Int) : Dk := ⟨List.replicate 6 ⟨mk1 1 [], false, []⟩, k, -1, false⟩
theorem open_fresh : openR (fresh 6) 0 3 = (dN 9, [0, 1, 2], 0) := by decide +kernel
theorem fmt_dN : fmtR (dN 9) 0 3 = (dN 16, 0) := by decide +kernel
theorem open_dN : openR (dN 16) 0 3 = (dN 16, [], 0) := by decide +kernel
theorem dN_cel {k : Int} {i : Nat} (hi : i < 6) : celAt (dN k) i = ⟨mk1 1 [], false, []⟩ := by
 rw [celAt_get (by simpa [dN] using hi)]
 exact List.getElem_replicate _
theorem dN_idle {k : Int} (h0 : 0 ≤ k) (h1 : k ≤ 2000000000) : Idle (dN k) := by
 have hc : ∀ c ∈ (dN k).cs, c = ⟨mk1 1 [], false, []⟩ := fun c hc => (List.mem_replicate.1 hc).2
 refine ⟨⟨by simp [dN], by simp [dN], fun c h hb => ?_, ⟨h0, h1⟩, fun c h => ?_, by simp [dN]⟩, rfl, fun c h => ?_⟩
 · rw [hc c h] at hb; cases hb
 · rw [hc c h]; exact h0
 · rw [hc c h]
theorem dN_qui {k : Int} (h0 : 0 ≤ k) (h1 : k ≤ 2000000000) : Qui (dN k) (fun _ => 1) (fun _ => []) (fun _ => -1) 1 :=
 ⟨dN_idle h0 h1, by simp [dN], fun i hi => ⟨by omega, by omega, by simp, by omega, by omega⟩, fun i hi => dN_cel (by omega), fun i hi => dN_cel (by omega)⟩
end C22
/-
 Layer 22 (slots): what the guard keeps, as plain mathematics.
 Conditions: of each law as it says.
-/
namespace C22
def GSt (d : Dk) (hv : Nat → Str) (pd : Bool) (sl : Int) (nx : Str) (rt : Nat → Int) (n : Nat) : Prop :=
 (pd = false ∧ ∃ q, Qui d q hv rt n) ∨
 (pd = true ∧ ∃ (i : Nat) (q : Nat → Nat), sl = i ∧ i < 3 ∧ nx.length ≤ 55 ∧ (∀ j, j < 3 → 1 ≤ q j ∧ q j + 1 ≤ n ∧ (hv j).length ≤ 55) ∧ d.dead = true ∧ Pw (mkF q hv) (updN (mkF q hv) i (mk1 (q i + 1 : Nat) nx)) d)
theorem GSt.mono {d : Dk} {hv : Nat → Str} {pd : Bool} {sl : Int} {nx : Str} {rt : Nat → Int} {n m : Nat} (h : GSt d hv pd sl nx rt n) (hm : n ≤ m) : GSt d hv pd sl nx rt m := by
 rcases h with ⟨a, q, h⟩ | ⟨a, i, q, b, c, e, f, g⟩
 · exact .inl ⟨a, q, h.mono hm⟩
 · exact .inr ⟨a, i, q, b, c, e, fun j hj => by have := f j hj; omega, g⟩
/-- The slots are opened again: the bytes of each slot are those it had, or the interrupted ones. -/
structure ReO (hv : Nat → Str) (pd : Bool) (sl : Int) (nx : Str) (n : Nat) (o : Dk × List Int × Int) : Prop where
 lost : o.2.1 = []
 e : o.2.2 = 0
 st : o.1.steps ≤ 6
 qui : ∃ q2 hv2, Qui (arm o.1 (-1)) q2 hv2 (fun _ => -1) n ∧ ∀ i, i < 3 → hv2 i = hv i ∨ (pd = true ∧ sl = i ∧ hv2 i = nx)
theorem reO_of {hv : Nat → Str} {pd : Bool} {sl : Int} {nx : Str} {n : Nat} {q q' : Nat → Nat} {hv' : Nat → Str} {d : Dk} (hq : ∀ i, i < 3 → 1 ≤ q i ∧ q i ≤ n ∧ (hv i).length ≤ 55 ∧ 1 ≤ q' i ∧ q' i ≤ n ∧ (hv' i).length ≤ 55)
 (hn' : ∀ i, i < 3 → hv' i = hv i ∨ (pd = true ∧ sl = i ∧ hv' i = nx)) {o : Dk × List Int × Int} (hst : d.steps = 0)
 (h : o.2.1 = [] ∧ o.2.2 = 0 ∧ Go' (mkF q hv) (mkF q' hv') d o.1 6 ∧ ∀ i, i < 3 → ∃ B, (B = mkF q hv i ∨ B = mkF q' hv' i) ∧ Both o.1 i B) : ReO hv pd sl nx n o := by
 obtain ⟨h1, h2, h3, h4⟩ := h
 obtain ⟨q2, hv2, hQ, hv2h⟩ := qui_open hq h3.idle h3.pw.len h4
 refine ⟨h1, h2, by have := h3.st; omega, q2, hv2, hQ.arm (by omega), fun i hi => ?_⟩
 rcases hv2h i hi with e | e
 · exact .inl e
 · rcases hn' i hi with e' | ⟨a, b, c⟩
   · exact .inl (e.trans e')
   · exact .inr ⟨a, b, e.trans c⟩
theorem GSt.open {d : Dk} {hv : Nat → Str} {pd : Bool} {sl : Int} {nx : Str} {rt : Nat → Int} {n : Nat} (h : GSt d hv pd sl nx rt n) (hn : n ≤ 1000000000) (keep : List Int) {k : Int} (hk : k ≤ 9223372036854775807) :
 Okd d ∧ (ReO hv pd sl nx n (openR (crash d keep) 0 3)) ∧
 (ReO hv pd sl nx n (openR (arm (crash d keep) k) 0 3) ∨
   ((openR (arm (crash d keep) k) 0 3).2.2 = 12 ∧ Okd (openR (arm (crash d keep) k) 0 3).1 ∧ (openR (arm (crash d keep) k) 0 3).1.steps ≤ 6 ∧
     ReO hv pd sl nx n (openR (crash (openR (arm (crash d keep) k) 0 3).1 keep) 0 3))) := by
 obtain ⟨q, q', hv', hpw, hq, hn'⟩ : ∃ q q' hv', Pw (mkF q hv) (mkF q' hv') d ∧ (∀ i, i < 3 → 1 ≤ q i ∧ q i ≤ n ∧ (hv i).length ≤ 55 ∧ 1 ≤ q' i ∧ q' i ≤ n ∧ (hv' i).length ≤ 55) ∧ ∀ i, i < 3 → hv' i = hv i ∨ (pd = true ∧ sl = i ∧ hv' i = nx) := by
  rcases h with ⟨_, q, h⟩ | ⟨hp, i, q, hs, hi, hx, hf, _, h⟩
  · exact ⟨q, q, hv, h.pw hn, fun i hi => by obtain ⟨a, b, c, _⟩ := h.few i hi; exact ⟨a, b, c, a, b, c⟩, fun i hi => .inl rfl⟩
  · rw [updN_mk] at h
    refine ⟨q, _, _, h, fun j hj => ?_, fun j hj => ?_⟩
    · obtain ⟨a, b, c⟩ := hf j hj
      unfold updN
      by_cases e : j = i
      · subst e
        simp only [if_pos]
        exact ⟨a, by omega, c, by omega, b, hx⟩
      · simp only [if_neg e]
        exact ⟨a, by omega, c, a, by omega, c⟩
    · unfold updN
      by_cases e : j = i
      · subst e
        simp only [if_pos]
        exact .inr ⟨hp, hs, trivial⟩
      · simp only [if_neg e]
        exact .inl trivial
 obtain ⟨c1, c2, c3, c4⟩ := hpw.crash keep
 refine ⟨hpw.ok, ?_, ?_⟩
 · rcases c1.openR c2 (by omega) with ⟨_, h2⟩ | h
   · exact absurd c3 h2.aft
   · exact reO_of hq hn' c4 h
 · have a1 := c1.arm hk
   have a2 := c2.arm hk
   have a3 : (arm (crash d keep) k).steps = 0 := c4
   have ho := a1.openR a2 (by omega)
   generalize openR (arm (crash d keep) k) 0 3 = o at ho
   rcases ho with ⟨h1, h2⟩ | h
   · refine .inr ⟨h1, h2.pw.ok, by have := h2.st; omega, ?_⟩
     obtain ⟨e1, e2, e3, e4⟩ := h2.pw.crash keep
     rcases e1.openR e2 (by omega) with ⟨_, h2⟩ | h
     · exact absurd e3 h2.aft
     · exact reO_of hq hn' e4 h
   · exact .inl (reO_of hq hn' a3 h)
theorem Qui.congr {d : Dk} {q : Nat → Nat} {hv hv' : Nat → Str} {rt : Nat → Int} {n : Nat} (h : Qui d q hv rt n) (he : ∀ i, i < 3 → hv i = hv' i) : Qui d q hv' rt n := by
 refine ⟨h.idle, h.len, fun i hi => ?_, fun i hi => ?_, fun i hi => ?_⟩
 · rw [← he i hi]; exact h.few i hi
 · rw [h.c0 i hi]; unfold mkF; rw [he i hi]
 · rw [h.c1 i hi]; unfold mkF; rw [he i hi]
theorem GSt.pend {d : Dk} {hv : Nat → Str} {sl : Int} {nx : Str} {rt : Nat → Int} {n : Nat} (h : GSt d hv true sl nx rt n) : ∃ i : Nat, sl = i ∧ i < 3 := by
 rcases h with ⟨a, _⟩ | ⟨_, i, _, b, c, _⟩
 · cases a
 · exact ⟨i, b, c⟩
end C22
