/-
 Layer 22 (slots): the slots of a new disk, as plain mathematics.
 Conditions: none.
-/
import Derived.Test.YtioojmlhmhgeeaaS22k
import Derived.Test.YtioojmlhmhgeeaaS22n
namespace C22
def dN (k : Int) : Dk := ⟨List.replicate 6 ⟨mk1 1 [], false, []⟩, k, -1, false⟩
theorem open_fresh : openR (fresh 6) 0 3 = (dN 9, [0, 1, 2], 0) := by decide +kernel
theorem dN_cel {k : Int} {i : Nat} (hi : i < 6) : celAt (dN k) i = ⟨mk1 1 [], false, []⟩ := by
 rw [celAt_get (by simpa [dN] using hi)]
 exact List.getElem_replicate _
theorem dN_idle {k : Int} (h0 : 0 ≤ k) (h1 : k ≤ 2000000000) : Idle (dN k) := by
 have hc : ∀ c ∈ (dN k).cs, c = ⟨mk1 1 [], false, []⟩ := fun c hc => (List.mem_replicate.1 hc).2
 refine ⟨⟨by simp [dN], by simp [dN], fun c h hb => ?_, ⟨h0, h1⟩, fun c h => ?_, by simp [dN]⟩, rfl, fun c h => ?_⟩
 · rw [hc c h] at hb; cases hb
 · rw [hc c h]; exact h0
 · rw [hc c h]
end C22
/-
 Layer 22 (slots): a new disk at rest, as plain mathematics.
 Conditions: none.
-/
namespace C22
theorem dN_rest {k : Int} (h0 : 0 ≤ k) (h1 : k ≤ 2000000000) : RestS (dN k) 1 :=
 ⟨dN_idle h0 h1, by simp [dN], fun i hi => ⟨M1, good_one, by rw [num_M1]; omega, .inl (dN_cel (by omega)), .inl (dN_cel (by omega))⟩⟩
end C22
/-
 Layer 22 (slots): one call of the twin, as plain mathematics.
 Conditions: of each law as it says.
-/
namespace C22
def opK (d : Dk) (kind a : Int) (keep : List Int) (b : Str) : Dk × Int :=
 if kind = 4 then ((openR (crash d keep) 0 3).1, (openR (crash d keep) 0 3).2.2) else
 if kind = 0 then putR d 0 3 a b else if kind = 1 then killR d 0 3 a else if kind = 3 then (arm d a, 0) else if kind = 5 then rot d a else (d, 0)
structure TwS (sl : Nat) (d c : Dk) (n : Nat) (r r' : Dk × Int) : Prop where
 e : r.2 = r'.2
 tw : Tw sl r.1 r'.1 n
 st : r.1.steps ≤ d.steps + 9
theorem tw_call {sl : Nat} {d c : Dk} {n : Nat} (h : Tw sl d c n) (hsl : sl < 3) (hn : 1 ≤ n) (hn2 : n ≤ 1000000) (hst : d.steps ≤ 800000000) {kind a : Int} (ha : a ≤ 9223372036854775807) (hlv : kind = 4 ∨ d.dead = false) (keep : List Int) (b : Str) :
 TwS sl d c (n + 1) (opK d kind a keep b) (opK c kind a keep b) ∧ (EqM d c n → EqM (opK d kind a keep b).1 (opK c kind a keep b).1 (n + 1)) ∧
  ((kind = 0 ∨ kind = 1) → a = sl → (opK d kind a keep b).2 = 0 → EqM (opK d kind a keep b).1 (opK c kind a keep b).1 (n + 1)) := by
 have hf := h.facts
 have hd0 := hf.1.st.1
 unfold opK
 by_cases k4 : kind = 4
 · simp only [if_pos k4]
   obtain ⟨a1, a2, a3, a4, a5, a6⟩ := h.open hsl hn keep
   exact ⟨⟨a1.trans a2.symm, a3.mono (by omega), by simp only; omega⟩, fun h => (a6 h).mono (by omega), fun h => by omega⟩
 simp only [if_neg k4]
 have hlive := hlv.resolve_left k4
 have same : TwS sl d c (n + 1) (d, 0) (c, 0) := ⟨rfl, h.mono (by omega), by simp only; omega⟩
 have same1 : TwS sl d c (n + 1) (d, 1) (c, 1) := ⟨rfl, h.mono (by omega), by simp only; omega⟩
 have chg : ∀ bb : Str, bb.length ≤ 55 → 0 ≤ a → a < 3 → TwS sl d c (n + 1) (changeR d 0 a bb) (changeR c 0 a bb) ∧ (EqM d c n → EqM (changeR d 0 a bb).1 (changeR c 0 a bb).1 (n + 1)) ∧
  (a = sl → (changeR d 0 a bb).2 = 0 → EqM (changeR d 0 a bb).1 (changeR c 0 a bb).1 (n + 1)) := by
  intro bb hbb ha0 ha3
  obtain ⟨i, rfl⟩ : ∃ i : Nat, a = i := ⟨a.toNat, by omega⟩
  have hi : i < 3 := by omega
  rcases h with h | h
  · obtain ⟨b1, b2, b3⟩ := h.change hlive (by omega) hst hi hbb
    exact ⟨⟨b1, .inl b2, by omega⟩, fun _ => b2, fun _ _ => b2⟩
  · obtain ⟨b1, b2, b3, b4⟩ := h.change hsl hlive (by omega) hst hi hbb
    refine ⟨⟨b1, b2, by omega⟩, fun hh => ?_, fun hs he => b3 he (by omega)⟩
    obtain ⟨b1, b2, b3⟩ := hh.change hlive (by omega) hst hi hbb
    exact b2
 by_cases k0 : kind = 0
 · simp only [if_pos k0]
   unfold putR
   by_cases hx : a < 0 ∨ 3 ≤ a ∨ b.length < 1 ∨ 55 < b.length
   · simp only [if_pos hx]
     exact ⟨same1, fun h => h.mono (by omega), fun _ _ h => by cases h⟩
   · simp only [if_neg hx]
     obtain ⟨c1, c2, c3⟩ := chg b (by omega) (by omega) (by omega)
     exact ⟨c1, c2, fun _ => c3⟩
 simp only [if_neg k0]
 by_cases k1 : kind = 1
 · simp only [if_pos k1]
   unfold killR
   by_cases hx : a < 0 ∨ 3 ≤ a
   · simp only [if_pos hx]
     exact ⟨same1, fun h => h.mono (by omega), fun _ _ h => by cases h⟩
   · simp only [if_neg hx]
     obtain ⟨c1, c2, c3⟩ := chg [] (by simp) (by omega) (by omega)
     exact ⟨c1, c2, fun _ => c3⟩
 simp only [if_neg k1]
 by_cases k3 : kind = 3
 · simp only [if_pos k3]
   obtain ⟨c1, c2⟩ := h.arm hlive ha
   have : (arm d a).steps = d.steps := rfl
   exact ⟨⟨rfl, c1.mono (by omega), by simp only; omega⟩, fun h => (c2 h).mono (by omega), fun h => by omega⟩
 simp only [if_neg k3]
 by_cases k5 : kind = 5
 · simp only [if_pos k5]
   obtain ⟨c1, c2, c3, c4⟩ := h.rot hsl hlive a
   exact ⟨⟨c1, c2.mono (by omega), by omega⟩, fun h => (c3 h).mono (by omega), fun h => by omega⟩
 simp only [if_neg k5]
 exact ⟨same, fun h => h.mono (by omega), fun h => by omega⟩
theorem tw_secret {sl : Nat} {d c : Dk} {n : Nat} (h : EqM d c n) (hsl : sl < 3) (hn2 : n ≤ 1000000) (hst : d.steps ≤ 800000000) (hlv : d.dead = false) (keep : List Int) {b b' : Str} (hb : 1 ≤ b.length ∧ b.length ≤ 55) (hb' : 1 ≤ b'.length ∧ b'.length ≤ 55) :
 TwS sl d c (n + 1) (opK d 0 sl keep b) (opK c 0 sl keep b') := by
 unfold opK
 have e : ((0 : Int) = 4) = False := by decide
 simp only [e, if_false, if_true]
 unfold putR
 rw [if_neg (by omega), if_neg (by omega)]
 obtain ⟨b1, b2, b3⟩ := h.secret hsl hlv (by omega) hst hb.2 hb'.2
 exact ⟨b1, b2, by omega⟩
theorem opK_cases (kind a : Int) (keep : List Int) :
 ((kind = 4) = True ∧ (kind = 0) = False ∧ (kind = 1) = False ∧ (kind = 3) = False ∧ (kind = 5) = False ∧ ∀ d b, opK d kind a keep b = ((openR (crash d keep) 0 3).1, (openR (crash d keep) 0 3).2.2)) ∨
 ((kind = 4) = False ∧ (kind = 0) = True ∧ (kind = 1) = False ∧ (kind = 3) = False ∧ (kind = 5) = False ∧ ∀ d b, opK d kind a keep b = putR d 0 3 a b) ∨
 ((kind = 4) = False ∧ (kind = 0) = False ∧ (kind = 1) = True ∧ (kind = 3) = False ∧ (kind = 5) = False ∧ ∀ d b, opK d kind a keep b = killR d 0 3 a) ∨
 ((kind = 4) = False ∧ (kind = 0) = False ∧ (kind = 1) = False ∧ (kind = 3) = True ∧ (kind = 5) = False ∧ ∀ d b, opK d kind a keep b = (arm d a, 0)) ∨
 ((kind = 4) = False ∧ (kind = 0) = False ∧ (kind = 1) = False ∧ (kind = 3) = False ∧ (kind = 5) = True ∧ ∀ d b, opK d kind a keep b = rot d a) ∨
 ((kind = 4) = False ∧ (kind = 0) = False ∧ (kind = 1) = False ∧ (kind = 3) = False ∧ (kind = 5) = False ∧ ∀ d b, opK d kind a keep b = (d, 0)) := by
 by_cases k4 : kind = 4
 · subst k4
   exact .inl ⟨by simp, by simp, by simp, by simp, by simp, fun d b => by unfold opK; rw [if_pos rfl]⟩
 by_cases k0 : kind = 0
 · subst k0
   exact .inr (.inl ⟨by simp, by simp, by simp, by simp, by simp, fun d b => by unfold opK; rw [if_neg k4, if_pos rfl]⟩)
 by_cases k1 : kind = 1
 · subst k1
   exact .inr (.inr (.inl ⟨by simp, by simp, by simp, by simp, by simp, fun d b => by unfold opK; rw [if_neg k4, if_neg k0, if_pos rfl]⟩))
 by_cases k3 : kind = 3
 · subst k3
   exact .inr (.inr (.inr (.inl ⟨by simp, by simp, by simp, by simp, by simp, fun d b => by unfold opK; rw [if_neg k4, if_neg k0, if_neg k1, if_pos rfl]⟩)))
 by_cases k5 : kind = 5
 · subst k5
   exact .inr (.inr (.inr (.inr (.inl ⟨by simp, by simp, by simp, by simp, by simp, fun d b => by unfold opK; rw [if_neg k4, if_neg k0, if_neg k1, if_neg k3, if_pos rfl]⟩))))
 exact .inr (.inr (.inr (.inr (.inr ⟨eq_false k4, eq_false k0, eq_false k1, eq_false k3, eq_false k5, fun d b => by unfold opK; rw [if_neg k4, if_neg k0, if_neg k1, if_neg k3, if_neg k5]⟩))))
end C22
