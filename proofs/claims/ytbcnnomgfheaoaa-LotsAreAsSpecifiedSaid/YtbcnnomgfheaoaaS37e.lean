/-
 Layer 37 (chunk): whether a lot is valid, and what its functions return, as functions that can be run.
 Conditions: none; laws with no program in sight.
-/
import Derived.Test.YtbcnnomgfheaoaaS37
namespace C37
def okAB (l : Lt) (k : Nat) : Bool := match l.cks[k]? with
 | none => true
 | some x => decide (1 ≤ x.id) && decide (x.id < l.next) && (decide (k = 0) || (match l.cks[k - 1]? with | some y => decide (y.id < x.id) | none => true)) && decide (1 ≤ x.bytes.length) && decide (x.bytes.length ≤ 4096) && decide (x.cls.length ≤ 65536) &&
   ((l.cks.take k).all fun y => !(decide (y.cls = x.cls) && decide (y.bytes = x.bytes))) && decide (1 ≤ x.uses)
def okUB (l : Lt) (k : Nat) : Bool := match l.cks[k]? with
 | none => true
 | some x => decide (x.uses = usesOf l.obs x.id)
def okOB (l : Lt) (k : Nat) : Bool := match l.obs[k]? with
 | none => true
 | some x => decide (1 ≤ x.id) && decide (x.id ≤ far) && (decide (k = 0) || (match l.obs[k - 1]? with | some y => decide (y.id < x.id) | none => true)) && decide (x.cls.length ≤ 65536) &&
   (x.chunks.all fun i => l.cks.any fun c => decide (c.id = i) && decide (c.cls = x.cls)) && decide ((textOf l.cks x.chunks).length ≤ 65536)
theorem okAB_iff (l : Lt) (k : Nat) : okAB l k = true ↔ okA l k := by
 by_cases hk : k < l.cks.length
 · rw [okA_get hk]
   unfold okAB
   rw [List.getElem?_eq_getElem hk]
   have h1 : ((decide (k = 0) || (match l.cks[k - 1]? with | some y => decide (y.id < l.cks[k].id) | none => true)) = true) ↔ ∀ h : 0 < k, l.cks[k - 1].id < l.cks[k].id := by
    by_cases h0 : k = 0
    · subst h0; simp
    · rw [List.getElem?_eq_getElem (by omega)]
      simp only [h0, decide_false, Bool.false_or, decide_eq_true_eq]
      exact ⟨fun h _ => h, fun h => h (by omega)⟩
   have h2 : (((l.cks.take k).all fun y => !(decide (y.cls = l.cks[k].cls) && decide (y.bytes = l.cks[k].bytes))) = true) ↔ ∀ i (hi : i < k), ¬ (l.cks[i].cls = l.cks[k].cls ∧ l.cks[i].bytes = l.cks[k].bytes) := by
    rw [List.all_eq_true]
    constructor
    · intro h i hi
      have := h l.cks[i] (by rw [List.mem_take_iff_getElem]; exact ⟨i, by omega, rfl⟩)
      simp at this
      rintro ⟨a, b⟩
      rcases this with h | h <;> contradiction
    · intro h y hy
      rw [List.mem_take_iff_getElem] at hy
      obtain ⟨i, hi, rfl⟩ := hy
      have := h i (by omega)
      by_cases a : l.cks[i].cls = l.cks[k].cls
      · have b : ¬ l.cks[i].bytes = l.cks[k].bytes := fun b => this ⟨a, b⟩
        simp [b]
      · simp [a]
   simp only [Bool.and_eq_true, decide_eq_true_eq, and_assoc]
   rw [h1, h2]
 · have : l.cks[k]? = none := List.getElem?_eq_none (by omega)
   unfold okAB; rw [this]
   exact ⟨fun _ => okA_out (by omega), fun _ => rfl⟩
theorem okUB_iff (l : Lt) (k : Nat) : okUB l k = true ↔ okU l k := by
 by_cases hk : k < l.cks.length
 · rw [okU_get hk]
   unfold okUB
   rw [List.getElem?_eq_getElem hk]; simp
 · have : l.cks[k]? = none := List.getElem?_eq_none (by omega)
   unfold okUB; rw [this]
   exact ⟨fun _ => okU_out (by omega), fun _ => rfl⟩
theorem okOB_iff (l : Lt) (k : Nat) : okOB l k = true ↔ okO l k := by
 by_cases hk : k < l.obs.length
 · rw [okO_get hk]
   unfold okOB
   rw [List.getElem?_eq_getElem hk]
   have h1 : ((decide (k = 0) || (match l.obs[k - 1]? with | some y => decide (y.id < l.obs[k].id) | none => true)) = true) ↔ ∀ h : 0 < k, l.obs[k - 1].id < l.obs[k].id := by
    by_cases h0 : k = 0
    · subst h0; simp
    · rw [List.getElem?_eq_getElem (by omega)]
      simp only [h0, decide_false, Bool.false_or, decide_eq_true_eq]
      exact ⟨fun h _ => h, fun h => h (by omega)⟩
   have h2 : ((l.obs[k].chunks.all fun i => l.cks.any fun c => decide (c.id = i) && decide (c.cls = l.obs[k].cls)) = true) ↔ ∀ i ∈ l.obs[k].chunks, ∃ c ∈ l.cks, c.id = i ∧ c.cls = l.obs[k].cls := by
    simp [List.all_eq_true, List.any_eq_true]
   simp only [Bool.and_eq_true, decide_eq_true_eq, and_assoc]
   rw [h1, h2]
 · have : l.obs[k]? = none := List.getElem?_eq_none (by omega)
   unfold okOB; rw [this]
   exact ⟨fun _ => okO_out (by omega), fun _ => rfl⟩
def validB (l : Lt) : Bool := decide (1 ≤ l.next ∧ l.next ≤ far ∧ l.cks.length ≤ 1000 ∧ l.obs.length ≤ 1000) && ((List.range l.cks.length).all fun k => okAB l k && okUB l k) && ((List.range l.obs.length).all fun k => okOB l k)
theorem validB_iff (l : Lt) : validB l = true ↔ validL l := by
 unfold validB validL
 simp only [Bool.and_eq_true, decide_eq_true_eq, List.all_eq_true, List.mem_range, okAB_iff, okUB_iff, okOB_iff]
 constructor
 · rintro ⟨⟨h1, h2⟩, h3⟩
   refine ⟨h1, fun k => ?_, fun k => ?_, fun k => ?_⟩
   · rcases Nat.lt_or_ge k l.cks.length with h | h
     · exact (h2 k h).1
     · exact okA_out h
   · rcases Nat.lt_or_ge k l.cks.length with h | h
     · exact (h2 k h).2
     · exact okU_out h
   · rcases Nat.lt_or_ge k l.obs.length with h | h
     · exact h3 k h
     · exact okO_out h
 · rintro ⟨h1, h2, h3, h4⟩
   exact ⟨⟨h1, fun k _ => ⟨h2 k, h3 k⟩⟩, fun k _ => h4 k⟩
instance (l : Lt) : Decidable (validL l) := decidable_of_iff _ (validB_iff l)
def putB (l : Lt) (c : Ct) (id : Int) (cls data : Str) : Lt × Int :=
 if validB l = true then
  (if (cutR c data).2 ≠ 0 then (⟨0, [], []⟩, (cutR c data).2) else
    if id < 1 ∨ id > far ∨ cls.length > 65536 then (⟨0, [], []⟩, 1) else if known id l.obs then (⟨0, [], []⟩, 9) else addL l id cls (cutR c data).1)
 else (⟨0, [], []⟩, 1)
theorem putB_eq (l : Lt) (c : Ct) (id : Int) (cls data : Str) : putR l c id cls data = putB l c id cls data := by
 unfold putR putB
 by_cases h : validL l
 · rw [if_pos h, if_pos ((validB_iff l).2 h)]; try rfl
 · rw [if_neg h, if_neg (fun e => h ((validB_iff l).1 e))]
def getB (l : Lt) (id : Int) : Str × Int := if validB l = true then (match objOf l id with | some o => (textOf l.cks o.chunks, 0) | none => ([], 8)) else ([], 1)
theorem getB_eq (l : Lt) (id : Int) : getR l id = getB l id := by
 unfold getR getB
 by_cases h : validL l
 · rw [if_pos h, if_pos ((validB_iff l).2 h)]; try rfl
 · rw [if_neg h, if_neg (fun e => h ((validB_iff l).1 e))]
def dropB (l : Lt) (id : Int) : Lt × List Int × Int := if validB l = true then (match objOf l id with | some _ => ((without l id).1, (without l id).2, 0) | none => (⟨0, [], []⟩, [], 8)) else (⟨0, [], []⟩, [], 1)
theorem dropB_eq (l : Lt) (id : Int) : dropR l id = dropB l id := by
 unfold dropR dropB
 by_cases h : validL l
 · rw [if_pos h, if_pos ((validB_iff l).2 h)]; try rfl
 · rw [if_neg h, if_neg (fun e => h ((validB_iff l).1 e))]
def moveB (l : Lt) (id : Int) (cls : Str) : Lt × List Int × Int :=
 if validB l = true then
  (match objOf l id with
  | none => (⟨0, [], []⟩, [], 8)
  | some o => if cls.length > 65536 then (⟨0, [], []⟩, [], 1) else if o.cls = cls then (l, [], 0) else
    let r := addL (without l id).1 id cls (textsOf l.cks o.chunks)
    if r.2 ≠ 0 then (⟨0, [], []⟩, [], r.2) else (r.1, (without l id).2, 0))
 else (⟨0, [], []⟩, [], 1)
theorem moveB_eq (l : Lt) (id : Int) (cls : Str) : moveR l id cls = moveB l id cls := by
 unfold moveR moveB
 by_cases h : validL l
 · rw [if_pos h, if_pos ((validB_iff l).2 h)]; try rfl
 · rw [if_neg h, if_neg (fun e => h ((validB_iff l).1 e))]
def c0 : Ct := ⟨2, 4, 1⟩
def A0 : Lt := ⟨1, [], []⟩
def A1 : Lt := ⟨3, [⟨1, [120], [98, 98], 2⟩, ⟨2, [120], [98], 1⟩], [⟨7, [120], [1, 1, 2]⟩]⟩
def A2 : Lt := ⟨5, [⟨1, [120], [98, 98], 2⟩, ⟨2, [120], [98], 1⟩, ⟨3, [121], [98, 98], 1⟩, ⟨4, [121], [98], 1⟩], [⟨3, [121], [3, 4]⟩, ⟨7, [120], [1, 1, 2]⟩]⟩
def A3 : Lt := ⟨5, [⟨1, [120], [98, 98], 3⟩, ⟨2, [120], [98], 1⟩, ⟨3, [121], [98, 98], 1⟩, ⟨4, [121], [98], 1⟩], [⟨3, [121], [3, 4]⟩, ⟨4, [120], [1]⟩, ⟨7, [120], [1, 1, 2]⟩]⟩
def A4 : Lt := ⟨5, [⟨1, [120], [98, 98], 1⟩, ⟨3, [121], [98, 98], 1⟩, ⟨4, [121], [98], 1⟩], [⟨3, [121], [3, 4]⟩, ⟨4, [120], [1]⟩]⟩
def A5 : Lt := ⟨5, [⟨3, [121], [98, 98], 2⟩, ⟨4, [121], [98], 1⟩], [⟨3, [121], [3, 4]⟩, ⟨4, [121], [3]⟩]⟩
theorem e1 : cutR c0 [97, 98, 99, 100, 101, 102, 103, 104] = ([[97, 98], [99, 100], [101, 102], [103, 104]], 0) := by decide +kernel
theorem e2 : cutR c0 [98, 98, 98, 98, 98, 98, 98, 98, 98] = ([[98, 98], [98, 98], [98, 98], [98, 98], [98]], 0) := by decide +kernel
theorem e3 : putR A0 c0 7 [120] [98, 98, 98, 98, 98] = (A1, 0) := by rw [putB_eq]; decide +kernel
theorem e4 : putR A1 c0 3 [121] [98, 98, 98] = (A2, 0) := by rw [putB_eq]; decide +kernel
theorem e5 : putR A2 c0 4 [120] [98, 98] = (A3, 0) := by rw [putB_eq]; decide +kernel
theorem e6 : dropR A3 7 = (A4, [2], 0) := by rw [dropB_eq]; decide +kernel
theorem e7 : getR A4 4 = ([98, 98], 0) := by rw [getB_eq]; decide +kernel
theorem e8 : getR A4 7 = ([], 8) := by rw [getB_eq]; decide +kernel
theorem e9 : moveR A4 4 [121] = (A5, [1], 0) := by rw [moveB_eq]; decide +kernel
theorem e10 : validL A5 := (validB_iff _).1 (by decide +kernel)
def smallB (l : Lt) : Bool := decide (l.cks.length ≤ 2000) && decide (l.obs.length ≤ 2000) && l.obs.all fun o => decide (o.chunks.length ≤ 100000)
theorem small_of {l : Lt} (h : smallB l = true) : smallL l := by
 simp only [smallB, Bool.and_eq_true, decide_eq_true_eq, List.all_eq_true] at h
 exact ⟨h.1.1, h.1.2, h.2⟩
end C37
