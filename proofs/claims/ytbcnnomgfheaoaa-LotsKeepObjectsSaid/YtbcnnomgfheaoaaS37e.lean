/-
 Layer 37 (chunk): whether a lot is valid, and what its functions return, as functions that can be run.
 Conditions: none; laws with no program in sight.
-/
import Derived.Test.YtbcnnomgfheaoaaS37
import Derived.Test.YtbcnnomgfheaoaaEN9
namespace C37
def okAB (l : Lt) (k : Nat) : Bool := match l.cks[k]? with
 | none => true
 | some x => decide (1 ≤ x.id) && decide (x.id < l.next) && (decide (k = 0) || (match l.cks[k - 1]? with | some y => decide (y.id < x.id) | none => true)) && decide (1 ≤ x.bytes.length) && decide (x.bytes.length ≤ 4096) && decide (x.cls.length ≤ 65536) &&
   ((l.cks.take k).all fun y => !(decide (y.cls = x.cls) && decide (y.bytes = x.bytes))) && decide (1 ≤ x.uses)
def okUB (l : Lt) (k : Nat) : Bool := match l.cks[k]? with
 | none => true
 | some x => decide (x.uses = usesOf l.obs x.id)
def okOB (l : Lt) (k : Nat) : Bool := match l.obs[k]? with
 | none => true
 | some x => decide (1 ≤ x.id) && decide (x.id ≤ far) && (decide (k = 0) || (match l.obs[k - 1]? with | some y => decide (y.id < x.id) | none => true)) && decide (x.cls.length ≤ 65536) &&
   (x.chunks.all fun i => l.cks.any fun c => decide (c.id = i) && decide (c.cls = x.cls)) && decide ((textOf l.cks x.chunks).length ≤ 65536)
theorem okAB_iff (l : Lt) (k : Nat) : okAB l k = true ↔ okA l k := by
 by_cases hk : k < l.cks.length
 · rw [okA_get hk]
   unfold okAB
   rw [List.getElem?_eq_getElem hk]
   have h1 : ((decide (k = 0) || (match l.cks[k - 1]? with | some y => decide (y.id < l.cks[k].id) | none => true)) = true) ↔ ∀ h : 0 < k, l.cks[k - 1].id < l.cks[k].id := by
    by_cases h0 : k = 0
    · subst h0; simp
    · rw [List.getElem?_eq_getElem (by omega)]
      simp only [h0, decide_false, Bool.false_or, decide_eq_true_eq]
      exact ⟨fun h _ => h, fun h => h (by omega)⟩
   have h2 : (((l.cks.take k).all fun y => !(decide (y.cls = l.cks[k].cls) && decide (y.bytes = l.cks[k].bytes))) = true) ↔ ∀ i (hi : i < k), ¬ (l.cks[i].cls = l.cks[k].cls ∧ l.cks[i].bytes = l.cks[k].bytes) := by
    rw [List.all_eq_true]
    constructor
    · intro h i hi
      have := h l.cks[i] (by rw [List.mem_take_iff_getElem]; exact ⟨i, by omega, rfl⟩)
      simp at this
      rintro ⟨a, b⟩
      rcases this with h | h <;> contradiction
    · intro h y hy
      rw [List.mem_take_iff_getElem] at hy
      obtain ⟨i, hi, rfl⟩ := hy
      have := h i (by omega)
      by_cases a : l.cks[i].cls = l.cks[k].cls
      · have b : ¬ l.cks[i].bytes = l.cks[k].bytes := fun b => this ⟨a, b⟩
        simp [b]
      · simp [a]
   simp only [Bool.and_eq_true, decide_eq_true_eq, and_assoc]
   rw [h1, h2]
 · have : l.cks[k]? = none := List.getElem?_eq_none (by omega)
   unfold okAB; rw [this]
   exact ⟨fun _ => okA_out (by omega), fun _ => rfl⟩
theorem okUB_iff (l : Lt) (k : Nat) : okUB l k = true ↔ okU l k := by
 by_cases hk : k < l.cks.length
 · rw [okU_get hk]
   unfold okUB
   rw [List.getElem?_eq_getElem hk]; simp
 · have : l.cks[k]? = none := List.getElem?_eq_none (by omega)
   unfold okUB; rw [this]
   exact ⟨fun _ => okU_out (by omega), fun _ => rfl⟩
theorem okOB_iff (l : Lt) (k : Nat) : okOB l k = true ↔ okO l k := by
 by_cases hk : k < l.obs.length
 · rw [okO_get hk]
   unfold okOB
   rw [List.getElem?_eq_getElem hk]
   have h1 : ((decide (k = 0) || (match l.obs[k - 1]? with | some y => decide (y.id < l.obs[k].id) | none => true)) = true) ↔ ∀ h : 0 < k, l.obs[k - 1].id < l.obs[k].id := by
    by_cases h0 : k = 0
    · subst h0; simp
    · rw [List.getElem?_eq_getElem (by omega)]
      simp only [h0, decide_false, Bool.false_or, decide_eq_true_eq]
      exact ⟨fun h _ => h, fun h => h (by omega)⟩
   have h2 : ((l.obs[k].chunks.all fun i => l.cks.any fun c => decide (c.id = i) && decide (c.cls = l.obs[k].cls)) = true) ↔ ∀ i ∈ l.obs[k].chunks, ∃ c ∈ l.cks, c.id = i ∧ c.cls = l.obs[k].cls := by
    simp [List.all_eq_true, List.any_eq_true]
   simp only [Bool.and_eq_true, decide_eq_true_eq, and_assoc]
   rw [h1, h2]
 · have : l.obs[k]? = none := List.getElem?_eq_none (by omega)
   unfold okOB; rw [this]
   exact ⟨fun _ => okO_out (by omega), fun _ => rfl⟩
def validB (l : Lt) : Bool := decide (1 ≤ l.next ∧ l.next ≤ far ∧ l.cks.length ≤ 1000 ∧ l.obs.length ≤ 1000) && ((List.range l.cks.length).all fun k => okAB l k && okUB l k) && ((List.range l.obs.length).all fun k => okOB l k)
theorem validB_iff (l : Lt) : validB l = true ↔ validL l := by
 unfold validB validL
 simp only [Bool.and_eq_true, decide_eq_true_eq, List.all_eq_true, List.mem_range, okAB_iff, okUB_iff, okOB_iff]
 constructor
 · rintro ⟨⟨h1, h2⟩, h3⟩
   refine ⟨h1, fun k => ?_, fun k => ?_, fun k => ?_⟩
   · rcases Nat.lt_or_ge k l.cks.length with h | h
     · exact (h2 k h).1
     · exact okA_out h
   · rcases Nat.lt_or_ge k l.cks.length with h | h
     · exact (h2 k h).2
     · exact okU_out h
   · rcases Nat.lt_or_ge k l.obs.length with h | h
     · exact h3 k h
     · exact okO_out h
 · rintro ⟨h1, h2, h3, h4⟩
   exact ⟨⟨h1, fun k _ => ⟨h2 k, h3 k⟩⟩, fun k _ => h4 k⟩
instance (l : Lt) : Decidable (validL l) := decidable_of_iff _ (validB_iff l)
def putB (l : Lt) (c : Ct) (id : Int) (cls data : Str) : Lt × Int :=
 if validB l = true then
  (if (cutR c data).2 ≠ 0 then (⟨0, [], []⟩, (cutR c data).2) else
    if id < 1 ∨ id > far ∨ cls.length > 65536 then (⟨0, [], []⟩, 1) else if known id l.obs then (⟨0, [], []⟩, 9) else addL l id cls (cutR c data).1)
 else (⟨0, [], []⟩, 1)
theorem putB_eq (l : Lt) (c : Ct) (id : Int) (cls data : Str) : putR l c id cls data = putB l c id cls data := by
 unfold putR putB
 by_cases h : validL l
 · rw [if_pos h, if_pos ((validB_iff l).2 h)]; try rfl
 · rw [if_neg h, if_neg (fun e => h ((validB_iff l).1 e))]
def getB (l : Lt) (id : Int) : Str × Int := if validB l = true then (match objOf l id with | some o => (textOf l.cks o.chunks, 0) | none => ([], 8)) else ([], 1)
theorem getB_eq (l : Lt) (id : Int) : getR l id = getB l id := by
 unfold getR getB
 by_cases h : validL l
 · rw [if_pos h, if_pos ((validB_iff l).2 h)]; try rfl
 · rw [if_neg h, if_neg (fun e => h ((validB_iff l).1 e))]
def dropB (l : Lt) (id : Int) : Lt × List Int × Int := if validB l = true then (match objOf l id with | some _ => ((without l id).1, (without l id).2, 0) | none => (⟨0, [], []⟩, [], 8)) else (⟨0, [], []⟩, [], 1)
theorem dropB_eq (l : Lt) (id : Int) : dropR l id = dropB l id := by
 unfold dropR dropB
 by_cases h : validL l
 · rw [if_pos h, if_pos ((validB_iff l).2 h)]; try rfl
 · rw [if_neg h, if_neg (fun e => h ((validB_iff l).1 e))]
def moveB (l : Lt) (id : Int) (cls : Str) : Lt × List Int × Int :=
 if validB l = true then
  (match objOf l id with
  | none => (⟨0, [], []⟩, [], 8)
  | some o => if cls.length > 65536 then (⟨0, [], []⟩, [], 1) else if o.cls = cls then (l, [], 0) else
    let r := addL (without l id).1 id cls (textsOf l.cks o.chunks)
    if r.2 ≠ 0 then (⟨0, [], []⟩, [], r.2) else (r.1, (without l id).2, 0))
 else (⟨0, [], []⟩, [], 1)
theorem moveB_eq (l : Lt) (id : Int) (cls : Str) : moveR l id cls = moveB l id cls := by
 unfold moveR moveB
 by_cases h : validL l
 · rw [if_pos h, if_pos ((validB_iff l).2 h)]; try rfl
 · rw [if_neg h, if_neg (fun e => h ((validB_iff l).1 e))]
def c0 : Ct := ⟨2, 4, 1⟩
def A0 : Lt := ⟨1, [], []⟩
def A1 : Lt := ⟨3, [⟨1, [120], [98, 98], 2⟩, ⟨2, [120], [98], 1⟩], [⟨7, [120], [1, 1, 2]⟩]⟩
def A2 : Lt := ⟨5, [⟨1, [120], [98, 98], 2⟩, ⟨2, [120], [98], 1⟩, ⟨3, [121], [98, 98], 1⟩, ⟨4, [121], [98], 1⟩], [⟨3, [121], [3, 4]⟩, ⟨7, [120], [1, 1, 2]⟩]⟩
def A3 : Lt := ⟨5, [⟨1, [120], [98, 98], 3⟩, ⟨2, [120], [98], 1⟩, ⟨3, [121], [98, 98], 1⟩, ⟨4, [121], [98], 1⟩], [⟨3, [121], [3, 4]⟩, ⟨4, [120], [1]⟩, ⟨7, [120], [1, 1, 2]⟩]⟩
def A4 : Lt := ⟨5, [⟨1, [120], [98, 98], 1⟩, ⟨3, [121], [98, 98], 1⟩, ⟨4, [121], [98], 1⟩], [⟨3, [121], [3, 4]⟩, ⟨4, [120], [1]⟩]⟩
def A5 : Lt := ⟨5, [⟨3, [121], [98, 98], 2⟩, ⟨4, [121], [98], 1⟩], [⟨3, [121], [3, 4]⟩, ⟨4, [121], [3]⟩]⟩
theorem e1 : cutR c0 [97, 98, 99, 100, 101, 102, 103, 104] = ([[97, 98], [99, 100], [101, 102], [103, 104]], 0) := by decide +kernel
theorem e2 : cutR c0 [98, 98, 98, 98, 98, 98, 98, 98, 98] = ([[98, 98], [98, 98], [98, 98], [98, 98], [98]], 0) := by decide +kernel
theorem e3 : putR A0 c0 7 [120] [98, 98, 98, 98, 98] = (A1, 0) := by rw [putB_eq]; decide +kernel
theorem e4 : putR A1 c0 3 [121] [98, 98, 98] = (A2, 0) := by rw [putB_eq]; decide +kernel
theorem e5 : putR A2 c0 4 [120] [98, 98] = (A3, 0) := by rw [putB_eq]; decide +kernel
theorem e6 : dropR A3 7 = (A4, [2], 0) := by rw [dropB_eq]; decide +kernel
theorem e7 : getR A4 4 = ([98, 98], 0) := by rw [getB_eq]; decide +kernel
theorem e8 : getR A4 7 = ([], 8) := by rw [getB_eq]; decide +kernel
theorem e9 : moveR A4 4 [121] = (A5, [1], 0) := by rw [moveB_eq]; decide +kernel
theorem e10 : validL A5 := (validB_iff _).1 (by decide +kernel)
def smallB (l : Lt) : Bool := decide (l.cks.length ≤ 2000) && decide (l.obs.length ≤ 2000) && l.obs.all fun o => decide (o.chunks.length ≤ 100000)
theorem small_of {l : Lt} (h : smallB l = true) : smallL l := by
 simp only [smallB, Bool.and_eq_true, decide_eq_true_eq, List.all_eq_true] at h
 exact ⟨h.1.1, h.1.2, h.2⟩
end C37
/-
 Layer 37 (chunk): laws about cutting.
 Conditions: of each law as it says; no program in sight.
-/
namespace C37
theorem cutN_flat {c : Ct} {s : Str} : ∀ (n k f : Nat), k + n = s.length → f ≤ k → (n = 0 → f = k) → (cutN c s n k f).flatten = s.drop f
 | 0, k, f, hn, _, h0 => by
   have := h0 rfl
   rw [cutN, List.flatten_nil, List.drop_of_length_le (by omega)]
 | n + 1, k, f, hn, hf, _ => by
   simp only [cutN]
   by_cases hc : cutHere c s f k
   · rw [if_pos hc, List.flatten_cons, cutN_flat n (k + 1) (k + 1) (by omega) (Nat.le_refl _) (fun _ => rfl)]
     have e1 : s.drop f = (s.take (k + 1) ++ s.drop (k + 1)).drop f := by rw [List.take_append_drop]
     rw [e1, List.drop_append_of_le_length (by rw [List.length_take]; omega)]
   · rw [if_neg hc]
     refine cutN_flat n (k + 1) f (by omega) (by omega) (fun h => ?_)
     exfalso; apply hc; unfold cutHere; omega
theorem cutL_flat (c : Ct) (s : Str) : (cutL c s).flatten = s := by
 unfold cutL
 rw [cutN_flat s.length 0 0 (by omega) (Nat.le_refl _) (fun _ => rfl), List.drop_zero]
theorem cutN_sizes {c : Ct} {s : Str} (hc : okC c) : ∀ (n k f : Nat), k + n = s.length → f ≤ k → ((k : Int) - f < c.mx) → ∀ (j : Nat) (h : j < (cutN c s n k f).length), 1 ≤ ((cutN c s n k f)[j]).length ∧ (((cutN c s n k f)[j]).length : Int) ≤ c.mx ∧ (j + 1 < (cutN c s n k f).length → c.mn ≤ ((cutN c s n k f)[j]).length)
 | 0, k, f, _, _, _, j, h => by simp [cutN] at h
 | n + 1, k, f, hn, hf, hm, j, h => by
   unfold okC at hc
   by_cases hh : cutHere c s f k
   · have e : cutN c s (n + 1) k f = ((s.take (k + 1)).drop f) :: cutN c s n (k + 1) (k + 1) := by simp only [cutN]; rw [if_pos hh]
     have hl : ((s.take (k + 1)).drop f).length = k + 1 - f := by rw [List.length_drop, List.length_take]; omega
     cases j with
     | zero =>
      simp only [e, List.getElem_cons_zero, List.length_cons, hl]
      refine ⟨by omega, by omega, fun hj => ?_⟩
      unfold cutHere at hh
      rcases hh with hh | hh | hh
      · omega
      · omega
      · have : n = 0 := by omega
        subst this; simp [cutN] at hj
     | succ j =>
      have ih := cutN_sizes (c := c) (s := s) hc n (k + 1) (k + 1) (by omega) (Nat.le_refl _) (by omega) j (by simp only [e, List.length_cons] at h; omega)
      simp only [e, List.getElem_cons_succ, List.length_cons]
      exact ⟨ih.1, ih.2.1, fun hj => ih.2.2 (by omega)⟩
   · have e : cutN c s (n + 1) k f = cutN c s n (k + 1) f := by simp only [cutN]; rw [if_neg hh]
     have hne : ¬ (k : Int) + 1 - f = c.mx := fun h => hh (.inr (.inl h))
     simp only [e] at h ⊢
     exact cutN_sizes hc n (k + 1) f (by omega) (by omega) (by omega) j h
theorem cutL_sizes {c : Ct} {s : Str} (hc : okC c) (j : Nat) (h : j < (cutL c s).length) : 1 ≤ ((cutL c s)[j]).length ∧ (((cutL c s)[j]).length : Int) ≤ c.mx ∧ (j + 1 < (cutL c s).length → c.mn ≤ ((cutL c s)[j]).length) :=
 cutN_sizes hc s.length 0 0 (by omega) (Nat.le_refl _) (by unfold okC at hc; omega) j h
end C37
/-
 Layer 37 (chunk): a lot stays valid, and what it holds stays what it was.
 Conditions: of each law as it says; no program in sight.
-/
namespace C37
/-! ### validity, without places -/
structure Vc (next : Int) (cks : List Ck) : Prop where
 ids : cks.Pairwise fun a b => a.id < b.id
 names : NameD cks
 each : ∀ c ∈ cks, 1 ≤ c.id ∧ c.id < next ∧ 1 ≤ c.bytes.length ∧ c.bytes.length ≤ 4096 ∧ c.cls.length ≤ 65536 ∧ 1 ≤ c.uses
def Vo (cks : List Ck) (o : Ob) : Prop := 1 ≤ o.id ∧ o.id ≤ far ∧ o.cls.length ≤ 65536 ∧ (∀ i ∈ o.chunks, ∃ c ∈ cks, c.id = i ∧ c.cls = o.cls) ∧ (textOf cks o.chunks).length ≤ 65536
structure Vl (l : Lt) : Prop where
 c : Vc l.next l.cks
 u : ∀ c ∈ l.cks, c.uses = usesOf l.obs c.id
 ids : l.obs.Pairwise fun a b => a.id < b.id
 o : ∀ o ∈ l.obs, Vo l.cks o
theorem valid_vl {l : Lt} (h : validL l) : Vl l := by
 obtain ⟨_, hA, hU, hO⟩ := h
 refine ⟨⟨pairA hA, nameD_of hA, fun c hc => ?_⟩, fun c hc => ?_, pairO hO, fun o ho => ?_⟩
 · obtain ⟨k, hk, rfl⟩ := List.getElem_of_mem hc
   obtain ⟨h1, h2, _, h4, h5, h6, _, h8⟩ := (okA_get hk).1 (hA k)
   exact ⟨h1, h2, h4, h5, h6, h8⟩
 · obtain ⟨k, hk, rfl⟩ := List.getElem_of_mem hc
   exact (okU_get hk).1 (hU k)
 · obtain ⟨k, hk, rfl⟩ := List.getElem_of_mem ho
   obtain ⟨h1, h2, _, h4, h5, h6⟩ := (okO_get hk).1 (hO k)
   exact ⟨h1, h2, h4, h5, h6⟩
theorem vl_valid {l : Lt} (h : Vl l) (h1 : 1 ≤ l.next) (h2 : l.next ≤ far) (h3 : l.cks.length ≤ 1000) (h4 : l.obs.length ≤ 1000) : validL l := by
 refine ⟨⟨h1, h2, h3, h4⟩, fun k => ?_, fun k => ?_, fun k => ?_⟩
 · rcases Nat.lt_or_ge k l.cks.length with hk | hk
   · rw [okA_get hk]
     obtain ⟨q1, q2, q3, q4, q5, q6⟩ := h.c.each _ (List.getElem_mem hk)
     exact ⟨q1, q2, fun h0 => List.pairwise_iff_getElem.1 h.c.ids _ _ (by omega) hk (by omega), q3, q4, q5, fun i hi => List.pairwise_iff_getElem.1 h.c.names i k (by omega) hk hi, q6⟩
   · exact okA_out hk
 · rcases Nat.lt_or_ge k l.cks.length with hk | hk
   · rw [okU_get hk]; exact h.u _ (List.getElem_mem hk)
   · exact okU_out hk
 · rcases Nat.lt_or_ge k l.obs.length with hk | hk
   · rw [okO_get hk]
     obtain ⟨q1, q2, q3, q4, q5⟩ := h.o _ (List.getElem_mem hk)
     exact ⟨q1, q2, fun h0 => List.pairwise_iff_getElem.1 h.ids _ _ (by omega) hk (by omega), q3, q4, q5⟩
   · exact okO_out hk
/-! ### what bytes a number stands for -/
theorem bytesOf_mem' {cks : List Ck} (hp : cks.Pairwise fun a b => a.id < b.id) {c : Ck} (hc : c ∈ cks) : bytesOf cks c.id = c.bytes := by
 unfold bytesOf; rw [find_of (f := Ck.id) hp hc]; rfl
def Carry (cks cks' : List Ck) (ids : List Int) : Prop := ∀ c ∈ cks, c.id ∈ ids → ∃ c' ∈ cks', c'.id = c.id ∧ c'.cls = c.cls ∧ c'.bytes = c.bytes
theorem Carry.texts {cks cks' : List Ck} {ids : List Int} (h : Carry cks cks' ids) (hp : cks.Pairwise fun a b => a.id < b.id) (hp' : cks'.Pairwise fun a b => a.id < b.id) (hi : ∀ i ∈ ids, ∃ c ∈ cks, c.id = i) : textsOf cks' ids = textsOf cks ids := by
 unfold textsOf
 refine List.map_congr_left fun i hm => ?_
 obtain ⟨c, hc, rfl⟩ := hi i hm
 obtain ⟨c', hc', h1, h2, h3⟩ := h c hc hm
 rw [bytesOf_mem' hp hc, ← h1, bytesOf_mem' hp' hc', h3]
theorem Vo.carry {cks cks' : List Ck} {o : Ob} (ho : Vo cks o) (h : Carry cks cks' o.chunks) (hp : cks.Pairwise fun a b => a.id < b.id) (hp' : cks'.Pairwise fun a b => a.id < b.id) : Vo cks' o ∧ textOf cks' o.chunks = textOf cks o.chunks := by
 obtain ⟨h1, h2, h3, h4, h5⟩ := ho
 have ht : textOf cks' o.chunks = textOf cks o.chunks := by
  unfold textOf
  rw [h.texts hp hp' fun i hi => by obtain ⟨c, hc, e, _⟩ := h4 i hi; exact ⟨c, hc, e⟩]
 refine ⟨⟨h1, h2, h3, fun i hi => ?_, by rw [ht]; exact h5⟩, ht⟩
 obtain ⟨c, hc, rfl, e⟩ := h4 i hi
 obtain ⟨c', hc', q1, q2, _⟩ := h c hc hi
 exact ⟨c', hc', q1, by rw [q2, e]⟩
/-! ### how often -/
theorem uses_pos {obs : List Ob} {i : Int} : 0 < usesOf obs i ↔ ∃ o ∈ obs, i ∈ o.chunks := by
 unfold usesOf
 induction obs with
 | nil => simp
 | cons o obs ih =>
  simp only [List.map_cons, List.sum_cons, List.mem_cons, exists_eq_or_imp]
  rw [← ih]
  have : i ∈ o.chunks ↔ 0 < o.chunks.count i := List.count_pos_iff.symm
  rw [this]
  omega
theorem nodup_le {α : Type} [BEq α] [LawfulBEq α] : ∀ {l m : List α}, l.Pairwise (fun a b => a ≠ b) → (∀ x ∈ l, x ∈ m) → l.length ≤ m.length
 | [], m, _, _ => Nat.zero_le _
 | x :: l, m, h, hs => by
   rw [List.pairwise_cons] at h
   have hx := hs x List.mem_cons_self
   have ih := nodup_le (m := m.erase x) h.2 fun y hy => by
    have hne : y ≠ x := fun e => h.1 y hy e.symm
    exact (List.mem_erase_of_ne hne).2 (hs y (List.mem_cons_of_mem _ hy))
   have h2 := List.length_erase_of_mem hx
   have h3 : 0 < m.length := List.length_pos_of_mem hx
   simp only [List.length_cons]
   omega
theorem cks_le {l : Lt} (h : Vl l) : l.cks.length ≤ (l.obs.map fun o => o.chunks.length).sum := by
 have h1 := nodup_le (l := l.cks.map (·.id)) (m := l.obs.flatMap (·.chunks)) (by
  rw [List.pairwise_map]
  exact h.c.ids.imp fun {a b} hab e => by omega) (fun x hx => by
  obtain ⟨c, hc, rfl⟩ := List.mem_map.1 hx
  have h1 := (h.c.each c hc).2.2.2.2.2
  have h2 := h.u c hc
  obtain ⟨o, ho, hm⟩ := uses_pos.1 (by omega : 0 < usesOf l.obs c.id)
  exact List.mem_flatMap.2 ⟨o, ho, hm⟩)
 rw [List.length_map, List.length_flatMap] at h1
 exact h1
theorem chunks_le {cks : List Ck} {next : Int} (h : Vc next cks) : ∀ {ids : List Int}, (∀ i ∈ ids, ∃ c ∈ cks, c.id = i) → ids.length ≤ (textOf cks ids).length
 | [], _ => by simp
 | i :: ids, hi => by
   have ih := chunks_le h (ids := ids) fun j hj => hi j (List.mem_cons_of_mem _ hj)
   obtain ⟨c, hc, rfl⟩ := hi i List.mem_cons_self
   rw [textOf_cons, bytesOf_mem' h.ids hc, List.length_append, List.length_cons]
   have := (h.each c hc).2.2.1
   omega
/-! ### taking an object away -/
theorem keep_mem {obs : List Ob} {cks : List Ck} {c : Ck} : c ∈ keepC obs cks ↔ ∃ d ∈ cks, 0 < usesOf obs d.id ∧ c = { d with uses := (usesOf obs d.id : Int) } := by
 unfold keepC
 rw [List.mem_filter, List.mem_map]
 constructor
 · rintro ⟨⟨d, hd, rfl⟩, h⟩
   simp only [decide_eq_true_eq] at h
   exact ⟨d, hd, by omega, rfl⟩
 · rintro ⟨d, hd, h, rfl⟩
   exact ⟨⟨d, hd, rfl⟩, by simp only [decide_eq_true_eq]; omega⟩
theorem keep_vc {obs : List Ob} {cks : List Ck} {next : Int} (h : Vc next cks) : Vc next (keepC obs cks) := by
 refine ⟨?_, ?_, fun c hc => ?_⟩
 · unfold keepC
   exact List.Pairwise.filter _ (by rw [List.pairwise_map]; exact h.ids)
 · unfold keepC NameD
   refine List.Pairwise.filter _ ?_
   rw [List.pairwise_map]
   exact h.names
 · obtain ⟨d, hd, h0, rfl⟩ := keep_mem.1 hc
   obtain ⟨q1, q2, q3, q4, q5, _⟩ := h.each d hd
   exact ⟨q1, q2, q3, q4, q5, by simp only; omega⟩
theorem keep_vl {l : Lt} {p : Ob → Bool} (h : Vl l) : Vl ⟨l.next, keepC (l.obs.filter p) l.cks, l.obs.filter p⟩ ∧ ∀ o ∈ l.obs.filter p, textOf (keepC (l.obs.filter p) l.cks) o.chunks = textOf l.cks o.chunks := by
 have hc := keep_vc (obs := l.obs.filter p) h.c
 have hcar : ∀ o ∈ l.obs.filter p, Carry l.cks (keepC (l.obs.filter p) l.cks) o.chunks := fun o ho c hm hi =>
  ⟨_, keep_mem.2 ⟨c, hm, uses_pos.2 ⟨o, ho, hi⟩, rfl⟩, rfl, rfl, rfl⟩
 have hv := fun o (ho : o ∈ l.obs.filter p) => (h.o o (List.mem_filter.1 ho).1).carry (hcar o ho) h.c.ids hc.ids
 refine ⟨⟨hc, fun c hm => ?_, List.Pairwise.filter _ h.ids, fun o ho => (hv o ho).1⟩, fun o ho => (hv o ho).2⟩
 obtain ⟨d, _, _, rfl⟩ := keep_mem.1 hm
 rfl
/-! ### one more object -/
theorem modify_mem {l : List Ck} {k : Nat} {f : Ck → Ck} {c : Ck} (h : c ∈ l.modify k f) : ∃ (j : Nat) (hj : j < l.length), c = if k = j then f l[j] else l[j] := by
 obtain ⟨j, hj, rfl⟩ := List.getElem_of_mem h
 rw [List.length_modify] at hj
 exact ⟨j, hj, List.getElem_modify ..⟩
/-- What holds while the chunks of one more object are put. -/
structure Pst (obs : List Ob) (cls : Str) (cks0 : List Ck) (next0 : Int) (st : Int × List Ck) (ids : List Int) (parts : List Str) : Prop where
 c : Vc st.1 st.2
 u : ∀ c ∈ st.2, c.uses = (usesOf obs c.id + ids.count c.id : Nat)
 old : ∀ c ∈ cks0, ∃ c' ∈ st.2, c'.id = c.id ∧ c'.cls = c.cls ∧ c'.bytes = c.bytes ∧ (c'.uses = c.uses ∨ c.cls = cls)
 new : ∀ i, st.1 ≤ i → usesOf obs i = 0 ∧ i ∉ ids
 idm : ∀ i ∈ ids, ∃ c ∈ st.2, c.id = i ∧ c.cls = cls
 texts : textsOf st.2 ids = parts
 next : next0 ≤ st.1 ∧ st.1 ≤ next0 + parts.length
 len : st.2.length ≤ cks0.length + parts.length
theorem modify_pair {R : Ck → Ck → Prop} {l : List Ck} {k : Nat} {f : Ck → Ck} (h : l.Pairwise R) (hf : ∀ a b, R a b → R (f a) b ∧ R a (f b)) : (l.modify k f).Pairwise R := by
 rw [List.pairwise_iff_getElem] at h ⊢
 intro i j hi hj hij
 rw [List.length_modify] at hi hj
 have := h i j hi hj hij
 rw [List.getElem_modify, List.getElem_modify]
 split
 · rw [if_neg (by omega)]; exact (hf _ _ this).1
 · split
   · exact (hf _ _ this).2
   · exact this
theorem Pst.step {obs : List Ob} {cls : Str} {cks0 : List Ck} {next0 : Int} {st : Int × List Ck} {ids : List Int} {parts : List Str} {s : Str} (h : Pst obs cls cks0 next0 st ids parts) (h1 : 1 ≤ next0) (hs : 1 ≤ s.length) (hs2 : s.length ≤ 4096) (hcl : cls.length ≤ 65536) :
 Pst obs cls cks0 next0 (putC cls st s).1 (ids ++ [(putC cls st s).2]) (parts ++ [s]) := by
 cases hn : nameAt st.2 cls s with
 | some k =>
  obtain ⟨hk, e1, e2⟩ := nameAt_some hn
  rw [putC_some hn, List.getElem?_eq_getElem hk]
  simp only [Option.map_some, Option.getD_some]
  have hc : Vc st.1 (st.2.modify k fun c => { c with uses := c.uses + 1 }) := by
   refine ⟨modify_pair h.c.ids fun a b hab => ⟨hab, hab⟩, modify_pair h.c.names fun a b hab => ⟨hab, hab⟩, fun c hc => ?_⟩
   obtain ⟨j, hj, rfl⟩ := modify_mem hc
   obtain ⟨q1, q2, q3, q4, q5, q6⟩ := h.c.each _ (List.getElem_mem hj)
   split
   · exact ⟨q1, q2, q3, q4, q5, by simp only; omega⟩
   · exact ⟨q1, q2, q3, q4, q5, q6⟩
  have hget : ∀ c ∈ st.2, ∃ c' ∈ st.2.modify k (fun c => { c with uses := c.uses + 1 }), c'.id = c.id ∧ c'.cls = c.cls ∧ c'.bytes = c.bytes ∧ (c'.uses = c.uses ∨ c.cls = cls) := fun c hc => by
   obtain ⟨j, hj, rfl⟩ := List.getElem_of_mem hc
   refine ⟨(st.2.modify k fun c => { c with uses := c.uses + 1 })[j]'(by rw [List.length_modify]; exact hj), List.getElem_mem _, ?_⟩
   rw [List.getElem_modify]
   split
   · rename_i e; subst e; exact ⟨rfl, rfl, rfl, .inr e1⟩
   · exact ⟨rfl, rfl, rfl, .inl rfl⟩
  refine ⟨hc, fun c hm => ?_, fun c hm => ?_, fun i hi => ?_, fun i hi => ?_, ?_, ?_, ?_⟩
  · obtain ⟨j, hj, rfl⟩ := modify_mem hm
    have hu := h.u _ (List.getElem_mem hj)
    by_cases e : k = j
    · subst e
      rw [if_pos rfl]
      simp only [List.count_append, List.count_cons_self, List.count_nil]
      omega
    · rw [if_neg e]
      have hne : st.2[k].id ≠ st.2[j].id := by
       rcases Nat.lt_or_gt_of_ne e with h1 | h1
       · have := List.pairwise_iff_getElem.1 h.c.ids k j hk hj h1; omega
       · have := List.pairwise_iff_getElem.1 h.c.ids j k hj hk h1; omega
      rw [List.count_append, List.count_cons_of_ne hne, List.count_nil]
      exact hu
  · obtain ⟨c', hc', q1, q2, q3, q4⟩ := h.old c hm
    obtain ⟨c2, hc2, r1, r2, r3, r4⟩ := hget c' hc'
    exact ⟨c2, hc2, by rw [r1, q1], by rw [r2, q2], by rw [r3, q3], by
     rcases r4 with r4 | r4
     · rw [r4]; exact q4
     · rw [q2] at r4; exact .inr r4⟩
  · obtain ⟨q1, q2⟩ := h.new i hi
    refine ⟨q1, fun hm => ?_⟩
    rcases List.mem_append.1 hm with hm | hm
    · exact q2 hm
    · obtain rfl := List.mem_singleton.1 hm
      have := (h.c.each _ (List.getElem_mem hk)).2.1
      exact absurd hi (by omega)
  · rcases List.mem_append.1 hi with hi | hi
    · obtain ⟨c, hc1, rfl, e⟩ := h.idm i hi
      obtain ⟨c2, hc2, r1, r2, _⟩ := hget c hc1
      exact ⟨c2, hc2, r1, by rw [r2, e]⟩
    · obtain rfl := List.mem_singleton.1 hi
      obtain ⟨c2, hc2, r1, r2, _⟩ := hget _ (List.getElem_mem hk)
      exact ⟨c2, hc2, r1, by rw [r2, e1]⟩
  · have hcar : Carry st.2 (st.2.modify k fun c => { c with uses := c.uses + 1 }) (ids ++ [st.2[k].id]) := fun c hm _ => by
     obtain ⟨c2, hc2, r1, r2, r3, _⟩ := hget c hm
     exact ⟨c2, hc2, r1, r2, r3⟩
    rw [hcar.texts h.c.ids hc.ids (fun i hi => by
     rcases List.mem_append.1 hi with hi | hi
     · obtain ⟨c, hc1, e, _⟩ := h.idm i hi; exact ⟨c, hc1, e⟩
     · obtain rfl := List.mem_singleton.1 hi; exact ⟨_, List.getElem_mem hk, rfl⟩)]
    have := h.texts
    unfold textsOf at this ⊢
    rw [List.map_append, this]
    simp only [List.map_cons, List.map_nil]
    rw [bytesOf_mem' h.c.ids (List.getElem_mem hk), e2]
  · have := h.next
    rw [List.length_append]; simp only [List.length_cons, List.length_nil]; omega
  · have := h.len
    rw [List.length_modify, List.length_append]; omega
 | none =>
  rw [putC_none hn]
  have hnn := nameAt_none hn
  have hc : Vc (st.1 + 1) (st.2 ++ [⟨st.1, cls, s, 1⟩]) := by
   refine ⟨?_, ?_, fun c hc => ?_⟩
   · rw [List.pairwise_append]
     exact ⟨h.c.ids, List.pairwise_singleton _ _, fun a ha b hb => by obtain rfl := List.mem_singleton.1 hb; exact (h.c.each a ha).2.1⟩
   · unfold NameD
     rw [List.pairwise_append]
     exact ⟨h.c.names, List.pairwise_singleton _ _, fun a ha b hb => by obtain rfl := List.mem_singleton.1 hb; exact hnn a ha⟩
   · rcases List.mem_append.1 hc with hc | hc
     · obtain ⟨q1, q2, q3, q4, q5, q6⟩ := h.c.each c hc
       exact ⟨q1, by omega, q3, q4, q5, q6⟩
     · obtain rfl := List.mem_singleton.1 hc
       have := h.next
       exact ⟨by simp only; omega, by simp only; omega, hs, hs2, hcl, by simp only; omega⟩
  have hnew := h.new st.1 (Int.le_refl _)
  refine ⟨hc, fun c hm => ?_, fun c hm => ?_, fun i hi => ?_, fun i hi => ?_, ?_, ?_, ?_⟩
  · rcases List.mem_append.1 hm with hm | hm
    · have hlt := (h.c.each c hm).2.1
      have hne : st.1 ≠ c.id := by omega
      rw [List.count_append, List.count_cons_of_ne hne, List.count_nil]
      exact h.u c hm
    · obtain rfl := List.mem_singleton.1 hm
      simp only [List.count_append, List.count_cons_self, List.count_nil, hnew.1, List.count_eq_zero_of_not_mem hnew.2]
      rfl
  · obtain ⟨c', hc', q⟩ := h.old c hm
    exact ⟨c', List.mem_append_left _ hc', q⟩
  · obtain ⟨q1, q2⟩ := h.new i (by simp only at hi; omega)
    refine ⟨q1, fun hm => ?_⟩
    rcases List.mem_append.1 hm with hm | hm
    · exact q2 hm
    · obtain rfl := List.mem_singleton.1 hm
      simp only at hi; omega
  · rcases List.mem_append.1 hi with hi | hi
    · obtain ⟨c, hc1, e⟩ := h.idm i hi
      exact ⟨c, List.mem_append_left _ hc1, e⟩
    · obtain rfl := List.mem_singleton.1 hi
      exact ⟨_, List.mem_append_right _ (List.mem_singleton.2 rfl), rfl, rfl⟩
  · have hcar : Carry st.2 (st.2 ++ [⟨st.1, cls, s, 1⟩]) ids := fun c hm _ => ⟨c, List.mem_append_left _ hm, rfl, rfl, rfl⟩
    have ht := hcar.texts h.c.ids hc.ids (fun i hi => by obtain ⟨c, hc1, e, _⟩ := h.idm i hi; exact ⟨c, hc1, e⟩)
    have hb := bytesOf_mem' hc.ids (List.mem_append_right st.2 (List.mem_singleton.2 rfl))
    simp only at hb
    rw [h.texts] at ht
    unfold textsOf at ht ⊢
    rw [List.map_append, ht]
    simp only [List.map_cons, List.map_nil]
    rw [hb]
  · have := h.next
    rw [List.length_append]; simp only [List.length_cons, List.length_nil]; omega
  · have := h.len
    rw [List.length_append, List.length_append]; simp only [List.length_cons, List.length_nil]; omega
theorem Pst.all {obs : List Ob} {cls : Str} {cks0 : List Ck} {next0 : Int} (h1 : 1 ≤ next0) (hcl : cls.length ≤ 65536) : ∀ {ss : List Str} {st : Int × List Ck} {ids : List Int} {parts : List Str}, Pst obs cls cks0 next0 st ids parts → (∀ s ∈ ss, 1 ≤ s.length ∧ s.length ≤ 4096) →
 Pst obs cls cks0 next0 (putCs cls st ss).1 (ids ++ (putCs cls st ss).2) (parts ++ ss)
 | [], st, ids, parts, h, _ => by simpa [putCs] using h
 | s :: ss, st, ids, parts, h, hs => by
   have h2 := h.step h1 (hs s List.mem_cons_self).1 (hs s List.mem_cons_self).2 hcl
   have := Pst.all h1 hcl h2 fun x hx => hs x (List.mem_cons_of_mem _ hx)
   simpa [putCs] using this
theorem Pst.start {l : Lt} {cls : Str} (h : Vl l) : Pst l.obs cls l.cks l.next (l.next, l.cks) [] [] := by
 refine ⟨h.c, fun c hc => by simpa using h.u c hc, fun c hc => ⟨c, hc, rfl, rfl, rfl, .inl rfl⟩, fun i hi => ⟨?_, by simp⟩, fun i hi => by simp at hi, rfl, by simp, by simp⟩
 refine Nat.eq_zero_of_not_pos fun h0 => ?_
 obtain ⟨o, ho, hm⟩ := uses_pos.1 h0
 obtain ⟨c, hc, rfl, _⟩ := (h.o o ho).2.2.2.1 i hm
 have := (h.c.each c hc).2.1
 simp only at hi; omega
theorem mem_ins {x y : Ob} {l : List Ob} : y ∈ insO x l ↔ y = x ∨ y ∈ l := by
 unfold insO
 rw [List.mem_append, List.mem_cons]
 have : y ∈ l ↔ y ∈ l.take (place x.id l) ∨ y ∈ l.drop (place x.id l) := by
  rw [← List.mem_append, List.take_append_drop]
 rw [this]
 constructor
 · rintro (h | h | h)
   · exact .inr (.inl h)
   · exact .inl h
   · exact .inr (.inr h)
 · rintro (h | h | h)
   · exact .inr (.inl h)
   · exact .inl h
   · exact .inr (.inr h)
theorem place_lt : ∀ {n : Int} {l : List Ob}, ∀ y ∈ l.take (place n l), y.id < n
 | n, [], y, h => by simp at h
 | n, f :: l, y, h => by
   unfold place at h
   rw [List.takeWhile_cons] at h
   split at h
   · rename_i e
     simp only [List.length_cons, List.take_succ_cons, List.mem_cons] at h
     rcases h with rfl | h
     · simpa using e
     · exact place_lt y h
   · simp at h
theorem place_ge : ∀ {n : Int} {l : List Ob}, (l.Pairwise fun a b => a.id < b.id) → ¬ known n l → ∀ y ∈ l.drop (place n l), n < y.id
 | n, [], _, _, y, h => by simp at h
 | n, f :: l, hp, hk, y, h => by
   rw [List.pairwise_cons] at hp
   unfold place at h
   rw [List.takeWhile_cons] at h
   split at h
   · simp only [List.length_cons, List.drop_succ_cons] at h
     exact place_ge hp.2 (fun ⟨x, hx, e⟩ => hk ⟨x, List.mem_cons_of_mem _ hx, e⟩) y h
   · rename_i e
     simp only [List.length_nil, List.drop_zero] at h
     have hf : n < f.id := by
      have hne : f.id ≠ n := fun e => hk ⟨f, List.mem_cons_self, e⟩
      simp only [decide_eq_true_eq] at e
      omega
     rcases List.mem_cons.1 h with rfl | h
     · exact hf
     · have := hp.1 y h; omega
theorem ins_pair {x : Ob} {l : List Ob} (hp : l.Pairwise fun a b => a.id < b.id) (hk : ¬ known x.id l) : (insO x l).Pairwise fun a b => a.id < b.id := by
 unfold insO
 rw [List.pairwise_append, List.pairwise_cons]
 refine ⟨hp.sublist (List.take_sublist _ _), ⟨fun y hy => place_ge hp hk y hy, hp.sublist (List.drop_sublist _ _)⟩, fun a ha b hb => ?_⟩
 have h1 := place_lt a ha
 rcases List.mem_cons.1 hb with rfl | hb
 · exact h1
 · have := place_ge hp hk b hb; omega
theorem ins_len (x : Ob) (l : List Ob) : (insO x l).length = l.length + 1 := by
 unfold insO
 rw [List.length_append, List.length_cons, List.length_take, List.length_drop]
 have := place_le x.id l; omega
theorem ins_uses (x : Ob) (l : List Ob) (i : Int) : usesOf (insO x l) i = usesOf l i + x.chunks.count i := by
 unfold insO usesOf
 have : (l.map fun o => o.chunks.count i).sum = ((l.take (place x.id l)).map fun o => o.chunks.count i).sum + ((l.drop (place x.id l)).map fun o => o.chunks.count i).sum := by
  rw [← List.sum_append, ← List.map_append, List.take_append_drop]
 rw [this, List.map_append, List.sum_append, List.map_cons, List.sum_cons]
 omega
/-- What is in a lot behind one more object. -/
structure Added (l : Lt) (id : Int) (cls : Str) (parts : List Str) (l' : Lt) : Prop where
 v : Vl l'
 next : l.next ≤ l'.next ∧ l'.next ≤ l.next + parts.length
 len : l'.cks.length ≤ l.cks.length + parts.length
 obs : ∃ o : Ob, o.id = id ∧ o.cls = cls ∧ o.chunks.length = parts.length ∧ textOf l'.cks o.chunks = parts.flatten ∧ l'.obs = insO o l.obs
 texts : ∀ o ∈ l.obs, textOf l'.cks o.chunks = textOf l.cks o.chunks
 old : ∀ c ∈ l.cks, ∃ c' ∈ l'.cks, c'.id = c.id ∧ c'.cls = c.cls ∧ c'.bytes = c.bytes ∧ (c'.uses = c.uses ∨ c.cls = cls)
theorem added {l : Lt} {id : Int} {cls : Str} {parts : List Str} (h : Vl l) (h1 : 1 ≤ l.next) (hid : 1 ≤ id ∧ id ≤ far) (hk : ¬ known id l.obs) (hcl : cls.length ≤ 65536) (hp : ∀ s ∈ parts, 1 ≤ s.length ∧ s.length ≤ 4096) (ht : parts.flatten.length ≤ 65536) :
 ∃ l', Added l id cls parts l' ∧ addL l id cls parts = if l'.obs.length > 1000 ∨ l'.cks.length > 1000 ∨ l'.next > far then (⟨0, [], []⟩, 13) else (l', 0) := by
 have hs := Pst.all h1 hcl (Pst.start (cls := cls) h) hp
 rw [List.nil_append, List.nil_append] at hs
 refine ⟨⟨(putCs cls (l.next, l.cks) parts).1.1, (putCs cls (l.next, l.cks) parts).1.2, insO ⟨id, cls, (putCs cls (l.next, l.cks) parts).2⟩ l.obs⟩, ?_, rfl⟩
 have hx : textOf (putCs cls (l.next, l.cks) parts).1.2 (putCs cls (l.next, l.cks) parts).2 = parts.flatten := by unfold textOf; rw [hs.texts]
 have hv := fun o (ho : o ∈ l.obs) => (h.o o ho).carry (cks' := (putCs cls (l.next, l.cks) parts).1.2) (fun c hc _ => by obtain ⟨c', q1, q2, q3, q4, _⟩ := hs.old c hc; exact ⟨c', q1, q2, q3, q4⟩) h.c.ids hs.c.ids
 refine ⟨⟨hs.c, fun c hc => ?_, ins_pair h.ids hk, fun o ho => ?_⟩, hs.next, hs.len, ⟨_, rfl, rfl, ?_, hx, rfl⟩, fun o ho => (hv o ho).2, hs.old⟩
 · rw [ins_uses]; exact hs.u c hc
 · rcases mem_ins.1 ho with rfl | ho
   · exact ⟨hid.1, hid.2, hcl, hs.idm, by rw [hx]; exact ht⟩
   · exact (hv o ho).1
 · have := congrArg List.length hs.texts
   simpa [textsOf] using this
end C37
/-
 Layer 37 (chunk): what lots keep, and what they forget.
 Conditions: of each law as it says; no program in sight.
-/
namespace C37
open Go.E2
theorem cutN_len' (c : Ct) (s : Str) : ∀ (n k f : Nat), (cutN c s n k f).length ≤ n
 | 0, _, _ => by simp [cutN]
 | n + 1, k, f => by
   simp only [cutN]
   split
   · have := cutN_len' c s n (k + 1) (k + 1); simp only [List.length_cons]; omega
   · have := cutN_len' c s n (k + 1) f; omega
theorem sum_le {obs : List Ob} {b : Nat} (h : ∀ o ∈ obs, o.chunks.length ≤ b) : (obs.map fun o => o.chunks.length).sum ≤ b * obs.length := by
 induction obs with
 | nil => simp
 | cons o obs ih =>
  have h1 := h o List.mem_cons_self
  have h2 := ih fun x hx => h x (List.mem_cons_of_mem _ hx)
  simp only [List.map_cons, List.sum_cons, List.length_cons, Nat.mul_add]
  omega
theorem obj_some {l : Lt} (h : Vl l) {id : Int} (hk : known id l.obs) : ∃ o ∈ l.obs, o.id = id ∧ objOf l id = some o := by
 obtain ⟨o, ho, rfl⟩ := hk
 exact ⟨o, ho, rfl, find_of (f := Ob.id) h.ids ho⟩
theorem obj_none {l : Lt} {id : Int} (hk : ¬ known id l.obs) : objOf l id = none := by
 unfold objOf
 rw [List.find?_eq_none]
 intro o ho e
 exact hk ⟨o, ho, by simpa using e⟩
theorem rest_len {l : Lt} (h : Vl l) {o : Ob} (ho : o ∈ l.obs) : (l.obs.filter fun y => decide (y.id ≠ o.id)).length + 1 = l.obs.length := by
 obtain ⟨k, hk, rfl⟩ := List.getElem_of_mem ho
 rw [erase_filter h.ids hk, List.length_eraseIdx, if_pos hk]
 omega
theorem rest_mem {l : Lt} {id : Int} {y : Ob} : y ∈ (l.obs.filter fun y => decide (y.id ≠ id)) ↔ y ∈ l.obs ∧ y.id ≠ id := by
 rw [List.mem_filter]; simp
theorem rest_unknown {l : Lt} {id : Int} : ¬ known id (l.obs.filter fun y => decide (y.id ≠ id)) := fun ⟨y, hy, e⟩ => (rest_mem.1 hy).2 e
theorem text_parts {l : Lt} (h : Vl l) {o : Ob} (ho : o ∈ l.obs) : ∀ s ∈ textsOf l.cks o.chunks, 1 ≤ s.length ∧ s.length ≤ 4096 := by
 intro s hs
 obtain ⟨i, hi, rfl⟩ := List.mem_map.1 hs
 obtain ⟨c, hc, rfl, _⟩ := (h.o o ho).2.2.2.1 i hi
 rw [bytesOf_mem' h.c.ids hc]
 have := h.c.each c hc
 exact ⟨this.2.2.1, this.2.2.2.1⟩
/-! ### what a lot of a few small objects keeps -/
abbrev Mp := List (Int × Str)
structure Keeps (k : Nat) (l : Lt) (dm cm : Mp) : Prop where
 v : validL l
 next : l.next ≤ 1 + 30 * (k : Int)
 few : l.obs.length ≤ k
 dn : (dm.map (·.1)).Nodup
 cn : (cm.map (·.1)).Nodup
 len : dm.length = l.obs.length
 data : ∀ o ∈ l.obs, mget dm o.id = some (textOf l.cks o.chunks)
 cls : ∀ o ∈ l.obs, mget cm o.id = some o.cls
 known : ∀ i, (mget dm i).isSome = true → known i l.obs
 short : ∀ o ∈ l.obs, (textOf l.cks o.chunks).length ≤ 30
theorem keeps_zero : Keeps 0 ⟨1, [], []⟩ [] [] := by
 refine ⟨vl_valid ⟨⟨.nil, .nil, by simp⟩, by simp, .nil, by simp⟩ (by simp) (by simp [far]) (by simp) (by simp), by simp, by simp, by simp, by simp, rfl, by simp, by simp, fun i h => by simp [mget] at h, by simp⟩
variable {k : Nat} {l : Lt} {dm cm : Mp}
theorem Keeps.is (h : Keeps k l dm cm) (i : Int) : (mget dm i).isSome = decide (C37.known i l.obs) := by
 rw [Bool.eq_iff_iff, decide_eq_true_iff]
 refine ⟨h.known i, fun ⟨o, ho, e⟩ => ?_⟩
 rw [← e, h.data o ho]; rfl
theorem Keeps.up (h : Keeps k l dm cm) : Keeps (k + 1) l dm cm :=
 ⟨h.v, by have := h.next; omega, by have := h.few; omega, h.dn, h.cn, h.len, h.data, h.cls, h.known, h.short⟩
theorem Keeps.cks (h : Keeps k l dm cm) : l.cks.length ≤ 30 * l.obs.length := by
 have hv := valid_vl h.v
 refine Nat.le_trans (cks_le hv) (sum_le fun o ho => ?_)
 refine Nat.le_trans (chunks_le hv.c fun i hi => ?_) (h.short o ho)
 obtain ⟨c, hc, e, _⟩ := (hv.o o ho).2.2.2.1 i hi
 exact ⟨c, hc, e⟩
theorem small_valid {l : Lt} (h : Vl l) (h1 : 1 ≤ l.next) (h2 : l.next ≤ 901) (h3 : l.cks.length ≤ 900) (h4 : l.obs.length ≤ 30) : validL l ∧ ¬ (l.obs.length > 1000 ∨ l.cks.length > 1000 ∨ l.next > far) := by
 have : far = 1099511627776 := rfl
 exact ⟨vl_valid h h1 (by omega) (by omega) (by omega), by omega⟩
theorem Keeps.put (h : Keeps k l dm cm) (hk : k < 30) {c : Ct} (hc : okC c) {id : Int} {cls data : Str} (hd : data.length ≤ 30) (hcl : cls.length ≤ 60) (hid : 1 ≤ id ∧ id ≤ far) (hn : ¬ C37.known id l.obs) :
 ∃ l', putR l c id cls data = (l', 0) ∧ Keeps (k + 1) l' (mput dm id data) (mput cm id cls) := by
 have hv := valid_vl h.v
 have h1 : 1 ≤ l.next := h.v.1.1
 have hcut : cutR c data = (cutL c data, 0) := by unfold cutR; rw [if_pos hc, if_neg (by omega)]
 have hpl : (cutL c data).length ≤ 30 := Nat.le_trans (cutN_len' c data _ 0 0) hd
 obtain ⟨l', ha, hadd⟩ := added (parts := cutL c data) hv h1 hid hn (by omega : cls.length ≤ 65536) (fun s hs => by
  obtain ⟨j, hj, rfl⟩ := List.getElem_of_mem hs
  have h2 := cutL_sizes hc j hj
  exact ⟨h2.1, by have := hc.2.2.1; omega⟩) (by rw [cutL_flat]; omega)
 obtain ⟨o, ho1, ho2, ho3, ho4, ho5⟩ := ha.obs
 rw [cutL_flat] at ho4
 have hol : l'.obs.length = l.obs.length + 1 := by rw [ho5, ins_len]
 have hcks := h.cks
 have hnx := h.next
 have hfw := h.few
 have han := ha.next
 have hal := ha.len
 obtain ⟨v', hb⟩ := small_valid ha.v (by omega) (by omega) (by omega) (by omega)
 rw [if_neg hb] at hadd
 refine ⟨l', ?_, v', by simp only [Int.natCast_add, Int.natCast_one]; omega, by omega, mput_nodup h.dn _ _, mput_nodup h.cn _ _, ?_, fun x hx => ?_, fun x hx => ?_, fun i hi => ?_, fun x hx => ?_⟩
 · unfold putR
   rw [if_pos h.v, hcut, if_neg (by simp), if_neg (by omega), if_neg hn, hadd]
 · have hnone : (mget dm id).isSome = false := by rw [h.is]; exact decide_eq_false hn
   rw [mput_len, hnone, h.len, hol]; simp
 · rw [mget_put]
   rw [ho5] at hx
   rcases mem_ins.1 hx with rfl | hx
   · rw [if_pos ho1, ho4]
   · rw [if_neg (fun e => hn ⟨x, hx, e⟩), ha.texts x hx]; exact h.data x hx
 · rw [mget_put]
   rw [ho5] at hx
   rcases mem_ins.1 hx with rfl | hx
   · rw [if_pos ho1, ho2]
   · rw [if_neg (fun e => hn ⟨x, hx, e⟩)]; exact h.cls x hx
 · rw [mget_put] at hi
   rw [ho5]
   split at hi
   · rename_i e; exact ⟨o, mem_ins.2 (.inl rfl), by rw [ho1, e]⟩
   · obtain ⟨y, hy, e⟩ := h.known i hi
     exact ⟨y, mem_ins.2 (.inr hy), e⟩
 · rw [ho5] at hx
   rcases mem_ins.1 hx with rfl | hx
   · rw [ho4]; exact hd
   · rw [ha.texts x hx]; exact h.short x hx
theorem Keeps.put_not (h : Keeps k l dm cm) {c : Ct} (hc : okC c) {id : Int} {cls data : Str} (hd : data.length ≤ 30) (hn : ¬ (1 ≤ id ∧ id ≤ far) ∨ C37.known id l.obs) : (putR l c id cls data).2 ≠ 0 := by
 have hcut : cutR c data = (cutL c data, 0) := by unfold cutR; rw [if_pos hc, if_neg (by omega)]
 unfold putR
 rw [if_pos h.v, hcut, if_neg (by simp)]
 split
 · simp
 · rename_i h1
   rw [if_pos (by rcases hn with hn | hn; · omega
                  · exact hn)]
   simp
theorem Keeps.drop (h : Keeps k l dm cm) {id : Int} (hn : C37.known id l.obs) : ∃ l' g, dropR l id = (l', g, 0) ∧ Keeps (k + 1) l' (mdel dm id) (mdel cm id) := by
 have hv := valid_vl h.v
 obtain ⟨o, ho, rfl, hob⟩ := obj_some hv hn
 obtain ⟨hv', htx⟩ := keep_vl (p := fun y => decide (y.id ≠ o.id)) hv
 have hlen := rest_len hv ho
 have hnx := h.next
 have hfw := h.few
 refine ⟨_, _, by unfold dropR; rw [if_pos h.v, hob], ?_⟩
 obtain ⟨⟨q1, q2, q3, q4⟩, _⟩ := h.v
 have hkl := keepC_len (l.obs.filter fun y => decide (y.id ≠ o.id)) l.cks
 refine ⟨vl_valid hv' q1 q2 (Nat.le_trans hkl q3) (by show (l.obs.filter _).length ≤ 1000; omega), by show l.next ≤ _; simp only [Int.natCast_add, Int.natCast_one]; omega, by show (l.obs.filter _).length ≤ _; omega, mdel_nodup h.dn _, mdel_nodup h.cn _, ?_, fun x hx => ?_, fun x hx => ?_, fun i hi => ?_, fun x hx => ?_⟩
 · have hsome : (mget dm o.id).isSome = true := by rw [h.is]; exact decide_eq_true hn
   rw [mdel_len, hsome, if_pos rfl, h.len]
   show _ = (l.obs.filter _).length
   omega
 · obtain ⟨h1, h2⟩ := rest_mem.1 hx
   rw [mget_del h.dn, if_neg h2]
   exact (h.data x h1).trans (congrArg some (htx x hx).symm)
 · obtain ⟨h1, h2⟩ := rest_mem.1 hx
   rw [mget_del h.cn, if_neg h2]
   exact h.cls x h1
 · rw [mget_del h.dn] at hi
   split at hi
   · cases hi
   · rename_i e
     obtain ⟨y, hy, e2⟩ := h.known i hi
     exact ⟨y, rest_mem.2 ⟨hy, by rw [e2]; exact e⟩, e2⟩
 · obtain ⟨h1, h2⟩ := rest_mem.1 hx
   have := htx x hx
   show (textOf (keepC (l.obs.filter fun y => decide (y.id ≠ o.id)) l.cks) x.chunks).length ≤ 30
   rw [this]; exact h.short x h1
theorem Keeps.drop_not (h : Keeps k l dm cm) {id : Int} (hn : ¬ C37.known id l.obs) : (dropR l id).2.2 ≠ 0 := by
 unfold dropR; rw [if_pos h.v, obj_none hn]; simp
theorem Keeps.move (h : Keeps k l dm cm) (hk : k < 30) {id : Int} {cls : Str} (hcl : cls.length ≤ 60) (hn : C37.known id l.obs) : ∃ l' g, moveR l id cls = (l', g, 0) ∧ Keeps (k + 1) l' dm (mput cm id cls) := by
 have hv := valid_vl h.v
 obtain ⟨o, ho, rfl, hob⟩ := obj_some hv hn
 by_cases he : o.cls = cls
 · refine ⟨l, [], by unfold moveR; rw [if_pos h.v, hob]; simp only; rw [if_neg (by omega), if_pos he], ?_⟩
   have hu := h.up
   refine ⟨hu.v, hu.next, hu.few, hu.dn, mput_nodup h.cn _ _, hu.len, hu.data, fun x hx => ?_, hu.known, hu.short⟩
   rw [mget_put]
   by_cases e : x.id = o.id
   · rw [if_pos e, pair_inj (f := Ob.id) hv.ids hx ho e, he]
   · rw [if_neg e]; exact h.cls x hx
 · obtain ⟨hv', htx⟩ := keep_vl (p := fun y => decide (y.id ≠ o.id)) hv
   have hlen := rest_len hv ho
   have hnx := h.next
   have hfw := h.few
   have h1 : 1 ≤ l.next := h.v.1.1
   have hch : o.chunks.length ≤ 30 := Nat.le_trans (chunks_le hv.c fun i hi => by obtain ⟨c, hc, e, _⟩ := (hv.o o ho).2.2.2.1 i hi; exact ⟨c, hc, e⟩) (h.short o ho)
   have hpl : (textsOf l.cks o.chunks).length ≤ 30 := by unfold textsOf; rw [List.length_map]; exact hch
   have hoid := hv.o o ho
   obtain ⟨l', ha, hadd⟩ := added (id := o.id) (cls := cls) (parts := textsOf l.cks o.chunks) hv' h1 ⟨hoid.1, hoid.2.1⟩ rest_unknown (by omega) (text_parts hv ho) (by have := h.short o ho; unfold textOf at this; omega)
   obtain ⟨o', ho1, ho2, ho3, ho4, ho5⟩ := ha.obs
   have hol : l'.obs.length = l.obs.length := by rw [ho5, ins_len]; exact hlen
   have hkl : (keepC (l.obs.filter fun y => decide (y.id ≠ o.id)) l.cks).length ≤ 30 * l.obs.length := Nat.le_trans (keepC_len _ _) h.cks
   have hk2 : (keepC (l.obs.filter fun y => decide (y.id ≠ o.id)) l.cks).length ≤ 30 * (l.obs.filter fun y => decide (y.id ≠ o.id)).length := by
    refine Nat.le_trans (cks_le hv') (sum_le fun x hx => ?_)
    have hx' := (rest_mem.1 hx).1
    refine Nat.le_trans (chunks_le hv.c fun i hi => ?_) (h.short x hx')
    obtain ⟨c, hc, e, _⟩ := (hv.o x hx').2.2.2.1 i hi
    exact ⟨c, hc, e⟩
   have han := ha.next
   have hal := ha.len
   simp only at han hal
   obtain ⟨v', hb⟩ := small_valid ha.v (by omega) (by omega) (by omega) (by omega)
   rw [if_neg hb] at hadd
   have hkn : ∀ x ∈ l'.obs, x = o' ∨ (x ∈ l.obs ∧ x.id ≠ o.id ∧ textOf l'.cks x.chunks = textOf l.cks x.chunks) := fun x hx => by
    rw [ho5] at hx
    rcases mem_ins.1 hx with rfl | hx
    · exact .inl rfl
    · have := rest_mem.1 hx
      exact .inr ⟨this.1, this.2, (ha.texts x hx).trans (htx x hx)⟩
   refine ⟨l', (without l o.id).2, ?_, v', by simp only [Int.natCast_add, Int.natCast_one]; omega, by omega, h.dn, mput_nodup h.cn _ _, by rw [h.len, hol], fun x hx => ?_, fun x hx => ?_, fun i hi => ?_, fun x hx => ?_⟩
   · unfold moveR
     rw [if_pos h.v, hob]
     simp only
     rw [if_neg (by omega), if_neg he]
     have e : addL (without l o.id).1 o.id cls (textsOf l.cks o.chunks) = (l', 0) := hadd
     rw [e]; simp
   · rcases hkn x hx with rfl | ⟨q1, q2, q3⟩
     · rw [ho1, ho4]; exact h.data o ho
     · rw [q3]; exact h.data x q1
   · rw [mget_put]
     rcases hkn x hx with rfl | ⟨q1, q2, q3⟩
     · rw [if_pos ho1, ho2]
     · rw [if_neg q2]; exact h.cls x q1
   · obtain ⟨y, hy, e2⟩ := h.known i hi
     rw [ho5]
     by_cases e : i = o.id
     · exact ⟨o', mem_ins.2 (.inl rfl), by rw [ho1, e]⟩
     · exact ⟨y, mem_ins.2 (.inr (rest_mem.2 ⟨hy, by rw [e2]; exact e⟩)), e2⟩
   · rcases hkn x hx with rfl | ⟨q1, q2, q3⟩
     · rw [ho4]; exact h.short o ho
     · rw [q3]; exact h.short x q1
theorem Keeps.move_not (h : Keeps k l dm cm) {id : Int} {cls : Str} (hn : ¬ C37.known id l.obs) : (moveR l id cls).2.2 ≠ 0 := by
 unfold moveR; rw [if_pos h.v, obj_none hn]; simp
theorem Keeps.get (h : Keeps k l dm cm) {o : Ob} (ho : o ∈ l.obs) : getR l o.id = (textOf l.cks o.chunks, 0) := by
 unfold getR objOf
 rw [if_pos h.v, find_of (f := Ob.id) (valid_vl h.v).ids ho]
theorem class_used {l : Lt} (h : Vl l) {c : Ck} (hc : c ∈ l.cks) : ∃ o ∈ l.obs, o.cls = c.cls := by
 have h1 := (h.c.each c hc).2.2.2.2.2
 have h2 := h.u c hc
 obtain ⟨o, ho, hm⟩ := uses_pos.1 (by omega : 0 < usesOf l.obs c.id)
 obtain ⟨d, hd, e1, e2⟩ := (h.o o ho).2.2.2.1 _ hm
 have := pair_inj (f := Ck.id) h.c.ids hd hc e1
 subst this
 exact ⟨o, ho, e2.symm⟩
/-! ### what is forgotten -/
end C37
