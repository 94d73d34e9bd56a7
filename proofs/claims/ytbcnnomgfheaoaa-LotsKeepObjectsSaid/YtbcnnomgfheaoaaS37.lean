/-
 Layer 37 (chunk): what its functions return, in plain mathematics.
 Conditions: none; definitions and laws with no program in sight.
-/
namespace C37
abbrev Str := List UInt8
structure Ct where
 mn : Int
 mx : Int
 bits : Int
 deriving DecidableEq
structure Ck where
 id : Int
 cls : Str
 bytes : Str
 uses : Int
 deriving DecidableEq
structure Ob where
 id : Int
 cls : Str
 chunks : List Int
 deriving DecidableEq
structure Lt where
 next : Int
 cks : List Ck
 obs : List Ob
 deriving DecidableEq
def okC (c : Ct) : Prop := 1 ≤ c.mn ∧ c.mn ≤ c.mx ∧ c.mx ≤ 4096 ∧ 0 ≤ c.bits ∧ c.bits ≤ 8
instance (c : Ct) : Decidable (okC c) := by unfold okC; infer_instance
def checkC (c : Ct) : Int := if okC c then 0 else 3
/-! ### cutting -/
def atB (s : Str) (k : Int) : Int := if k < 0 then 0 else ((s[k.toNat]?).map fun b => ((b.toNat : Nat) : Int)).getD 0
def markB (s : Str) (k : Int) : Int := atB s k + 2 * atB s (k - 1) + 4 * atB s (k - 2) + 8 * atB s (k - 3)
def cutHere (c : Ct) (s : Str) (frm k : Nat) : Prop := (c.mn ≤ (k : Int) + 1 - frm ∧ markB s k % (2 ^ c.bits.toNat) = 0) ∨ (k : Int) + 1 - frm = c.mx ∨ k + 1 = s.length
instance (c : Ct) (s : Str) (frm k : Nat) : Decidable (cutHere c s frm k) := by unfold cutHere; infer_instance
def cutN (c : Ct) (s : Str) : Nat → Nat → Nat → List Str
 | 0, _, _ => []
 | n + 1, k, f => if cutHere c s f k then ((s.take (k + 1)).drop f) :: cutN c s n (k + 1) (k + 1) else cutN c s n (k + 1) f
def cutL (c : Ct) (s : Str) : List Str := cutN c s s.length 0 0
def cutR (c : Ct) (s : Str) : List Str × Int := if okC c then (if 65536 < s.length then ([], 2) else (cutL c s, 0)) else ([], 3)
theorem atB_bound (s : Str) (k : Int) : 0 ≤ atB s k ∧ atB s k ≤ 255 := by
 unfold atB
 split
 · omega
 · cases h : s[k.toNat]? with
   | none => simp
   | some b => have := b.toNat_lt; simp; omega
theorem atB_get (s : Str) {k : Nat} (h : k < s.length) : atB s k = (s[k].toNat : Int) := by
 unfold atB
 rw [if_neg (by omega)]
 simp [h]
theorem markB_bound (s : Str) (k : Int) : 0 ≤ markB s k ∧ markB s k ≤ 3825 := by
 have := atB_bound s k; have := atB_bound s (k - 1); have := atB_bound s (k - 2); have := atB_bound s (k - 3)
 unfold markB; omega
/-! ### lots -/
def usesOf (obs : List Ob) (id : Int) : Nat := (obs.map fun o => o.chunks.count id).sum
def bytesOf (cks : List Ck) (id : Int) : Str := ((cks.find? fun c => decide (c.id = id)).map (·.bytes)).getD []
def textsOf (cks : List Ck) (ids : List Int) : List Str := ids.map (bytesOf cks)
def textOf (cks : List Ck) (ids : List Int) : Str := (textsOf cks ids).flatten
def far : Int := 1099511627776
def okA (l : Lt) (k : Nat) : Prop := ∀ x, l.cks[k]? = some x →
 1 ≤ x.id ∧ x.id < l.next ∧ (∀ y, 0 < k → l.cks[k - 1]? = some y → y.id < x.id) ∧ 1 ≤ x.bytes.length ∧ x.bytes.length ≤ 4096 ∧ x.cls.length ≤ 65536 ∧
 (∀ i y, i < k → l.cks[i]? = some y → ¬ (y.cls = x.cls ∧ y.bytes = x.bytes)) ∧ 1 ≤ x.uses
def okU (l : Lt) (k : Nat) : Prop := ∀ x, l.cks[k]? = some x → x.uses = usesOf l.obs x.id
def okO (l : Lt) (k : Nat) : Prop := ∀ x, l.obs[k]? = some x →
 1 ≤ x.id ∧ x.id ≤ far ∧ (∀ y, 0 < k → l.obs[k - 1]? = some y → y.id < x.id) ∧ x.cls.length ≤ 65536 ∧
 (∀ i ∈ x.chunks, ∃ c ∈ l.cks, c.id = i ∧ c.cls = x.cls) ∧ (textOf l.cks x.chunks).length ≤ 65536
def validL (l : Lt) : Prop := (1 ≤ l.next ∧ l.next ≤ far ∧ l.cks.length ≤ 1000 ∧ l.obs.length ≤ 1000) ∧ (∀ k, okA l k) ∧ (∀ k, okU l k) ∧ (∀ k, okO l k)
theorem adj_pair {α : Type} {f : α → Int} {l : List α} (h : ∀ (k : Nat) (x y : α), 0 < k → l[k]? = some x → l[k - 1]? = some y → f y < f x) : l.Pairwise fun a b => f a < f b := by
 rw [List.pairwise_iff_getElem]
 intro i j hi hj hij
 obtain ⟨d, rfl⟩ : ∃ d, j = i + 1 + d := ⟨j - (i + 1), by omega⟩
 induction d with
 | zero =>
  exact h (i + 1) _ _ (by omega) (List.getElem?_eq_getElem hj) (by simp)
 | succ d ih =>
  have h1 := ih (by omega) (by omega)
  have hd : i + 1 + d < l.length := by omega
  have h2 := h (i + 1 + (d + 1)) l[i + 1 + (d + 1)] l[i + 1 + d] (by omega) (List.getElem?_eq_getElem hj) (by
   have e : i + 1 + (d + 1) - 1 = i + 1 + d := by omega
   rw [e]; exact List.getElem?_eq_getElem hd)
  omega
theorem pairA {l : Lt} (h : ∀ k, okA l k) : l.cks.Pairwise fun a b => a.id < b.id :=
 adj_pair (f := Ck.id) fun k x y hk hx hy => (h k x hx).2.2.1 y hk hy
theorem pairO {l : Lt} (h : ∀ k, okO l k) : l.obs.Pairwise fun a b => a.id < b.id :=
 adj_pair (f := Ob.id) fun k x y hk hx hy => (h k x hx).2.2.1 y hk hy
theorem pair_inj {α : Type} {f : α → Int} {l : List α} (h : l.Pairwise fun a b => f a < f b) {x y : α} (hx : x ∈ l) (hy : y ∈ l) (e : f x = f y) : x = y := by
 induction l with
 | nil => cases hx
 | cons a l ih =>
  rw [List.pairwise_cons] at h
  rcases List.mem_cons.1 hx with hx' | hx'
  · rcases List.mem_cons.1 hy with hy' | hy'
    · rw [hx', hy']
    · have := h.1 y hy'; rw [← hx', e] at this; omega
  · rcases List.mem_cons.1 hy with hy' | hy'
    · have := h.1 x hx'; rw [← hy', e] at this; omega
    · exact ih h.2 hx' hy'
theorem find_of {α : Type} {f : α → Int} {l : List α} (h : l.Pairwise fun a b => f a < f b) {x : α} (hx : x ∈ l) : l.find? (fun c => decide (f c = f x)) = some x := by
 cases hf : l.find? (fun c => decide (f c = f x)) with
 | none => have := List.find?_eq_none.1 hf x hx; simp at this
 | some y =>
  have h1 := List.find?_some hf
  have h2 := List.mem_of_find?_eq_some hf
  rw [pair_inj h h2 hx (by simpa using h1)]
def place (n : Int) (l : List Ob) : Nat := (l.takeWhile fun x => decide (x.id < n)).length
def known (n : Int) (l : List Ob) : Prop := ∃ x ∈ l, x.id = n
instance (n : Int) (l : List Ob) : Decidable (known n l) := by unfold known; infer_instance
def insO (x : Ob) (l : List Ob) : List Ob := l.take (place x.id l) ++ x :: l.drop (place x.id l)
theorem place_le (n : Int) (l : List Ob) : place n l ≤ l.length := by
 unfold place; exact (List.takeWhile_sublist _).length_le
theorem place_eq : ∀ {n : Int} {l : List Ob} {i : Nat}, i ≤ l.length → (∀ (m : Nat) (h : m < l.length), m < i → l[m].id < n) → (∀ (m : Nat) (h : m < l.length), i ≤ m → ¬ l[m].id < n) → place n l = i
 | n, [], i, hi, _, _ => by simp at hi; subst hi; rfl
 | n, f :: l, 0, hi, _, h2 => by
   have := h2 0 (by simp) (by omega)
   simp only [List.getElem_cons_zero] at this
   simp [place, List.takeWhile_cons, this]
 | n, f :: l, i + 1, hi, h1, h2 => by
   have h0 := h1 0 (by simp) (by omega)
   simp only [List.getElem_cons_zero] at h0
   have ih := place_eq (n := n) (l := l) (i := i) (by simpa using hi) (fun m h hm => by have := h1 (m + 1) (by simpa using h) (by omega); rwa [List.getElem_cons_succ] at this) (fun m h hm => by have := h2 (m + 1) (by simpa using h) (by omega); rwa [List.getElem_cons_succ] at this)
   unfold place at ih ⊢
   simp [List.takeWhile_cons, h0, ih]
theorem pair_get {l : List Ob} (h : l.Pairwise fun a b => a.id < b.id) {i j : Nat} (hj : j < l.length) (hij : i < j) : l[i].id < l[j].id := List.pairwise_iff_getElem.1 h i j (by omega) hj hij
def putC (cls : Str) (st : Int × List Ck) (s : Str) : (Int × List Ck) × Int :=
 match st.2.findIdx? (fun c => decide (c.cls = cls ∧ c.bytes = s)) with
 | some k => ((st.1, st.2.modify k fun c => { c with uses := c.uses + 1 }), ((st.2[k]?).map (·.id)).getD 0)
 | none => ((st.1 + 1, st.2 ++ [⟨st.1, cls, s, 1⟩]), st.1)
def putCs (cls : Str) : Int × List Ck → List Str → (Int × List Ck) × List Int
 | st, [] => (st, [])
 | st, s :: ss => ((putCs cls (putC cls st s).1 ss).1, (putC cls st s).2 :: (putCs cls (putC cls st s).1 ss).2)
def addL (l : Lt) (id : Int) (cls : Str) (parts : List Str) : Lt × Int :=
 let r := putCs cls (l.next, l.cks) parts
 let out : Lt := ⟨r.1.1, r.1.2, insO ⟨id, cls, r.2⟩ l.obs⟩
 if out.obs.length > 1000 ∨ out.cks.length > 1000 ∨ out.next > far then (⟨0, [], []⟩, 13) else (out, 0)
def without (l : Lt) (id : Int) : Lt × List Int :=
 let obs := l.obs.filter fun o => decide (o.id ≠ id)
 (⟨l.next, (l.cks.map fun c => { c with uses := (usesOf obs c.id : Int) }).filter (fun c => decide (0 < c.uses)), obs⟩, (l.cks.filter fun c => decide (usesOf obs c.id = 0)).map (·.id))
def objOf (l : Lt) (id : Int) : Option Ob := l.obs.find? fun o => decide (o.id = id)
open Classical in
noncomputable def getR (l : Lt) (id : Int) : Str × Int := if validL l then (match objOf l id with | some o => (textOf l.cks o.chunks, 0) | none => ([], 8)) else ([], 1)
open Classical in
noncomputable def putR (l : Lt) (c : Ct) (id : Int) (cls data : Str) : Lt × Int :=
 if validL l then
  (if (cutR c data).2 ≠ 0 then (⟨0, [], []⟩, (cutR c data).2) else
    if id < 1 ∨ id > far ∨ cls.length > 65536 then (⟨0, [], []⟩, 1) else if known id l.obs then (⟨0, [], []⟩, 9) else addL l id cls (cutR c data).1)
 else (⟨0, [], []⟩, 1)
open Classical in
noncomputable def dropR (l : Lt) (id : Int) : Lt × List Int × Int :=
 if validL l then (match objOf l id with | some _ => ((without l id).1, (without l id).2, 0) | none => (⟨0, [], []⟩, [], 8)) else (⟨0, [], []⟩, [], 1)
open Classical in
noncomputable def moveR (l : Lt) (id : Int) (cls : Str) : Lt × List Int × Int :=
 if validL l then
  (match objOf l id with
  | none => (⟨0, [], []⟩, [], 8)
  | some o => if cls.length > 65536 then (⟨0, [], []⟩, [], 1) else if o.cls = cls then (l, [], 0) else
    let r := addL (without l id).1 id cls (textsOf l.cks o.chunks)
    if r.2 ≠ 0 then (⟨0, [], []⟩, [], r.2) else (r.1, (without l id).2, 0))
 else (⟨0, [], []⟩, [], 1)
end C37
/-
 Layer 37 (chunk): laws about lots.
 Conditions: none; laws with no program in sight.
-/
namespace C37
def smallL (l : Lt) : Prop := l.cks.length ≤ 2000 ∧ l.obs.length ≤ 2000 ∧ ∀ o ∈ l.obs, o.chunks.length ≤ 100000
theorem usesOf_succ {obs : List Ob} {k : Nat} (h : k < obs.length) (id : Int) : usesOf (obs.take (k + 1)) id = usesOf (obs.take k) id + obs[k].chunks.count id := by
 unfold usesOf; rw [List.take_succ_eq_append_getElem h, List.map_append, List.sum_append]; simp
theorem usesOf_le {l : Lt} (h : smallL l) (id : Int) : ∀ k, usesOf (l.obs.take k) id ≤ k * 100000
 | 0 => by simp [usesOf]
 | k + 1 => by
   have ih := usesOf_le h id k
   by_cases hk : k < l.obs.length
   · rw [usesOf_succ hk]
     have h1 := h.2.2 _ (List.getElem_mem hk)
     have h2 : l.obs[k].chunks.count id ≤ l.obs[k].chunks.length := List.count_le_length
     omega
   · have e1 : l.obs.take (k + 1) = l.obs := List.take_of_length_le (by omega)
     have e2 : l.obs.take k = l.obs := List.take_of_length_le (by omega)
     rw [e1]; rw [e2] at ih
     have : k * 100000 ≤ (k + 1) * 100000 := Nat.mul_le_mul_right _ (by omega)
     exact Nat.le_trans ih this
theorem usesOf_all {l : Lt} (h : smallL l) (id : Int) : usesOf l.obs id ≤ 200000000 := by
 have := usesOf_le h id l.obs.length
 rw [List.take_length] at this
 have := h.2.1; omega
theorem count_succ {l : List Int} {k : Nat} (h : k < l.length) (a : Int) : (l.take (k + 1)).count a = (l.take k).count a + if l[k] = a then 1 else 0 := by
 rw [List.take_succ_eq_append_getElem h, List.count_append]
 by_cases e : l[k] = a <;> simp [e]
theorem textOf_succ {cks : List Ck} {ids : List Int} {k : Nat} (h : k < ids.length) : textOf cks (ids.take (k + 1)) = textOf cks (ids.take k) ++ bytesOf cks ids[k] := by
 unfold textOf textsOf; rw [List.take_succ_eq_append_getElem h, List.map_append, List.flatten_append]; simp
theorem textOf_take_le (cks : List Ck) (ids : List Int) (k : Nat) : (textOf cks (ids.take k)).length ≤ (textOf cks ids).length := by
 have : textOf cks ids = textOf cks (ids.take k) ++ textOf cks (ids.drop k) := by
  unfold textOf textsOf; rw [← List.flatten_append, ← List.map_append, List.take_append_drop]
 rw [this, List.length_append]; omega
theorem okA_get {l : Lt} {k : Nat} (hk : k < l.cks.length) : okA l k ↔ (1 ≤ l.cks[k].id ∧ l.cks[k].id < l.next ∧ (∀ h : 0 < k, l.cks[k - 1].id < l.cks[k].id) ∧ 1 ≤ l.cks[k].bytes.length ∧ l.cks[k].bytes.length ≤ 4096 ∧ l.cks[k].cls.length ≤ 65536 ∧
 (∀ i (hi : i < k), ¬ (l.cks[i].cls = l.cks[k].cls ∧ l.cks[i].bytes = l.cks[k].bytes)) ∧ 1 ≤ l.cks[k].uses) := by
 have e := List.getElem?_eq_getElem hk
 constructor
 · intro h
   obtain ⟨h1, h2, h3, h4, h5, h6, h7, h8⟩ := h _ e
   exact ⟨h1, h2, fun h0 => h3 _ h0 (List.getElem?_eq_getElem (by omega)), h4, h5, h6, fun i hi => h7 i _ hi (List.getElem?_eq_getElem (by omega)), h8⟩
 · rintro ⟨h1, h2, h3, h4, h5, h6, h7, h8⟩ x hx
   rw [e] at hx; cases hx
   refine ⟨h1, h2, fun y h0 hy => ?_, h4, h5, h6, fun i y hi hy => ?_, h8⟩
   · rw [List.getElem?_eq_getElem (by omega)] at hy; cases hy; exact h3 h0
   · rw [List.getElem?_eq_getElem (by omega)] at hy; cases hy; exact h7 i hi
theorem okU_get {l : Lt} {k : Nat} (hk : k < l.cks.length) : okU l k ↔ l.cks[k].uses = usesOf l.obs l.cks[k].id := by
 have e := List.getElem?_eq_getElem hk
 exact ⟨fun h => h _ e, fun h x hx => by rw [e] at hx; cases hx; exact h⟩
theorem okO_get {l : Lt} {k : Nat} (hk : k < l.obs.length) : okO l k ↔ (1 ≤ l.obs[k].id ∧ l.obs[k].id ≤ far ∧ (∀ h : 0 < k, l.obs[k - 1].id < l.obs[k].id) ∧ l.obs[k].cls.length ≤ 65536 ∧
 (∀ i ∈ l.obs[k].chunks, ∃ c ∈ l.cks, c.id = i ∧ c.cls = l.obs[k].cls) ∧ (textOf l.cks l.obs[k].chunks).length ≤ 65536) := by
 have e := List.getElem?_eq_getElem hk
 constructor
 · intro h
   obtain ⟨h1, h2, h3, h4, h5, h6⟩ := h _ e
   exact ⟨h1, h2, fun h0 => h3 _ h0 (List.getElem?_eq_getElem (by omega)), h4, h5, h6⟩
 · rintro ⟨h1, h2, h3, h4, h5, h6⟩ x hx
   rw [e] at hx; cases hx
   refine ⟨h1, h2, fun y h0 hy => ?_, h4, h5, h6⟩
   rw [List.getElem?_eq_getElem (by omega)] at hy; cases hy; exact h3 h0
theorem okA_out {l : Lt} {k : Nat} (hk : l.cks.length ≤ k) : okA l k := fun x hx => by rw [List.getElem?_eq_none hk] at hx; cases hx
theorem okU_out {l : Lt} {k : Nat} (hk : l.cks.length ≤ k) : okU l k := fun x hx => by rw [List.getElem?_eq_none hk] at hx; cases hx
theorem okO_out {l : Lt} {k : Nat} (hk : l.obs.length ≤ k) : okO l k := fun x hx => by rw [List.getElem?_eq_none hk] at hx; cases hx
end C37
/-
 Layer 37 (chunk): laws about adding chunks.
 Conditions: none; laws with no program in sight.
-/
namespace C37
theorem putCs_snoc (cls : Str) : ∀ (st : Int × List Ck) (ss : List Str) (s : Str), putCs cls st (ss ++ [s]) = ((putC cls (putCs cls st ss).1 s).1, (putCs cls st ss).2 ++ [(putC cls (putCs cls st ss).1 s).2])
 | st, [], s => by simp [putCs]
 | st, q :: ss, s => by
   simp only [List.cons_append, putCs]
   rw [putCs_snoc cls _ ss s]
def nameAt (l : List Ck) (cls s : Str) : Option Nat := l.findIdx? fun c => decide (c.cls = cls ∧ c.bytes = s)
def NameD (l : List Ck) : Prop := l.Pairwise fun a b => ¬ (a.cls = b.cls ∧ a.bytes = b.bytes)
theorem nameD_of {l : Lt} (h : ∀ k, okA l k) : NameD l.cks := by
 unfold NameD
 rw [List.pairwise_iff_getElem]
 intro i j hi hj hij
 exact ((okA_get hj).1 (h j)).2.2.2.2.2.2.1 i hij
theorem nameAt_snoc (l : List Ck) (c : Ck) (cls s : Str) : nameAt (l ++ [c]) cls s = (nameAt l cls s).or (if c.cls = cls ∧ c.bytes = s then some l.length else none) := by
 unfold nameAt
 rw [List.findIdx?_append]
 congr 1
 by_cases h : c.cls = cls ∧ c.bytes = s <;> simp [List.findIdx?_cons, h]
theorem nameAt_some {l : List Ck} {cls s : Str} {k : Nat} (h : nameAt l cls s = some k) : ∃ hk : k < l.length, l[k].cls = cls ∧ l[k].bytes = s := by
 obtain ⟨hk, h1, _⟩ := List.findIdx?_eq_some_iff_getElem.1 h
 exact ⟨hk, by simpa using h1⟩
theorem nameAt_none {l : List Ck} {cls s : Str} (h : nameAt l cls s = none) : ∀ c ∈ l, ¬ (c.cls = cls ∧ c.bytes = s) := fun c hc => by
 have := List.findIdx?_eq_none_iff.1 h c hc
 simpa using this
theorem nameAt_take_succ {l : List Ck} (hd : NameD l) {k : Nat} (hk : k < l.length) (cls s : Str) : nameAt (l.take (k + 1)) cls s = if (cls, s) = (l[k].cls, l[k].bytes) then some k else nameAt (l.take k) cls s := by
 rw [List.take_succ_eq_append_getElem hk, nameAt_snoc, List.length_take_of_le (by omega)]
 by_cases e : l[k].cls = cls ∧ l[k].bytes = s
 · have hn : nameAt (l.take k) cls s = none := by
    unfold nameAt
    rw [List.findIdx?_eq_none_iff]
    intro x hx
    obtain ⟨j, hj, rfl⟩ := List.getElem_of_mem hx
    rw [List.length_take] at hj
    rw [List.getElem_take]
    have := List.pairwise_iff_getElem.1 hd j k (by omega) hk (by omega)
    simp only [decide_eq_false_iff_not]
    rintro ⟨h1, h2⟩
    exact this ⟨by rw [h1, e.1], by rw [h2, e.2]⟩
   rw [hn, if_pos e, if_pos (by rw [e.1, e.2])]; rfl
 · rw [if_neg e, if_neg (fun h => e (by simp only [Prod.mk.injEq] at h; exact ⟨h.1.symm, h.2.symm⟩))]
   cases nameAt (l.take k) cls s <;> rfl
theorem nameAt_modify (l : List Ck) (k : Nat) (f : Ck → Ck) (hf : ∀ c, (f c).cls = c.cls ∧ (f c).bytes = c.bytes) (cls s : Str) : nameAt (l.modify k f) cls s = nameAt l cls s := by
 unfold nameAt
 induction l generalizing k with
 | nil => rw [List.modify_nil]
 | cons c l ih =>
  cases k with
  | zero => simp only [List.modify_zero_cons, List.findIdx?_cons, (hf c).1, (hf c).2]
  | succ k => simp only [List.modify_succ_cons, List.findIdx?_cons, ih]
theorem putC_some {cls : Str} {st : Int × List Ck} {s : Str} {k : Nat} (h : nameAt st.2 cls s = some k) : putC cls st s = ((st.1, st.2.modify k fun c => { c with uses := c.uses + 1 }), ((st.2[k]?).map (·.id)).getD 0) := by
 unfold putC; unfold nameAt at h; rw [h]
theorem putC_none {cls : Str} {st : Int × List Ck} {s : Str} (h : nameAt st.2 cls s = none) : putC cls st s = ((st.1 + 1, st.2 ++ [⟨st.1, cls, s, 1⟩]), st.1) := by
 unfold putC; unfold nameAt at h; rw [h]
end C37
/-
 Layer 37 (chunk): laws about taking an object away.
 Conditions: none; laws with no program in sight.
-/
namespace C37
theorem erase_filter : ∀ {l : List Ob}, (l.Pairwise fun a b => a.id < b.id) → ∀ {k : Nat} (hk : k < l.length), l.filter (fun o => decide (o.id ≠ l[k].id)) = l.eraseIdx k
 | [], _, k, hk => by simp at hk
 | a :: l, h, 0, hk => by
   rw [List.pairwise_cons] at h
   simp only [List.getElem_cons_zero, List.eraseIdx_cons_zero]
   rw [List.filter_cons_of_neg (by simp)]
   rw [List.filter_eq_self]
   intro x hx
   have := h.1 x hx
   simp; omega
 | a :: l, h, k + 1, hk => by
   rw [List.pairwise_cons] at h
   simp only [List.getElem_cons_succ, List.eraseIdx_cons_succ]
   have hk' : k < l.length := by simpa using hk
   have := h.1 _ (List.getElem_mem hk')
   rw [List.filter_cons_of_pos (by simp; omega), erase_filter h.2 hk']
theorem usesOf_erase : ∀ {l : List Ob} {k : Nat} (hk : k < l.length) (c : Int), usesOf (l.eraseIdx k) c + l[k].chunks.count c = usesOf l c
 | [], k, hk, c => by simp at hk
 | a :: l, 0, hk, c => by simp [usesOf]; omega
 | a :: l, k + 1, hk, c => by
   have hk' : k < l.length := by simpa using hk
   have ih := usesOf_erase hk' c
   simp only [usesOf, List.eraseIdx_cons_succ, List.map_cons, List.sum_cons, List.getElem_cons_succ] at ih ⊢
   omega
def keepC (obs : List Ob) (l : List Ck) : List Ck := (l.map fun c => { c with uses := (usesOf obs c.id : Int) }).filter fun c => decide (0 < c.uses)
def goneC (obs : List Ob) (l : List Ck) : List Int := (l.filter fun c => decide (usesOf obs c.id = 0)).map (·.id)
theorem without_eq {l : Lt} (h : l.obs.Pairwise fun a b => a.id < b.id) {k : Nat} (hk : k < l.obs.length) : without l l.obs[k].id = (⟨l.next, keepC (l.obs.eraseIdx k) l.cks, l.obs.eraseIdx k⟩, goneC (l.obs.eraseIdx k) l.cks) := by
 unfold without
 rw [erase_filter h hk]; rfl
theorem keepC_snoc {obs : List Ob} {l : List Ck} {k : Nat} (hk : k < l.length) : keepC obs (l.take (k + 1)) = if 0 < usesOf obs l[k].id then keepC obs (l.take k) ++ [{ l[k] with uses := (usesOf obs l[k].id : Int) }] else keepC obs (l.take k) := by
 unfold keepC
 rw [List.take_succ_eq_append_getElem hk, List.map_append, List.filter_append]
 by_cases h : 0 < usesOf obs l[k].id
 · rw [if_pos h]; simp [h]
 · rw [if_neg h]; simp [h]
theorem goneC_snoc {obs : List Ob} {l : List Ck} {k : Nat} (hk : k < l.length) : goneC obs (l.take (k + 1)) = if 0 < usesOf obs l[k].id then goneC obs (l.take k) else goneC obs (l.take k) ++ [l[k].id] := by
 unfold goneC
 rw [List.take_succ_eq_append_getElem hk, List.filter_append, List.map_append]
 by_cases h : 0 < usesOf obs l[k].id
 · have h' : ¬ usesOf obs l[k].id = 0 := by omega
   rw [if_pos h]; simp [h']
 · have h' : usesOf obs l[k].id = 0 := by omega
   rw [if_neg h]; simp [h']
theorem keepC_len (obs : List Ob) (l : List Ck) : (keepC obs l).length ≤ l.length := by
 unfold keepC; exact Nat.le_trans (List.length_filter_le _ _) (by simp)
theorem bytesOf_mem {l : Lt} (hp : l.cks.Pairwise fun a b => a.id < b.id) {c : Ck} (hc : c ∈ l.cks) : bytesOf l.cks c.id = c.bytes := by
 unfold bytesOf; rw [find_of (f := Ck.id) hp hc]; rfl
theorem textOf_cons (cks : List Ck) (i : Int) (ids : List Int) : textOf cks (i :: ids) = bytesOf cks i ++ textOf cks ids := by
 simp [textOf, textsOf]
theorem ids_le {l : Lt} (hA : ∀ k, okA l k) : ∀ {ids : List Int}, (∀ i ∈ ids, ∃ c ∈ l.cks, c.id = i) → ids.length ≤ (textOf l.cks ids).length
 | [], _ => by simp
 | i :: ids, h => by
   have ih := ids_le hA (ids := ids) fun j hj => h j (List.mem_cons_of_mem _ hj)
   obtain ⟨c, hc, rfl⟩ := h i List.mem_cons_self
   rw [textOf_cons, bytesOf_mem (pairA hA) hc, List.length_append, List.length_cons]
   obtain ⟨k, hk, rfl⟩ := List.getElem_of_mem hc
   have := ((okA_get hk).1 (hA k)).2.2.2.1
   omega
end C37
