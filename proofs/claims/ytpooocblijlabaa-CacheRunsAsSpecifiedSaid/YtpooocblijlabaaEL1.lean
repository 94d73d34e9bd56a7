/-
  What the arguments read as, and how a contract becomes the statement of a law.
  Conditions: none; definitions and laws.
-/
import Derived.Test.YtpooocblijlabaaEN7
import Derived.JoinedOf
import Derived.Handed
import Derived.ChangeSame
import Derived.ChangeArms
import Derived.OpenShut
import Derived.DataShut
namespace Go.E2
open Go.ChangeShapes Go.WideShapes
/-- The cells of old memory. -/
def stb (w : World) : Stb := fun ad => if ad.spot = none then w.cell? ad else none
def Keep (w w' : World) : Prop := ∀ b, b < w.heap.size → w'.heap[b]? = w.heap[b]?
theorem Keep.cell {w w' : World} (h : Keep w w') {a : Addr} {v : Value} (hv : w.cell? a = some v) : w'.cell? a = some v := by
  have hb : a.block < w.heap.size := by
    refine Nat.lt_of_not_le fun hc => ?_
    rw [cell_none_of_size hc] at hv; cases hv
  simpa [World.cell?, h _ hb] using hv
theorem Keep.cells {w w' : World} (h : Keep w w') {base : Nat} {a : Addr} {n : Nat} {cs : List Value} (hc : w.cells? base a n = some cs) : w'.cells? base a n = some cs := by
  unfold World.cells? at hc ⊢
  split at hc
  · rename_i hb
    rw [if_pos hb]
    refine mapM_some_of_get _ _ (mapM_some_length hc) fun i x hx => ?_
    have hlt : i < cs.length := by rw [mapM_some_length hc]; exact (List.getElem?_eq_some_iff.1 hx).1
    have := mapM_some_get hc i x hx
    rw [List.getElem?_eq_getElem hlt] at this ⊢
    exact h.cell this
  · cases hc
theorem add_none {a : Addr} (h : a.spot = none) (n : Nat) : a.add n = ⟨a.block, a.off + n, none⟩ := by
  obtain ⟨ab, ao, asp⟩ := a
  simp only at h
  subst h
  unfold Addr.add
  by_cases hn : n = 0
  · subst hn; rfl
  · rw [if_neg hn]
def NoSpot (cs : List Value) : Prop := ∀ (a : Addr) (l c : Nat), Value.slice (some a) l c ∈ cs → a.spot = none
/-- What the values of a type read as: one of which 'R' holds. 's': it must be known that the slices among the cells have places. -/
def Reads (P : Program) (t : TypeId) (s : Bool) (R : D → Prop) : Prop :=
  ∀ {H : Type} (enc : TypeId × Value → H) (w : World) (fuel : Nat) (cs : List Value) (x : DataW H × List MemPlace), (s = true → NoSpot cs) → DataW.trod enc P w 0 (fun _ => true) true fuel t cs = some x →
  ∃ d, R d ∧ sizeOk cs.length d = true ∧ VRDs (stb w) d.cells cs ∧ ∀ (w' : World) (sp : Nat → Bool), Keep w w' → (∀ p ∈ x.2, sp p.block = true) → DataW.trod enc P w' 0 sp true fuel t cs = some x
theorem vrds_one {S : Stb} {d : D} {v : Value} (h : VRD S d v) (h1 : d.one = true) : VRDs S d.cells [v] := by
  have e : d.cells = [d] := by cases d <;> simp [D.one, D.cells] at h1 ⊢
  rw [e]
  refine ⟨rfl, fun j x u a b => ?_⟩
  cases j with
  | zero => simp at a b; subst a; subst b; exact h
  | succ j => simp at a
theorem sizeOk_1 {d : D} (h1 : d.one = true) : sizeOk 1 d = true := by cases d <;> simp [sizeOk, D.cells, D.one] at h1 ⊢
section
variable {P : Program} {t : TypeId}
theorem reads_int {k : IntKind} (ht : P.underlying t = some (.int k)) : Reads P t false fun d => ∃ n, (Lit.int k n).wf = true ∧ d = .int k n := by
  intro H enc w fuel cs x _ h
  obtain ⟨n, rfl, rfl, hw⟩ := DataW.trod_int ht h
  refine ⟨.int k n, ⟨n, hw, rfl⟩, rfl, vrds_one (.int k n) rfl, fun w' sp _ _ => ?_⟩
  cases fuel with
  | zero => simp [DataW.trod] at h
  | succ m => simp [DataW.trod, ht, hw]
theorem reads_bool (ht : P.underlying t = some .bool) : Reads P t false fun d => ∃ b, d = .bool b := by
  intro H enc w fuel cs x _ h
  obtain ⟨b, rfl, rfl⟩ := DataW.trod_bool ht h
  refine ⟨.bool b, ⟨b, rfl⟩, rfl, vrds_one (.bool b) rfl, fun w' sp _ _ => ?_⟩
  cases fuel with
  | zero => simp [DataW.trod] at h
  | succ m => simp [DataW.trod, ht]
theorem reads_string (ht : P.underlying t = some .string) : Reads P t false fun d => ∃ s : List UInt8, s.length ≤ maxLen ∧ d = .str s := by
  intro H enc w fuel cs x _ h
  obtain ⟨s, rfl, rfl, hs⟩ := DataW.trod_string ht h
  refine ⟨.str s.data.toList, ⟨s.data.toList, by simpa using hs, rfl⟩, rfl, vrds_one (.str s _ rfl) rfl, fun w' sp _ _ => ?_⟩
  cases fuel with
  | zero => simp [DataW.trod] at h
  | succ m => simp [DataW.trod, ht, hs]
theorem vrds_append {S : Stb} {xs xs' : List D} {vs vs' : List Value} (h : VRDs S xs vs) (h' : VRDs S xs' vs') : VRDs S (xs ++ xs') (vs ++ vs') := by
  refine ⟨by simp [h.1, h'.1], fun j x v a b => ?_⟩
  by_cases hj : j < xs.length
  · rw [List.getElem?_append_left hj] at a
    rw [List.getElem?_append_left (by rw [h.1]; exact hj)] at b
    exact h.2 j x v a b
  · rw [List.getElem?_append_right (by omega)] at a
    rw [List.getElem?_append_right (by rw [h.1]; omega), h.1] at b
    exact h'.2 _ x v a b
theorem reads_slice {e : TypeId} {sz : Nat} {R : D → Prop} (ht : P.underlying t = some (.slice e)) (hc : P.cellsOf e = sz) (hpos : 0 < sz) (he : Reads P e false R) :
    Reads P t true fun d => ∃ es : List D, (∀ x ∈ es, R x) ∧ es.length ≤ maxLen ∧ es.all (sizeOk sz) = true ∧ d = .list es := by
  intro H enc w fuel cs x hns h
  rcases DataW.trod_slice ht h with ⟨rfl, rfl⟩ | ⟨a, len, cap, elems, rest, n, rfl, rfl, rfl, hb, hl, hm, hlen, hel, hsp, _⟩
  · refine ⟨.list [], ⟨[], fun x hx => (by cases hx), Nat.zero_le _, rfl, rfl⟩, rfl, vrds_one .nilL rfl, fun w' sp _ _ => ?_⟩
    cases fuel with
    | zero => simp [DataW.trod] at h
    | succ m => simp [DataW.trod, ht]
  · obtain ⟨hrl, hre⟩ := hsp rfl
    rw [hc] at hel hre ⊢
    have hspot := hns rfl a len cap (by simp)
    -- the elements, one after the other
    have build : ∀ m, m ≤ len → ∃ (es : List D) (c : List Value), es.length = m ∧ (∀ x ∈ es, R x) ∧ es.all (sizeOk sz) = true ∧ c.length = m * sz ∧ VRDs (stb w) (flat es) c ∧
        (∀ j v, c[j]? = some v → w.cell? ⟨a.block, a.off + j, none⟩ = some v) := by
      intro m
      induction m with
      | zero => exact fun _ => ⟨[], [], rfl, fun x hx => (by cases hx), rfl, (by simp), ⟨rfl, fun j x v h => (by simp [flat] at h)⟩, fun j v h => (by simp at h)⟩
      | succ m ih =>
        intro hm
        obtain ⟨es, c, h1, h2, h3, h4, h5, h6⟩ := ih (by omega)
        have hi := hel m (by omega)
        rw [List.getElem?_eq_getElem (by omega)] at hi
        obtain ⟨cs', hcs, htr⟩ := Option.bind_eq_some_iff.1 hi
        obtain ⟨_, hcl, hcc⟩ := World.cells?_some hcs
        obtain ⟨d, hR, hso, hv, _⟩ := he enc w n cs' _ (fun h => by cases h) htr
        rw [hcl] at hso
        refine ⟨es ++ [d], c ++ cs', by simp [h1], fun x hx => ?_, by rw [List.all_append, h3]; simp [hso], by rw [List.length_append, h4, hcl, Nat.succ_mul], ?_, fun j v hj => ?_⟩
        · rcases List.mem_append.1 hx with h | h
          · exact h2 x h
          · obtain rfl := List.mem_singleton.1 h; exact hR
        · have : flat (es ++ [d]) = flat es ++ d.cells := by rw [flat_append]; simp [flat]
          rw [this]
          exact vrds_append h5 hv
        · by_cases hlt : j < c.length
          · rw [List.getElem?_append_left hlt] at hj; exact h6 j v hj
          · rw [List.getElem?_append_right (by omega)] at hj
            have hj2 : j - c.length < sz := by rw [← hcl]; exact (List.getElem?_eq_some_iff.1 hj).1
            have := hcc (j - c.length) hj2
            rw [hj] at this
            rw [← this]
            rw [add_none hspot, add_none rfl]
            have e : a.off + j = a.off + m * sz + (j - c.length) := by rw [h4] at hlt ⊢; omega
            rw [e]
    obtain ⟨es, c, h1, h2, h3, h4, h5, h6⟩ := build len (Nat.le_refl _)
    subst h1
    refine ⟨.list es, ⟨es, h2, by omega, h3, rfl⟩, rfl, vrds_one (VRD.list sz es a cap c hspot hl h3 h5.1 (fun j v hj => by simp only [stb, if_true]; exact h6 j v hj) h5.2) rfl, fun w' sp hk hp => ?_⟩
    have keepE : ∀ (i : Nat) (y : DataW H × List MemPlace), (w.cells? 0 (a.add (i * sz)) sz).bind (DataW.trod enc P w 0 (fun _ => true) true n e) = some y → (∀ p ∈ y.2, sp p.block = true) →
        (w'.cells? 0 (a.add (i * sz)) sz).bind (DataW.trod enc P w' 0 sp true n e) = some y := fun i y hy hpy => by
      obtain ⟨cs', hcs, htr⟩ := Option.bind_eq_some_iff.1 hy
      obtain ⟨_, _, _, _, hkeep⟩ := he enc w n cs' y (fun h => by cases h) htr
      exact Option.bind_eq_some_iff.2 ⟨cs', hk.cells hcs, hkeep w' sp hk hpy⟩
    have hpm : ∀ y ∈ elems ++ rest, ∀ p ∈ y.2, sp p.block = true := fun y hy p hpy => hp p (by
      simp only [List.mem_append, List.mem_flatMap]
      exact .inr ⟨y, by simpa using hy, hpy⟩)
    have hE : (List.range es.length).mapM (fun i => (w'.cells? 0 (a.add (i * sz)) sz).bind (DataW.trod enc P w' 0 sp true n e)) = some elems := by
      refine mapM_some_of_get _ _ (by simpa using hlen) fun i x hx => ?_
      obtain ⟨hi', rfl⟩ := List.getElem?_eq_some_iff.1 hx
      have hi : i < es.length := by simpa using hi'
      rw [List.getElem_range]
      have hy := hel i hi
      rw [List.getElem?_eq_getElem (by omega)] at hy ⊢
      exact keepE i _ hy (hpm _ (List.mem_append_left _ (List.getElem_mem _)))
    have hR : (if sp a.block = true then (List.range (cap - es.length)).mapM (fun j => (w'.cells? 0 (a.add ((es.length + j) * sz)) sz).bind (DataW.trod enc P w' 0 sp true n e)) else some []) = some rest := by
      by_cases hsa : sp a.block = true
      · rw [if_pos hsa]
        refine mapM_some_of_get _ _ (by simpa using hrl) fun i x hx => ?_
        obtain ⟨hi', rfl⟩ := List.getElem?_eq_some_iff.1 hx
        have hi : i < cap - es.length := by simpa using hi'
        rw [List.getElem_range]
        have hy := hre i hi
        rw [List.getElem?_eq_getElem (by omega)] at hy ⊢
        exact keepE _ _ hy (hpm _ (List.mem_append_right _ (List.getElem_mem _)))
      · rw [if_neg hsa]
        have hr0 : rest = [] := by
          refine Classical.byContradiction fun hne => hsa ?_
          have hrp : 0 < rest.length := List.length_pos_iff.2 hne
          refine hp (.cell a.block (a.off + 0)) ?_
          refine List.mem_append_left _ ?_
          simp only [MemPlace.row, List.mem_map, List.mem_range]
          exact ⟨0, Nat.mul_pos (by omega) hpos, rfl⟩
        rw [hr0]
    have hcond : 0 ≤ a.block ∧ es.length ≤ cap ∧ cap ≤ maxLen := ⟨hb, hl, hm⟩
    simp only [DataW.trod, ht, hc, if_pos hcond, hE, hR, Option.bind_some, Option.map_some]
def Parts : List (D → Prop) → List D → Prop
  | [], [] => True
  | R :: Rs, d :: ds => R d ∧ Parts Rs ds
  | _, _ => False
def sizes (P : Program) (fl : List Field) : Nat := (fl.map fun f => P.cellsOf f.type).sum
/-- The fields of a struct, one behind the other. -/
def Lay (P : Program) (s : Bool) : Nat → List Field → List (D → Prop) → Prop
  | _, [], [] => True
  | off, f :: fl, R :: Rs => f.offset = off ∧ Reads P f.type s R ∧ Lay P s (off + P.cellsOf f.type) fl Rs
  | _, _, _ => False
theorem lay_read {s : Bool} {H : Type} (enc : TypeId × Value → H) (w : World) (n : Nat) (cs : List Value) (hns : s = true → NoSpot cs) : ∀ (fl : List Field) (Rs : List (D → Prop)) (off : Nat) (xs : List (DataW H × List MemPlace)), Lay P s off fl Rs → off + sizes P fl ≤ cs.length → xs.length = fl.length →
    (∀ (i : Nat) (f : Field), fl[i]? = some f → DataW.trod enc P w 0 (fun _ => true) true n f.type ((cs.drop f.offset).take (P.cellsOf f.type)) = xs[i]?) →
    ∃ parts, Parts Rs parts ∧ VRDs (stb w) (flat parts) ((cs.drop off).take (sizes P fl)) ∧ (flat parts).all D.one = true ∧ (flat parts).length = sizes P fl ∧
      ∀ (w' : World) (sp : Nat → Bool), Keep w w' → (∀ y ∈ xs, ∀ p ∈ y.2, sp p.block = true) → ∀ (i : Nat) (f : Field), fl[i]? = some f → DataW.trod enc P w' 0 sp true n f.type ((cs.drop f.offset).take (P.cellsOf f.type)) = xs[i]?
  | [], [], off, xs, _, _, _, _ => ⟨[], trivial, ⟨by simp [sizes, flat], fun j x v h => by simp [flat] at h⟩, rfl, rfl, fun _ _ _ _ i f h => by simp at h⟩
  | f :: fl, R :: Rs, off, xs, hl, hle, hxs, hx => by
    obtain ⟨rfl, hr, hl⟩ := hl
    have hsz : sizes P (f :: fl) = P.cellsOf f.type + sizes P fl := rfl
    match xs, hxs with
    | y :: ys, hxs =>
      have h0 := hx 0 f rfl
      have h0 : DataW.trod enc P w 0 (fun _ => true) true n f.type ((cs.drop f.offset).take (P.cellsOf f.type)) = some y := h0
      have hlen : ((cs.drop f.offset).take (P.cellsOf f.type)).length = P.cellsOf f.type := by rw [List.length_take, List.length_drop]; omega
      obtain ⟨d, hR, hso, hv, hk⟩ := hr enc w n _ y (fun h a l c hm => hns h a l c (List.mem_of_mem_drop (List.mem_of_mem_take hm))) h0
      rw [hlen] at hso
      obtain ⟨parts, q1, q2, q3, q4, q5⟩ := lay_read enc w n cs hns fl Rs (f.offset + P.cellsOf f.type) ys hl (by omega) (by simpa using hxs) (fun i g hg => by
        have := hx (i + 1) g (by simpa using hg)
        simpa using this)
      have hd : d.cells.length = P.cellsOf f.type := by simp only [sizeOk, Bool.and_eq_true, beq_iff_eq] at hso; exact hso.1
      refine ⟨d :: parts, ⟨hR, q1⟩, ?_, ?_, ?_, fun w' sp hkk hp i g hg => ?_⟩
      · rw [flat_cons, hsz, List.take_add, List.drop_drop]
        exact vrds_append hv q2
      · rw [flat_cons, List.all_append, q3, sizeOk_one hso]; rfl
      · rw [flat_cons, List.length_append, hd, q4, hsz]
      · cases i with
        | zero =>
          simp at hg
          subst hg
          exact hk w' sp hkk (hp y List.mem_cons_self)
        | succ i =>
          have := q5 w' sp hkk (fun z hz => hp z (List.mem_cons_of_mem _ hz)) i g (by simpa using hg)
          simpa using this
  | [], _ :: _, _, _, hl, _, _, _ => hl.elim
  | _ :: _, [], _, _, hl, _, _, _ => hl.elim
theorem reads_struct {s : Bool} {fs : Array Field} {Rs : List (D → Prop)} (ht : P.underlying t = some (.struct fs)) (hl : Lay P s 0 fs.toList Rs) (hn : sizes P fs.toList = P.cellsOf t) :
    Reads P t s fun d => ∃ parts, Parts Rs parts ∧ d = .agg (flat parts) := by
  intro H enc w fuel cs x hns h
  obtain ⟨xs, n, rfl, rfl, hcl, hxl, hf⟩ := DataW.trod_struct ht h
  obtain ⟨parts, q1, q2, q3, q4, q5⟩ := lay_read enc w n cs hns fs.toList Rs 0 xs hl (by omega) (by simpa using hxl) (fun i f hi => hf i f (by simpa using hi))
  rw [hn, List.drop_zero, List.take_of_length_le (by omega)] at q2
  refine ⟨.agg (flat parts), ⟨parts, q1, rfl⟩, ?_, q2, fun w' sp hk hp => ?_⟩
  · simp only [sizeOk, D.cells, Bool.and_eq_true, beq_iff_eq]
    exact ⟨by omega, q3⟩
  · have hm : fs.toList.mapM (fun f => DataW.trod enc P w' 0 sp true n f.type ((cs.drop f.offset).take (P.cellsOf f.type))) = some xs := by
      refine mapM_some_of_get _ _ (by simpa using hxl) fun i f hi => ?_
      exact q5 w' sp hk (fun y hy p hpy => hp p (by simp only [List.mem_flatMap]; exact ⟨y, hy, hpy⟩)) i f hi
    simp only [DataW.trod, ht, if_pos hcl, hm, Option.map_some]
end
end Go.E2
