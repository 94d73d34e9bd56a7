/-
  Operations that only yield a value: what the evaluator yields, the machine yields.
  Conditions: none; laws.
-/
import Derived.Test.YtpooocblijlabaaEApp
namespace Go.E2

section
variable {P : Program} {S : Stb} {ms : List (Nat → Nat)} {lv : List Hp} {ρ : Env} {a : Act} {w : World}
theorem operand_ok (ht : ∀ i, VR S lv ms (ρ i) (a.tmps.getD i undef)) {o : Operand} {x : AO} (h : cO o = some x) : VR S lv ms (ev ρ x) (a.eval o) := by
  cases o with
  | tmp t => simp [cO] at h; subst h; exact ht t
  | const v => simp [cO] at h; obtain ⟨d, hd, rfl⟩ := h; exact ofV_vrd hd
  | global g => simp [cO] at h
  | func f => simp [cO] at h; subst h; exact VRD.fn f
theorem VRD.int_inv {k : IntKind} {n : Int} {v : Value} (h : VRD S (.int k n) v) : v = .int k n := by cases h; rfl
theorem VRD.bool_inv {b : Bool} {v : Value} (h : VRD S (.bool b) v) : v = .bool b := by cases h; rfl
theorem VRD.str_inv {l : List UInt8} {v : Value} (h : VRD S (.str l) v) : ∃ s : ByteArray, v = .string s ∧ s.data.toList = l := by cases h with | str s l h => exact ⟨s, rfl, h⟩
/-- The cells of a pointer, read: 'agg' or one cell. -/
theorem loadVar_ok {t : TypeId} {g : Bool} {n : Nat} {b o : Nat} {cs : List D} {c : List Value} {x : D} (ha : tagg P t = some g) (hn : tsz P t = some n) (hgn : (g || n == 1) = true)
    (hc : VRDs S cs c) (ho : cs.all D.one = true) (hcell : ∀ (j : Nat) (u : Value), c[j]? = some u → w.cell? ⟨b, o + j, none⟩ = some u) (hx : loadD g n cs = some x) :
    ∃ v, (loadVar t ⟨b, o, none⟩).run P w = .ok v w ∧ VRD S x v := by
  unfold tagg at ha
  unfold tsz at hn
  cases hu : P.underlying t with
  | none => simp [hu] at ha
  | some d =>
    simp [hu] at ha
    cases hi : P.info? t with
    | none => simp [hi] at hn
    | some i =>
      simp [hi] at hn
      cases g with
      | true =>
        simp only [loadD, if_true] at hx
        split at hx
        · rename_i hle
          cases hx
          have hl := run_loadCells_list (P := P) w ⟨b, o, none⟩ (c.take n) (fun j u hj => by
            rw [addr_add]
            rw [List.getElem?_take] at hj
            split at hj
            · exact hcell j u hj
            · cases hj)
          have hlen : (c.take n).length = n := by rw [List.length_take, hc.1]; omega
          rw [hlen] at hl
          refine ⟨.agg (c.take n).toArray, ?_, VRD.agg_mk (hc.take n) ?_⟩
          · have hag : (isAgg t).run P w = .ok true w := by
              unfold isAgg
              simp only [Sem.run_bind, run_underlying hu, Result.andThen_ok]
              cases d <;> simp [aggD] at ha <;> rfl
            simp only [loadVar, Sem.run_bind, hag, Result.andThen_ok, if_true, sizeOf, typeInfo, run_program, hi, Sem.run_pure, hn, hl]
          · rw [List.all_eq_true] at ho ⊢
            exact fun y hy => ho y (List.mem_of_mem_take hy)
        · cases hx
      | false =>
        simp only [loadD] at hx
        have hx' : cs.head? = some x := by simpa using hx
        have h0 : cs[0]? = some x := by rw [← List.head?_eq_getElem?]; exact hx'
        obtain ⟨v, hv, hr⟩ := hc.get h0
        refine ⟨v, ?_, hr⟩
        have hag : (isAgg t).run P w = .ok false w := by
          unfold isAgg
          simp only [Sem.run_bind, run_underlying hu, Result.andThen_ok]
          cases d <;> simp [aggD] at ha <;> rfl
        have hc0 := hcell 0 v hv
        simp only [Nat.add_zero] at hc0
        simp [loadVar, hag, run_load, hc0]
/-- A part of an aggregate. -/
theorem part_ok {t : TypeId} {g : Bool} {n off : Nat} {cs : List D} {vs : Array Value} {x : D} (ha : tagg P t = some g) (hn : tsz P t = some n)
    (hc : VRDs S cs vs.toList) (ho : cs.all D.one = true) (hx : loadD g n (cs.drop off) = some x) :
    ∃ v, (part t vs off).run P w = .ok v w ∧ VRD S x v := by
  unfold tagg at ha
  unfold tsz at hn
  cases hu : P.underlying t with
  | none => simp [hu] at ha
  | some d =>
    simp [hu] at ha
    cases hi : P.info? t with
    | none => simp [hi] at hn
    | some i =>
      simp [hi] at hn
      cases g with
      | true =>
        simp only [loadD, if_true] at hx
        split at hx
        · rename_i hle
          cases hx
          have hag : (isAgg t).run P w = .ok true w := by
            unfold isAgg
            simp only [Sem.run_bind, run_underlying hu, Result.andThen_ok]
            cases d <;> simp [aggD] at ha <;> rfl
          refine ⟨.agg (vs.extract off (off + n)), ?_, ?_⟩
          · simp only [part, Sem.run_bind, hag, Result.andThen_ok, if_true, sizeOf, typeInfo, run_program, hi, Sem.run_pure, hn]
          · have e : vs.extract off (off + n) = ((vs.toList.drop off).take n).toArray := by
              apply Array.ext'
              simp [List.extract_eq_take_drop]
            rw [e]
            refine VRD.agg_mk ((hc.drop off).take n) ?_
            rw [List.all_eq_true] at ho ⊢
            exact fun y hy => ho y (List.mem_of_mem_drop (List.mem_of_mem_take hy))
        · cases hx
      | false =>
        have hag : (isAgg t).run P w = .ok false w := by
          unfold isAgg
          simp only [Sem.run_bind, run_underlying hu, Result.andThen_ok]
          cases d <;> simp [aggD] at ha <;> rfl
        simp only [loadD] at hx
        have hx' : (cs.drop off).head? = some x := by simpa using hx
        have h0 : cs[off]? = some x := by rw [List.head?_eq_getElem?, List.getElem?_drop, Nat.add_zero] at hx'; exact hx'
        obtain ⟨v, hv, hr⟩ := hc.get h0
        refine ⟨v, ?_, hr⟩
        have hv' : vs[off]? = some v := by simpa using hv
        simp [part, hag, hv']
/-- Reading a box. -/
theorem box_cells {ms : List (Nat → Nat)} {lv : List Hp} {G : Gh} (h : RelH S ms lv G w) {k s g off : Nat} {v : Value} (hp : VRptr lv ms k s g off v) {cs : List D} (hb : blk lv k s g = some cs) :
    ∃ b, v = .pointer (some ⟨b, off, none⟩) ∧ Live lv ms k s b cs ∧ ∃ c e, w.heap[b]? = some (.cells c e (0, 0)) ∧ VRDs S cs c.toList ∧ cs.all D.one = true := by
  obtain ⟨x, m, b, h1, h2, h3, h4, h5⟩ := hp
  unfold blk at hb
  rw [h1] at hb
  simp only at hb
  split at hb
  · rename_i hg
    have hbm : b = m s := h5 (by rw [hb]; simp) hg.symm
    have hl : Live lv ms k s b cs := ⟨x, m, h1, h2, hb, hbm.symm⟩
    exact ⟨b, h3, hl, h.box hl⟩
  · cases hb
theorem cell_of_block {b off : Nat} {c : Array Value} {e : TypeId} (hb : w.heap[b]? = some (.cells c e (0, 0))) (j : Nat) (u : Value) (hu : (c.toList.drop off)[j]? = some u) : w.cell? ⟨b, off + j, none⟩ = some u := by
  rw [List.getElem?_drop] at hu
  simp only [World.cell?, hb]
  simpa using hu
end
end Go.E2
