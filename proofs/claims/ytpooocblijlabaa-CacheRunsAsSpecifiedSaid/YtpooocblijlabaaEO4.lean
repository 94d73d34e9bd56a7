/-
  Every operation that only yields a value.
  Conditions: none; laws.
-/
import Derived.Test.YtpooocblijlabaaEO3
namespace Go.E2
section
variable {P : Program} {S : Stb} {ms : List (Nat → Nat)} {lv : List Hp} {ρ : Env} {a : Act} {w : World}
def Yield (P : Program) (S : Stb) (lv : List Hp) (ms : List (Nat → Nat)) (a : Act) (w : World) (o : Oper) (x : AV) : Prop :=
  ∃ v, (execOp a.eval o).run P w = .ok (.value v) w ∧ VR S lv ms x v ∧ ∀ sz es, x ≠ .own sz es
theorem Yield.d {o : Oper} {x : D} {v : Value} (h : (execOp a.eval o).run P w = .ok (.value v) w) (hx : VRD S x v) : Yield P S lv ms a w o (.d x) := ⟨v, h, hx, fun _ _ e => by cases e⟩
theorem bnd_ok (ht : ∀ i, VR S lv ms (ρ i) (a.tmps.getD i undef)) {o : Operand} {x : AO} (h : cO o = some x) {dflt : Nat} {n : Int} (hb : bnd ρ dflt (some x) = some n) : ∃ k, a.eval o = .int k n := by
  have hv := operand_ok ht h
  simp only [bnd] at hb
  split at hb
  · rename_i k m e
    rw [e] at hv
    cases hb
    exact ⟨k, VRD.int_inv hv⟩
  · cases hb
theorem run_bound_some {k : IntKind} {n : Int} {y : Nat} {code : BoundsCode} (h0 : 0 ≤ n) (h1 : n ≤ y) : (Instr.sliceBound (.int k n) y code).run P w = .ok n.toNat w := by
  simp [Instr.sliceBound, asIntOf, h0, h1]
/-- The bounds of a slice expression with at most two of them. -/
theorem run_boundsG (ht : ∀ i, VR S lv ms (ρ i) (a.tmps.getD i undef)) {isSlice : Bool} {len cap : Nat} {lo hi : Option Operand} {lo' hi' : Option AO} (hlo : optO lo = some lo') (hhi : optO hi = some hi') {l h : Int}
    (hl : bnd ρ 0 lo' = some l) (hh : bnd ρ len hi' = some h) (h0 : 0 ≤ l) (h1 : l ≤ h) (h2 : h ≤ cap) :
    (Instr.sliceBounds isSlice len cap (lo.map a.eval) (hi.map a.eval) none).run P w = .ok (l.toNat, h.toNat, cap) w := by
  have hrunH : ∀ (code : BoundsCode), (match hi.map a.eval with | some v => Instr.sliceBound v cap code | none => pure len : Sem Nat).run P w = .ok h.toNat w := by
    intro code
    cases hi with
    | none =>
      simp [optO] at hhi
      subst hhi
      simp [bnd] at hh
      simp [← hh]
    | some o =>
      simp [optO] at hhi
      obtain ⟨y, hy, rfl⟩ := hhi
      obtain ⟨k, hk⟩ := bnd_ok ht hy hh
      simp only [Option.map_some, hk]
      exact run_bound_some (by omega) (by omega)
  have hrunL : ∀ (code : BoundsCode), (match lo.map a.eval with | some v => Instr.sliceBound v h.toNat code | none => pure 0 : Sem Nat).run P w = .ok l.toNat w := by
    intro code
    cases lo with
    | none =>
      simp [optO] at hlo
      subst hlo
      simp [bnd] at hl
      simp [← hl]
    | some o =>
      simp [optO] at hlo
      obtain ⟨y, hy, rfl⟩ := hlo
      obtain ⟨k, hk⟩ := bnd_ok ht hy hl
      simp only [Option.map_some, hk]
      exact run_bound_some h0 (by omega)
  unfold Instr.sliceBounds
  have hH := hrunH (if isSlice then .sliceAcap else .sliceAlen)
  have hL := hrunL .sliceB
  cases hhm : hi.map a.eval <;> cases hlm : lo.map a.eval <;> simp only [hhm] at hH <;> simp only [hlm] at hL
  · simp at hH hL
    simp [← hH, ← hL]
  · simp at hH
    rw [← hH] at hL ⊢
    simp [hL]
  · simp at hL
    simp [hH, ← hL]
  · simp [hH, hL]
theorem run_bounds (ht : ∀ i, VR S lv ms (ρ i) (a.tmps.getD i undef)) {isSlice : Bool} {len cap : Nat} {lo hi : Option Operand} {lo' hi' : Option AO} (hlo : optO lo = some lo') (hhi : optO hi = some hi') {l h : Int}
    (hl : bnd ρ 0 lo' = some l) (hh : bnd ρ len hi' = some h) (h0 : 0 ≤ l) (h1 : l ≤ h) (h2 : h ≤ len) (h3 : len ≤ cap) :
    (Instr.sliceBounds isSlice len cap (lo.map a.eval) (hi.map a.eval) none).run P w = .ok (l.toNat, h.toNat, cap) w :=
  run_boundsG ht hlo hhi hl hh h0 h1 (by omega)
/-- The bounds of a slice expression with three of them. -/
theorem run_bounds3 (ht : ∀ i, VR S lv ms (ρ i) (a.tmps.getD i undef)) {isSlice : Bool} {len cap : Nat} {lo : Option Operand} {hi mx : Operand} {lo' : Option AO} {hi' mx' : AO} (hlo : optO lo = some lo') (hhi : cO hi = some hi') (hmx : cO mx = some mx') {l h m : Int}
    (hl : bnd ρ 0 lo' = some l) (hh : bnd ρ len (some hi') = some h) (hm : bnd ρ cap (some mx') = some m) (h0 : 0 ≤ l) (h1 : l ≤ h) (h2 : h ≤ m) (h3 : m ≤ cap) :
    (Instr.sliceBounds isSlice len cap (lo.map a.eval) (some (a.eval hi)) (some (a.eval mx))).run P w = .ok (l.toNat, h.toNat, m.toNat) w := by
  obtain ⟨k1, e1⟩ := bnd_ok ht hhi hh
  obtain ⟨k2, e2⟩ := bnd_ok ht hmx hm
  have r1 : ∀ (code : BoundsCode), (Instr.sliceBound (a.eval mx) cap code).run P w = .ok m.toNat w := fun code => by rw [e2]; exact run_bound_some (by omega) (by omega)
  have r2 : ∀ (code : BoundsCode), (Instr.sliceBound (a.eval hi) m.toNat code).run P w = .ok h.toNat w := fun code => by rw [e1]; exact run_bound_some (by omega) (by omega)
  cases lo with
  | none =>
    simp [optO] at hlo
    subst hlo
    simp [bnd] at hl
    simp [Instr.sliceBounds, r1, r2, ← hl]
  | some o =>
    simp [optO] at hlo
    obtain ⟨y, hy, rfl⟩ := hlo
    obtain ⟨k, hk⟩ := bnd_ok ht hy hl
    have r3 : ∀ (code : BoundsCode), (Instr.sliceBound (a.eval o) h.toNat code).run P w = .ok l.toNat w := fun code => by rw [hk]; exact run_bound_some (by omega) (by omega)
    simp [Instr.sliceBounds, r1, r2, r3]

theorem fillD_ok {S : Stb} : ∀ (place : Nat → Option (Nat × Nat)) (ps : List (Nat × Value)) (qs : List (Nat × Nat × D)) (cells : List D) (cs : Array Value) (r : List D),
    List.length ps = qs.length → (∀ (j : Nat) (p : Nat × Value) (q : Nat × Nat × D), ps[j]? = some p → qs[j]? = some q → place p.1 = some (q.1, q.2.1) ∧ VRD S q.2.2 p.2) →
    VRDs S cells cs.toList → fillD cells qs = some r → ∃ cs', Instr.fill place cs ps = some cs' ∧ VRDs S r cs'.toList
  | place, [], [], cells, cs, r, _, _, hc, h => by simp [fillD] at h; subst h; exact ⟨cs, rfl, hc⟩
  | place, (i, v) :: ps, (off, size, x) :: qs, cells, cs, r, hl, hp, hc, h => by
    obtain ⟨hpl, hx⟩ := hp 0 (i, v) (off, size, x) rfl rfl
    simp only [fillD] at h
    split at h
    · rename_i hcond
      have hxc := (hx.cells).1
      have hsz : v.cells.size = size := by have := hxc.1; simp at this; omega
      have hfit : ¬ (off + v.cells.size > cs.size) := by have := hc.1; simp at this; omega
      have hnew : VRDs S (over cells x.cells off) (v.cells.zipIdx.foldl (fun cs (c, j) => cs.setIfInBounds (off + j) c) cs).toList := by
        have gen : ∀ (vs : List Value) (o : Nat) (cs : Array Value), o + vs.length ≤ cs.size →
            ((vs.zipIdx o).foldl (fun (cs : Array Value) (p : Value × Nat) => cs.setIfInBounds p.2 p.1) cs).toList = cs.toList.take o ++ vs ++ cs.toList.drop (o + vs.length) := by
          intro vs
          induction vs with
          | nil => intro o cs _; simp
          | cons u vs ih =>
            intro o cs hle
            simp only [List.length_cons] at hle
            rw [List.zipIdx_cons, List.foldl_cons, ih (o + 1) _ (by simp; omega)]
            have e := list_seg_step cs.toList o u vs (by simp; omega)
            simp only [Array.toList_setIfInBounds]
            rw [e]
            simp [Nat.add_comm]
        have hz : (v.cells.zipIdx.foldl (fun (cs : Array Value) (p : Value × Nat) => cs.setIfInBounds (off + p.2) p.1) cs) = ((v.cells.toList.zipIdx off).foldl (fun (cs : Array Value) (p : Value × Nat) => cs.setIfInBounds p.2 p.1) cs) := by
          rw [← Array.foldl_toList, Array.toList_zipIdx]
          have : ∀ (l : List Value) (k : Nat) (cs : Array Value), (l.zipIdx k).foldl (fun (cs : Array Value) (p : Value × Nat) => cs.setIfInBounds (off + p.2) p.1) cs = (l.zipIdx (off + k)).foldl (fun (cs : Array Value) (p : Value × Nat) => cs.setIfInBounds p.2 p.1) cs := by
            intro l
            induction l with
            | nil => intro k cs; rfl
            | cons u l ih => intro k cs; simp only [List.zipIdx_cons, List.foldl_cons]; rw [ih (k + 1)]; rfl
          simpa using this v.cells.toList 0 cs
        have hle : off + v.cells.toList.length ≤ cs.size := by simp; omega
        have e2 := gen v.cells.toList off cs hle
        rw [← hz] at e2
        show VRDs S (over cells x.cells off) (Array.toList (v.cells.zipIdx.foldl (fun (cs : Array Value) (p : Value × Nat) => cs.setIfInBounds (off + p.2) p.1) cs))
        rw [e2]
        have hlen : v.cells.toList.length = x.cells.length := hxc.1
        unfold over
        rw [hlen]
        exact ((hc.take off).append hxc).append (hc.drop _)
      obtain ⟨cs', h1, h2⟩ := fillD_ok place ps qs _ _ r (by simpa using hl) (fun j p q hj hq => hp (j + 1) p q (by simpa using hj) (by simpa using hq)) hnew h
      refine ⟨cs', ?_, h2⟩
      simp only [Instr.fill, hpl]
      rw [if_neg (by simp [hsz]; omega)]
      exact h1
    · cases h
  | place, [], _ :: _, _, _, _, hl, _, _, _ => by simp at hl
  | place, _ :: _, [], _, _, _, hl, _, _, _ => by simp at hl
theorem datas_ok (ht : ∀ i, VR S lv ms (ρ i) (a.tmps.getD i undef)) : ∀ (os : List Operand) (xs : List AO) (ds : List D), cOs os = some xs → datas ρ xs = some ds → VRDs S ds (os.map a.eval)
  | [], xs, ds, h, hd => by simp [cOs] at h; subst h; simp [datas] at hd; subst hd; exact VRDs.nil
  | o :: os, xs, ds, h, hd => by
    simp only [cOs] at h
    split at h
    · rename_i x xs' hx hxs
      cases h
      simp only [datas] at hd
      split at hd
      · rename_i y ys hy hys
        cases hd
        exact VRDs.cons ((operand_ok ht hx).data hy) (datas_ok ht os xs' ys hxs hys)
      · cases hd
    · cases h
end
end Go.E2
