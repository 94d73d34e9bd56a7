/-
  Equality of two structs of plain kinds, run.
  Conditions: none; laws.
-/
import Derived.Test.YtpooocblijlabaaEO2
namespace Go.E2
theorem cellsEq_len : ∀ {ks : List Kd} {xs ys : List D} {r : Bool}, cellsEq ks xs ys = some r → xs.length = ks.length ∧ ys.length = ks.length
  | [], [], [], _, _ => ⟨rfl, rfl⟩
  | k :: ks, x :: xs, y :: ys, r, h => by
    simp only [cellsEq] at h
    split at h
    · split at h
      · rename_i hc
        have := cellsEq_len hc
        simp [this]
      · cases h
    · cases h
  | [], _ :: _, _, _, h => by simp [cellsEq] at h
  | [], [], _ :: _, _, h => by simp [cellsEq] at h
  | _ :: _, [], _, _, h => by simp [cellsEq] at h
  | _ :: _, _ :: _, [], _, h => by simp [cellsEq] at h
theorem cellsEq_append : ∀ {ks ks' : List Kd} {xs ys : List D} {r : Bool}, cellsEq (ks ++ ks') xs ys = some r →
    ∃ r1 r2, cellsEq ks (xs.take ks.length) (ys.take ks.length) = some r1 ∧ cellsEq ks' (xs.drop ks.length) (ys.drop ks.length) = some r2 ∧ r = (r1 && r2)
  | [], ks', xs, ys, r, h => ⟨true, r, by simp [cellsEq], by simpa using h, by simp⟩
  | k :: ks, ks', x :: xs, y :: ys, r, h => by
    simp only [List.cons_append, cellsEq] at h
    split at h
    · rename_i b hb
      split at h
      · rename_i c hc
        cases h
        obtain ⟨r1, r2, h1, h2, rfl⟩ := cellsEq_append hc
        exact ⟨b && r1, r2, by simp [cellsEq, hb, h1], by simpa using h2, by rw [Bool.and_assoc]⟩
      · cases h
    · cases h
  | _ :: _, _, [], _, _, h => by simp [cellsEq] at h
  | _ :: _, _, _ :: _, [], _, h => by simp [cellsEq] at h
section
variable {P : Program} {S : Stb} {w : World}
/-- Two values of a plain type, each by its cells. -/
def Two (S : Stb) (t : TypeId) (P : Program) (xs ys : List D) (u v : Value) : Prop :=
  (tagg P t = some true ∧ ∃ us vs : Array Value, u = .agg us ∧ v = .agg vs ∧ VRDs S xs us.toList ∧ VRDs S ys vs.toList) ∨
  (tagg P t = some false ∧ ∃ x y, xs = [x] ∧ ys = [y] ∧ VRD S x u ∧ VRD S y v)
theorem fields_ok {rec : TypeId → Option (List Kd)} {d : Nat}
    (hrec : ∀ t ks xs ys u v r, rec t = some ks → Two S t P xs ys u v → cellsEq ks xs ys = some r → (Op.equalIn d t u v).run P w = .ok r w)
    (hag : ∀ t ks, rec t = some ks → ∃ g, tagg P t = some g ∧ (g = false → ks.length = 1)) {X Y : List D} {us vs : Array Value} (hX : VRDs S X us.toList) (hY : VRDs S Y vs.toList) :
    ∀ (fs : List Field) (off : Nat) (ks : List Kd) (r : Bool), fieldsK P rec fs off = some ks → cellsEq ks (X.drop off) (Y.drop off) = some r → (Op.eqFields d us vs fs).run P w = .ok r w
  | [], off, ks, r, h, hr => by
    simp [fieldsK] at h
    subst h
    have := cellsEq_len hr
    have e1 : X.drop off = [] := List.eq_nil_of_length_eq_zero (by simpa using this.1)
    have e2 : Y.drop off = [] := List.eq_nil_of_length_eq_zero (by simpa using this.2)
    rw [e1, e2] at hr
    simp [cellsEq] at hr
    simp [Op.eqFields, hr]
  | f :: fs, off, ks, r, h, hr => by
    simp only [fieldsK] at h
    split at h
    · rename_i hf
      obtain ⟨hname, hoff⟩ := hf
      split at h
      · rename_i ks1 hks1
        split at h
        · rename_i hsz
          split at h
          · rename_i ks2 hks2
            cases h
            obtain ⟨r1, r2, h1, h2, rfl⟩ := cellsEq_append hr
            obtain ⟨g, hg, hg1⟩ := hag _ _ hks1
            have hl1 := cellsEq_len h1
            have part : ∀ {Z : List D} {zs : Array Value}, VRDs S Z zs.toList → ((Z.drop off).take ks1.length).length = ks1.length →
                ∃ q, (part f.type zs f.offset).run P w = .ok q w ∧ ((g = true ∧ ∃ qs : Array Value, q = .agg qs ∧ VRDs S ((Z.drop off).take ks1.length) qs.toList) ∨ (g = false ∧ ∃ x, (Z.drop off).take ks1.length = [x] ∧ VRD S x q)) := by
              intro Z zs hZ hl
              unfold tagg at hg
              unfold tsz at hsz
              cases hu : P.underlying f.type with
              | none => simp [hu] at hg
              | some dd =>
                simp [hu] at hg
                cases hi : P.info? f.type with
                | none => simp [hi] at hsz
                | some i =>
                  simp [hi] at hsz
                  cases g with
                  | true =>
                    have hagg : (isAgg f.type).run P w = .ok true w := by
                      unfold isAgg
                      simp only [Sem.run_bind, run_underlying hu, Result.andThen_ok]
                      cases dd <;> simp [aggD] at hg <;> rfl
                    refine ⟨.agg (zs.extract f.offset (f.offset + ks1.length)), ?_, .inl ⟨rfl, _, rfl, ?_⟩⟩
                    · simp only [Go.part, Sem.run_bind, hagg, Result.andThen_ok, if_true, sizeOf, typeInfo, run_program, hi, Sem.run_pure, hsz]
                    · have e : (zs.extract f.offset (f.offset + ks1.length)).toList = (zs.toList.drop off).take ks1.length := by
                        rw [hoff]
                        simp [List.extract_eq_take_drop]
                      rw [e]
                      exact (hZ.drop off).take _
                  | false =>
                    have hagg : (isAgg f.type).run P w = .ok false w := by
                      unfold isAgg
                      simp only [Sem.run_bind, run_underlying hu, Result.andThen_ok]
                      cases dd <;> simp [aggD] at hg <;> rfl
                    have h1' := hg1 rfl
                    rw [h1'] at hl
                    obtain ⟨x, hx⟩ := List.length_eq_one_iff.1 hl
                    have hx0 : Z[off]? = some x := by
                      have : ((Z.drop off).take 1)[0]? = some x := by rw [hx]; rfl
                      rw [List.getElem?_take] at this
                      simpa using this
                    obtain ⟨q, hq, hr'⟩ := hZ.get hx0
                    have hq' : zs[off]? = some q := by simpa using hq
                    refine ⟨q, by simp [Go.part, hagg, hoff, hq'], .inr ⟨rfl, x, by rw [h1']; exact hx, hr'⟩⟩
            obtain ⟨qu, hqu, hu⟩ := part hX hl1.1
            obtain ⟨qv, hqv, hv⟩ := part hY hl1.2
            have htwo : Two S f.type P ((X.drop off).take ks1.length) ((Y.drop off).take ks1.length) qu qv := by
              rcases hu with ⟨rfl, us', rfl, hu⟩ | ⟨rfl, x, hx, hu⟩
              · rcases hv with ⟨_, vs', rfl, hv⟩ | ⟨e, _⟩
                · exact .inl ⟨hg, us', vs', rfl, rfl, hu, hv⟩
                · cases e
              · rcases hv with ⟨e, _⟩ | ⟨_, y, hy, hv⟩
                · cases e
                · exact .inr ⟨hg, x, y, hx, hy, hu, hv⟩
            have heq := hrec _ _ _ _ _ _ _ hks1 htwo h1
            have h2' : cellsEq ks2 (X.drop (off + ks1.length)) (Y.drop (off + ks1.length)) = some r2 := by simpa [List.drop_drop] using h2
            have ih := fields_ok hrec hag hX hY fs (off + ks1.length) ks2 r2 hks2 h2'
            simp only [Op.eqFields, hname, ne_eq, not_false_eq_true, if_true, Sem.run_bind, hqu, hqv, heq, Result.andThen_ok]
            cases r1
            · simp
            · simp [ih]
          · cases h
        · cases h
      · cases h
    · cases h
theorem plainK_agg : ∀ (d : Nat) (t : TypeId) (ks : List Kd), plainK P d t = some ks → ∃ g, tagg P t = some g ∧ (g = false → ks.length = 1)
  | 0, t, ks, h => by simp [plainK] at h
  | d + 1, t, ks, h => by
    simp only [plainK] at h
    unfold tagg
    split at h
    · rename_i hu; cases h; exact ⟨false, by simp [hu, aggD], fun _ => rfl⟩
    · rename_i hu; cases h; exact ⟨false, by simp [hu, aggD], fun _ => rfl⟩
    · rename_i hu; cases h; exact ⟨false, by simp [hu, aggD], fun _ => rfl⟩
    · rename_i hu; exact ⟨true, by simp [hu, aggD], fun e => by cases e⟩
    · cases h
theorem plain_ok : ∀ (d m : Nat) (t : TypeId) (ks : List Kd) (xs ys : List D) (u v : Value) (r : Bool), plainK P d t = some ks → Two S t P xs ys u v → cellsEq ks xs ys = some r →
    (Op.equalIn (d + m) t u v).run P w = .ok r w
  | 0, m, t, ks, xs, ys, u, v, r, h, _, _ => by simp [plainK] at h
  | d + 1, m, t, ks, xs, ys, u, v, r, h, ht, hr => by
    have e1 : d + 1 + m = (d + m) + 1 := by omega
    rw [e1]
    simp only [plainK] at h
    split at h
    · rename_i hu
      cases h
      rcases ht with ⟨hg, _⟩ | ⟨_, x, y, rfl, rfl, hx, hy⟩
      · simp [tagg, hu, aggD] at hg
      · cases x <;> cases y <;> simp [cellsEq, cellEq] at hr
        rw [hx.bool_inv, hy.bool_inv, run_equalIn_bool' w _ t _ _ hu, hr]
    · rename_i hu
      cases h
      rcases ht with ⟨hg, _⟩ | ⟨_, x, y, rfl, rfl, hx, hy⟩
      · simp [tagg, hu, aggD] at hg
      · cases x <;> cases y <;> simp [cellsEq, cellEq] at hr
        rename_i k1 n1 k2 n2
        by_cases hk : k1 = k2
        · subst hk
          simp at hr
          rw [hx.int_inv, hy.int_inv, run_equalIn_int w _ t _ _ _ _ hu, hr]
        · simp [hk] at hr
    · rename_i hu
      cases h
      rcases ht with ⟨hg, _⟩ | ⟨_, x, y, rfl, rfl, hx, hy⟩
      · simp [tagg, hu, aggD] at hg
      · cases x <;> cases y <;> simp [cellsEq, cellEq] at hr
        obtain ⟨s, rfl, rfl⟩ := hx.str_inv
        obtain ⟨s', rfl, rfl⟩ := hy.str_inv
        rw [run_equalIn_string w _ t _ _ hu, ByteArray.toList_eq, ByteArray.toList_eq, hr]
    · rename_i fs hu
      split at h
      · cases h
      · rename_i hst
        rcases ht with ⟨_, us, vs, rfl, rfl, hx, hy⟩ | ⟨hg, _⟩
        · have hfo : P.fieldsOf t = fs := by simp [Program.fieldsOf, hu]
          rw [run_equalIn_struct w _ t us vs (by rw [hfo]; exact hu) (by simpa using hst), hfo]
          exact fields_ok (rec := plainK P d) (d := d + m) (fun t ks xs ys u v r => plain_ok d m t ks xs ys u v r) (plainK_agg d) hx hy fs.toList 0 ks r h (by simpa using hr)
        · simp [tagg, hu, aggD] at hg
    · cases h
theorem eqs_ok {neg : Bool} {op : BinOp} {t : TypeId} {ks : List Kd} {cs cs' : List D} {u v : Value} {r : Bool} (hop : (op = .eql ∧ neg = false) ∨ (op = .neq ∧ neg = true))
    (hk : plainK P 8 t = some ks) (hg : P.eqGuardType P.depth t = false) (hagg : tagg P t = some true) (hu : VRD S (.agg cs) u) (hv : VRD S (.agg cs') v) (hr : cellsEq ks cs cs' = some r) (ox oy : Operand) :
    (do eqGuard op t ox oy u v; binOp op t u v : Sem Value).run P w = .ok (.bool (if neg then !r else r)) w := by
  obtain ⟨us, rfl, hus, _⟩ := hu.agg_inv
  obtain ⟨vs, rfl, hvs, _⟩ := hv.agg_inv
  have h := plain_ok (w := w) 8 9992 t ks cs cs' _ _ r hk (.inl ⟨hagg, us, vs, rfl, rfl, hus, hvs⟩) hr
  rcases hop with ⟨rfl, rfl⟩ | ⟨rfl, rfl⟩
  · simp only [Sem.run_bind, run_eqGuard_agg w _ t ox oy us vs hg, Result.andThen_ok, run_eql_struct, h]; rfl
  · simp only [Sem.run_bind, run_eqGuard_agg w _ t ox oy us vs hg, Result.andThen_ok, run_neq_struct, h]; rfl
end
end Go.E2
