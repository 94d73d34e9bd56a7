/-
  Operations that lay a block that may change, and those that write behind a slice over one.
  Conditions: none; laws.
-/
import Derived.Test.YtpooocblijlabaaEO6
namespace Go.E2
theorem zeros_vrds {S : Stb} {z : List D} {zv : Array Value} (h : VRDs S z zv.toList) (n : Nat) : VRDs S (rep n z) (Builtin.zeroCells zv n).toList := by
  have hzl : zv.size = z.length := by have := h.1; simpa using this
  have hlen : (rep n z).length = n * z.length := by simp [rep]
  refine ⟨by simp [Builtin.zeroCells, hlen, hzl], fun j x v hx hv => ?_⟩
  have hj : j < n * z.length := by rw [← hlen]; exact (List.getElem?_eq_some_iff.1 hx).1
  have hpos : 0 < z.length := Nat.pos_of_ne_zero fun e => by rw [e] at hj; simp at hj
  have hx' : z[j % z.length]? = some x := by
    have gen : ∀ (n j : Nat), j < n * z.length → (rep n z)[j]? = z[j % z.length]? := by
      intro n
      induction n with
      | zero => intro j hj; simp at hj
      | succ n ih =>
        intro j hj
        have : rep (n + 1) z = z ++ rep n z := by simp [rep, List.replicate_succ]
        rw [this]
        by_cases hlt : j < z.length
        · rw [List.getElem?_append_left hlt, Nat.mod_eq_of_lt hlt]
        · rw [List.getElem?_append_right (by omega), ih (j - z.length) (by rw [Nat.add_mul] at hj; omega)]
          congr 1
          rw [Nat.mod_eq_sub_mod (by omega : z.length ≤ j)]
    rw [← gen n j hj]; exact hx
  have hm : j % z.length < zv.size := by rw [hzl]; exact Nat.mod_lt _ hpos
  have hv' : v = zv[j % z.length]! := by
    simp [Builtin.zeroCells, hzl, hj] at hv
    exact hv.symm
  refine h.2 (j % z.length) x v hx' ?_
  rw [hv']
  simp [hm]
theorem rep_one {z : List D} (h : z.all D.one = true) : ∀ n, (rep n z).all D.one = true
  | 0 => by simp [rep]
  | n + 1 => by
    have : rep (n + 1) z = z ++ rep n z := by simp [rep, List.replicate_succ]
    rw [this, List.all_append, h, rep_one h n]; rfl
section
variable {P : Program} (w : World)
theorem run_appG_room (t u ty e e' : TypeId) (i : TypeInfo) (ht : P.underlying t = some (.slice e)) (hu : P.underlying u = some (.slice e')) (hi : P.info? e = some i)
    (g off n cap : Nat) (cur : Array Value) (eb : TypeId) (hg : w.heap[g]? = some (.cells cur eb (0, 0))) (y : Value) (m : Nat) (news : List Value) (hy : SrcOk P i.size y m news w)
    (h1 : ∀ v ∈ news, v.oneCell' = true) (hroom : n + m ≤ cap) (hfit : off + n * i.size + news.length ≤ cur.size) :
    (Builtin.append_ #[t, u] ty #[.slice (some ⟨g, off, none⟩) n cap, y]).run P w =
      .ok (.slice (some ⟨g, off, none⟩) (n + m) cap) (w.setRow g (cur.toList.take (off + n * i.size) ++ news ++ cur.toList.drop (off + n * i.size + news.length)).toArray) := by
  have hst := run_storeCells_at P g (off + n * i.size) eb news 0 cur w hg (by simpa using hfit) h1
  simp only [Nat.add_zero] at hst
  have hf := hy.first w rfl
  simp [Builtin.append_, run_underlying ht, run_underlying hu, sizeOf, typeInfo, hi, hy.len, hroom, hf, addr_add, hst]
/-- 'm' zero values, made to be appended. -/
theorem run_appZ_room (t u ty e : TypeId) (k : IntKind) (i : TypeInfo) (z : Value) (ht : P.underlying t = some (.slice e)) (hu : P.underlying u = some (.int k)) (hi : P.info? e = some i) (hz : i.zero = some z) (hzs : z.cells.size = i.size)
    (b : Option Addr) (g off n cap : Nat) (hb : b = some ⟨g, off, none⟩) (cur : Array Value) (eb : TypeId) (hg : w.heap[g]? = some (.cells cur eb (0, 0))) (k' : IntKind) (m : Nat) (hm : m * i.bytes ≤ mostBytes) (hby : 0 < i.bytes)
    (h1 : ∀ v ∈ (Builtin.zeroCells z.cells m).toList, v.oneCell' = true) (hroom : n + m ≤ cap) (hfit : off + n * i.size + m * i.size ≤ cur.size) :
    (Builtin.append_ #[t, u] ty #[.slice b n cap, .int k' m]).run P w =
      .ok (.slice b (n + m) cap) (w.setRow g (cur.toList.take (off + n * i.size) ++ (Builtin.zeroCells z.cells m).toList ++ cur.toList.drop (off + n * i.size + (Builtin.zeroCells z.cells m).toList.length)).toArray) := by
  subst hb
  have hzl : (Builtin.zeroCells z.cells m).toList.length = m * i.size := by rw [Array.length_toList, zeros_size, hzs]
  have hst := run_storeCells_at P g (off + n * i.size) eb (Builtin.zeroCells z.cells m).toList 0 cur w hg (by rw [hzl]; simpa using hfit) h1
  simp only [Nat.add_zero] at hst
  have hml : m ≤ mostBytes := Nat.le_trans (by have := Nat.mul_le_mul_left m hby; omega) hm
  have hw1 : IntKind.i64.wrap (m : Int) = m := by rw [IntKind.wrap_i64]; unfold mostBytes at hml; omega
  have hneg : ¬ ((m : Int) < 0) := by omega
  have hbig : ¬ ((281474976710656 : Int) < (m : Int) * (i.bytes : Int)) := by
    have e : ((m : Int) * (i.bytes : Int)) = ((m * i.bytes : Nat) : Int) := (Int.natCast_mul _ _).symm
    have hm' : m * i.bytes ≤ 140737488355328 := hm
    rw [e]
    omega
  by_cases h0 : m * i.size = 0
  · have hz0 : (Builtin.zeroCells z.cells m).toList = [] := List.eq_nil_of_length_eq_zero (by rw [hzl, h0])
    have hst0 := hst
    rw [hz0] at hst0
    simp [Builtin.append_, run_underlying ht, run_underlying hu, sizeOf, typeInfo, zeroValue, hi, hz, asInt, asIntOf, hw1, hneg, hbig, hroom, addr_add, h0, hz0, hst0]
  · simp [Builtin.append_, run_underlying ht, run_underlying hu, sizeOf, typeInfo, zeroValue, hi, hz, asInt, asIntOf, hw1, hneg, hbig, hroom, addr_add, h0, hst]
theorem run_appZ_nil (t u ty e : TypeId) (k : IntKind) (i : TypeInfo) (z : Value) (ht : P.underlying t = some (.slice e)) (hu : P.underlying u = some (.int k)) (hi : P.info? e = some i) (hz : i.zero = some z) (k' : IntKind) :
    (Builtin.append_ #[t, u] ty #[.slice none 0 0, .int k' 0]).run P w = .ok (.slice none 0 0) w := by
  have hw1 : IntKind.i64.wrap (0 : Int) = 0 := by rw [IntKind.wrap_i64]; omega
  simp [Builtin.append_, run_underlying ht, run_underlying hu, sizeOf, typeInfo, hi, asInt, asIntOf, hw1]
theorem run_appZ_grow (t u ty e : TypeId) (k : IntKind) (i : TypeInfo) (z : Value) (ht : P.underlying t = some (.slice e)) (hu : P.underlying u = some (.int k)) (hi : P.info? e = some i) (hz : i.zero = some z) (hzs : z.cells.size = i.size)
    (x : Option Addr) (n cap : Nat) (olds : List Value) (hx : SrcOk P i.size (.slice x n cap) n olds w) (k' : IntKind) (m : Nat) (hm : m * i.bytes ≤ mostBytes) (hby : 0 < i.bytes)
    (hg : cap < n + m) (h63 : ((n + m : Nat) : Int) ≤ 9223372036854775807) (hfit : Builtin.nextslicecap (n + m) cap * i.bytes ≤ 281474976710656) :
    (Builtin.append_ #[t, u] ty #[.slice x n cap, .int k' m]).run P w =
      .ok (.slice (some ⟨w.heap.size, 0, none⟩) (n + m) (grownCap w (n + m) cap e))
        (w.drew.alloc (.cells (olds.toArray ++ Builtin.zeroCells z.cells m ++ Builtin.zeroCells z.cells (grownCap w (n + m) cap e - (n + m))) e)) := by
  have hml : m ≤ mostBytes := Nat.le_trans (by have := Nat.mul_le_mul_left m hby; omega) hm
  have hw1 : IntKind.i64.wrap (m : Int) = m := by rw [IntKind.wrap_i64]; unfold mostBytes at hml; omega
  have hneg : ¬ ((m : Int) < 0) := by omega
  have hbig : ¬ ((281474976710656 : Int) < (m : Int) * (i.bytes : Int)) := by
    have e : ((m : Int) * (i.bytes : Int)) = ((m * i.bytes : Nat) : Int) := (Int.natCast_mul _ _).symm
    have hm' : m * i.bytes ≤ 140737488355328 := hm
    rw [e]
    omega
  have hn : ¬ (n + m ≤ cap) := by omega
  have h63' : ¬ (9223372036854775807 < ((n : Int) + (m : Int))) := by omega
  have h48' : ¬ (281474976710656 < Builtin.nextslicecap (n + m) cap * i.bytes) := by omega
  have hfo := hx.first w.drew rfl
  by_cases h0 : m * i.size = 0
  · have hz0 : Builtin.zeroCells z.cells m = #[] := Array.eq_empty_of_size_eq_zero (by rw [zeros_size, hzs, h0])
    simp [Builtin.append_, run_underlying ht, run_underlying hu, sizeOf, typeInfo, zeroValue, hi, hz, asInt, asIntOf, hw1, hneg, hbig, hn, h63', h48', Question.forced, h0, hz0, hfo, newRow, grownCap]
  · simp [Builtin.append_, run_underlying ht, run_underlying hu, sizeOf, typeInfo, zeroValue, hi, hz, asInt, asIntOf, hw1, hneg, hbig, hn, h63', h48', Question.forced, h0, hfo, newRow, grownCap]
end
section
variable {S : Stb} {ms : List (Nat → Nat)} {ow : Nat → Option Nat} {base : Nat} {O : Nat → Prop} {ρ : Env} {L : Hp} {σ : List Hp} {G : Gh} {a : Act} {w : World} {c : Ctx} {o : Oper}
theorem SrcOk.of_view {P : Program} {lv : List Hp} (h : RelH S ms lv G w) {sz : Nat} {y : D} {v : Value} {m : Nat} {ys : List D} (hy : viewC G sz y = some (m, ys)) (hv : VRD S y v) :
    ∃ news, SrcOk P sz v m news w ∧ VRDs S ys news ∧ ys.all D.one = true ∧ ys.length = m * sz := by
  obtain ⟨news, h1, h2, h3, h4, h5⟩ := view_src (P := P) h hy hv
  refine ⟨news, ⟨h4, fun w' hw' => ?_⟩, h1, h2, h3⟩
  have := h5 w' m (fun ad _ => by simp only [World.cell?, hw']) (Nat.le_refl _)
  rw [List.take_of_length_le (by rw [h1.1, h3]; exact Nat.le_refl _)] at this
  exact this
/-- A new block behind an append. -/
theorem grow_ok (h : Rel S ms ow base O ρ L σ G a w) {d : Option Nat} (hd : ∀ i, d = some i → i < a.tmps.size) {sz by_ n m : Nat} {z olds ys : List D} {zv : Array Value} {ov nv : List Value} {e : TypeId} {K : St → Prop}
    (hK : growW d sz by_ z olds ys n m ρ L σ G K) (hz : VRDs S z zv.toList) (hzo : z.all D.one = true) (ho : VRDs S olds ov) (hoo : olds.all D.one = true) (hn : VRDs S ys nv) (hno : ys.all D.one = true) {cap : Nat} (hcap : n + m ≤ cap) :
    ∃ st, K st ∧ Rel S ms ow base O st.1 st.2.1 st.2.2.1 st.2.2.2 (a.put d (.slice (some ⟨w.heap.size, 0, none⟩) (n + m) cap)) (w.drew.alloc (.cells (ov.toArray ++ nv.toArray ++ Builtin.zeroCells zv (cap - (n + m))) e)) ∧
      Evo base O S w S (w.drew.alloc (.cells (ov.toArray ++ nv.toArray ++ Builtin.zeroCells zv (cap - (n + m))) e)) ∧ Shape σ st.2.2.1 := by
  have hk := hK.2 w.heap.size cap h.g_none hcap
  refine ⟨_, hk, ?_, ⟨by rw [size_push (w := w.drew)]; exact Nat.le_succ _, fun b hb _ => heap_push_old (w := w.drew) (Nat.lt_of_lt_of_le hb h.bas), fun _ _ => rfl, Sub.refl S, rfl, rfl, rfl⟩, Shape.refl _⟩
  have hbox : BoxAt S (w.drew.alloc (.cells (ov.toArray ++ nv.toArray ++ Builtin.zeroCells zv (cap - (n + m))) e)) w.heap.size (olds ++ ys ++ rep (cap - (n + m)) z) := by
    refine ⟨_, e, heap_push_new (w := w.drew), ?_, ?_⟩
    · simp only [Array.toList_append]
      exact (ho.append hn).append (zeros_vrds hz _)
    · rw [List.all_append, List.all_append, hoo, hno, rep_one hzo]; rfl
  exact (h.allocG (by exact size_push (w := w.drew)) (fun b hb => heap_push_old (w := w.drew) hb) hbox).put (x := .d (.gs w.heap.size 0 (n + m) cap)) (VRD.gs _ _ _ _ hcap) (fun _ _ e => by cases e) hd
theorem grow_fits {n m by_ cap nb : Nat} (hb : nb = by_) (hby : 0 < by_) (hc : cap < n + m) (h : (n + m) * by_ ≤ mostBytes) : ((n + m : Nat) : Int) ≤ 9223372036854775807 ∧ Builtin.nextslicecap (n + m) cap * nb ≤ 281474976710656 := by
  subst hb
  have : (n + m) * 1 ≤ (n + m) * nb := Nat.mul_le_mul_left _ hby
  unfold mostBytes at h
  exact ⟨by omega, growslice_fits (bytes := nb) hc h⟩
/-- An append whose outcome is a slice over a block that may change. -/
theorem appW_ok (h : Rel S ms ow base O ρ L σ G a w) {d : Option Nat} (hd : ∀ i, d = some i → i < a.tmps.size) {P : Program} {t u ty e : TypeId} {i : TypeInfo} {zv : Value} {z : List D} (hi : P.info? e = some i) (hzs : VRDs S z zv.cells.toList) (hzo : z.all D.one = true) (hzl : zv.cells.size = i.size) (hsz : 0 < i.size) (hby : 0 < i.bytes)
    {x : D} {xv yv : Value} (hx : VRD S x xv) {m : Nat} {ys : List D} {news : List Value} (hvn : VRDs S ys news) (hon : ys.all D.one = true) (hyl : ys.length = m * i.size)
    (rsame : ∀ b n cap, m = 0 → xv = .slice none 0 0 → b = (none : Option Addr) → n = 0 → cap = 0 → (Builtin.append_ #[t, u] ty #[xv, yv]).run P w = .ok (.slice none 0 0) w)
    (rroom : ∀ g off n cap cur eb, xv = .slice (some ⟨g, off, none⟩) n cap → w.heap[g]? = some (.cells cur eb (0, 0)) → n + m ≤ cap → off + n * i.size + news.length ≤ cur.size → (Builtin.append_ #[t, u] ty #[xv, yv]).run P w =
      .ok (.slice (some ⟨g, off, none⟩) (n + m) cap) (w.setRow g (cur.toList.take (off + n * i.size) ++ news ++ cur.toList.drop (off + n * i.size + news.length)).toArray))
    (rgrow : ∀ b n cap olds, xv = .slice b n cap → SrcOk P i.size (.slice b n cap) n olds w → cap < n + m → ((n + m : Nat) : Int) ≤ 9223372036854775807 → Builtin.nextslicecap (n + m) cap * i.bytes ≤ 281474976710656 → (Builtin.append_ #[t, u] ty #[xv, yv]).run P w =
      .ok (.slice (some ⟨w.heap.size, 0, none⟩) (n + m) (grownCap w (n + m) cap e)) (w.drew.alloc (.cells (olds.toArray ++ news.toArray ++ Builtin.zeroCells zv.cells (grownCap w (n + m) cap e - (n + m))) e)))
    {K : St → Prop} (hK : appW d i.size i.bytes z x m ys ρ L σ G K) :
    ∃ st v w', K st ∧ (Builtin.append_ #[t, u] ty #[xv, yv]).run P w = .ok v w' ∧ Rel S ms ow base O st.1 st.2.1 st.2.2.1 st.2.2.2 (a.put d v) w' ∧ Evo base O S w S w' ∧ Shape σ st.2.2.1 := by
  unfold appW at hK
  split at hK
  · have hxv := VRD.nilS_inv hx
    split at hK
    · rename_i hm
      exact ⟨_, _, _, hK, rsame none 0 0 hm hxv rfl rfl rfl, h.put (x := .d .nilS) VRD.nilS (fun _ _ e => by cases e) hd, Evo.refl _ _ _ _, Shape.refl _⟩
    · rename_i hm
      have hc : 0 < 0 + m := by omega
      obtain ⟨h63, hfit⟩ := grow_fits (n := 0) (m := m) (cap := 0) rfl hby hc hK.1
      have hso : SrcOk P i.size (.slice none 0 0) 0 [] w := ⟨fun w' => by simp [Builtin.lenOf], fun w' _ => by simp [Builtin.firstCells]⟩
      have hr := rgrow none 0 0 [] hxv hso hc h63 hfit
      obtain ⟨st, k1, k2, k3, k4⟩ := grow_ok (e := e) h hd hK hzs hzo (ov := []) VRDs.nil rfl hvn hon (grownCap_ge w (0 + m) 0 e)
      exact ⟨st, _, _, k1, hr, k2, k3, k4⟩
  · rename_i b off n cap
    obtain ⟨hxv, hnc⟩ : xv = .slice (some ⟨b, off, none⟩) n cap ∧ n ≤ cap := by cases hx; rename_i hh; exact ⟨rfl, hh⟩
    split at hK
    · rename_i cs hcs
      obtain ⟨hfit0, hK⟩ := hK
      obtain ⟨c0, e0, hc0, hvc, hone⟩ := h.h.gbox hcs
      have hcl : c0.size = cs.length := by have := hvc.1; simpa using this
      have hnl : news.length = m * i.size := by rw [hvn.1, hyl]
      split at hK
      · rename_i hroom
        obtain ⟨hfit, hk⟩ := hK
        have hr := rroom b off n cap c0 e0 hxv hc0 hroom (by rw [hnl, hcl]; rw [Nat.add_mul] at hfit; omega)
        have hbox := gbox_over (w := w) hc0 hvc hone hvn hon (off + n * i.size)
        exact ⟨_, _, _, hk, hr, (h.storeG hcs (by simp) (fun i hi => setRow_other w b i _ hi) hbox).put (x := .d (.gs b off (n + m) cap)) (VRD.gs _ _ _ _ hroom) (fun _ _ e => by cases e) hd,
          Evo.store (b := b) (by simp) (fun i hi => setRow_other w b i _ hi) (h.gold hcs) rfl rfl rfl, Shape.refl _⟩
      · rename_i hroom
        have hc : cap < n + m := by omega
        obtain ⟨h63, hfit⟩ := grow_fits (n := n) (m := m) (cap := cap) rfl hby hc hK.1
        have hvw : viewC G i.size (.gs b off n cap) = some (n, (cs.drop off).take (n * i.size)) := by simp [viewC, hcs, hfit0]
        obtain ⟨olds, hso, hvo, hoo, _⟩ := SrcOk.of_view (P := P) h.h hvw (hxv ▸ hx)
        have hr := rgrow _ n cap olds hxv hso hc h63 hfit
        obtain ⟨st, k1, k2, k3, k4⟩ := grow_ok (e := e) h hd hK hzs hzo hvo hoo hvn hon (grownCap_ge w (n + m) cap e)
        exact ⟨st, _, _, k1, hr, k2, k3, k4⟩
    · exact hK.elim
  · exact hK.elim
end
end Go.E2
