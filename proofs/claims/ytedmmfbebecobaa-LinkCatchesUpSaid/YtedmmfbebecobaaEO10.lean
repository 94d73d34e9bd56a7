/-
  Operations on maps, and those that lay new blocks: what the evaluator says of them, the machine does.
  Conditions: none; laws.
-/
import Derived.Test.YtedmmfbebecobaaEO7
import Derived.MapKept
import Derived.RangeFuncRecord
import Derived.Maps.RangeRun
namespace Go.E2
open Go.MapKept
section
variable {S : Stb} {ms : List (Nat → Nat)} {ow : Nat → Option Nat} {base : Nat} {O : Nat → Prop} {ρ : Env} {L : Hp} {σ : List Hp} {G : Gh} {a : Act} {w : World} {c : Ctx} {o : Oper}
theorem BoxAt.heap {b : Nat} {cs : List D} (h : BoxAt S w b cs) : ∃ vs e, w.heap[b]? = some (.cells vs e (0, 0)) := by
  obtain ⟨vs, e, h1, _⟩ := h; exact ⟨vs, e, h1⟩
/-- The world changes but for rows of cells. -/
theorem Rel.worldM (h : Rel S ms ow base O ρ L σ G a w) {G' : Gh} {w' : World} (hc : G'.c = G.c) (hx : RelX S G' w') (hsz : w.heap.size ≤ w'.heap.size)
    (hw : ∀ (b : Nat) (o : Obj), w.heap[b]? = some o → isM o = false → w'.heap[b]? = some o) (hm : ∀ b o, G'.m b = some o → b < base → O b) : Rel S ms ow base O ρ L σ G' a w' := by
  have keepB : ∀ {b cs}, BoxAt S w b cs → w'.heap[b]? = w.heap[b]? := fun hb => by
    obtain ⟨vs, e, h1⟩ := hb.heap
    rw [h1, hw _ _ h1 rfl]
  have at_ : ∀ {b cs}, G' b = some cs → G b = some cs := fun {b cs} hb => by rw [hc] at hb; exact hb
  refine { h := ⟨fun ad v hs => ?_, h.h.len, fun hl => (h.h.box hl).mono (Sub.refl S) (keepB (h.h.box hl)), h.h.nos, h.h.inj, fun hb => (h.h.gbox (at_ hb)).mono (Sub.refl S) (keepB (h.h.gbox (at_ hb))), fun hb => h.h.gnos (at_ hb), fun hb => h.h.gnl (at_ hb), hx⟩,
           tmp := h.tmp, own := fun {i sz es} hi => ?_, ownI := h.ownI, ownB := fun {i sz es g} hi gi => ⟨(h.ownB hi gi).1, by rw [hc]; exact (h.ownB hi gi).2.1, (h.ownB hi gi).2.2⟩, new := h.new, old := h.old, gold := fun hb => h.gold (at_ hb), mold := fun hb => hm _ _ hb,
           dfs := h.dfs.keep fun r _ hr => hw r _ hr rfl, bas := Nat.le_trans h.bas hsz }
  · have h1 := h.h.sub _ _ hs
    unfold World.cell? at h1 ⊢
    split at h1
    · rename_i c0 e0 f0 e1
      rw [hw _ _ e1 rfl]
      exact h1
    · cases h1
  · have ho := h.own hi
    refine ho.mono (Sub.refl S) (fun g hg => ?_) (fun _ _ _ _ => rfl)
    rw [hg] at ho
    obtain ⟨cap, cur, e, _, h2, _⟩ := ho
    rw [h2, hw _ _ h2 rfl]
theorem putObj_at {r : Nat} {obj : Obj} (hr : r < w.heap.size) (b : Nat) : (w.putObj r obj).heap[b]? = if b = r then some obj else w.heap[b]? := by
  by_cases h : b = r
  · subst h; rw [if_pos rfl]; exact World.putObj_heap_same hr
  · rw [if_neg h]; exact World.putObj_heap_other h
/-- A map, a walk or a range is another one now. -/
theorem Rel.setM (h : Rel S ms ow base O ρ L σ G a w) {r : Nat} {o0 o1 : MO} {obj : Obj} (hr : G.m r = some o0) (hk : MOk S (some obj) o1) :
    Rel S ms ow base O ρ L σ (G.setM r (some o1)) a (w.putObj r obj) ∧ Evo base O S w S (w.putObj r obj) := by
  have hlt := h.h.x.lt hr
  obtain ⟨x0, hx0, hi0⟩ := h.h.x.get hr
  refine ⟨h.worldM rfl (fun b o hb => ?_) (by simp) (fun b o hb ho => ?_) (fun b o hb hlb => ?_), ⟨by simp, fun b hb hn => ?_, fun _ _ => rfl, Sub.refl S, rfl, rfl, rfl⟩⟩
  · rw [putObj_at hlt]
    simp only [Gh.setM_m, upd] at hb
    split at hb
    · rename_i e; subst e; cases hb; rw [if_pos rfl]; exact hk
    · rename_i e; rw [if_neg e]; exact h.h.x b o hb
  · rw [putObj_at hlt, if_neg]
    · exact hb
    · rintro rfl; rw [hx0] at hb; cases hb; rw [hi0] at ho; cases ho
  · simp only [Gh.setM_m, upd] at hb
    split at hb
    · rename_i e; subst e; exact h.mold hr hlb
    · exact h.mold hb hlb
  · rw [putObj_at hlt, if_neg]
    rintro rfl
    exact hn (h.mold hr hb)
theorem Rel.m_none (h : Rel S ms ow base O ρ L σ G a w) : G.m w.heap.size = none := by
  cases hg : G.m w.heap.size with
  | none => rfl
  | some c => have := h.h.x.lt hg; omega
/-- A new map, walk or range. -/
theorem Rel.newM (h : Rel S ms ow base O ρ L σ G a w) {o1 : MO} {obj : Obj} (hk : MOk S (some obj) o1) :
    Rel S ms ow base O ρ L σ (G.setM w.heap.size (some o1)) a (w.alloc obj) ∧ Evo base O S w S (w.alloc obj) := by
  refine ⟨h.worldM rfl (fun b o hb => ?_) (by rw [size_push]; omega) (fun b o hb _ => ?_) (fun b o hb hlb => ?_), Evo.alloc h.bas _⟩
  · simp only [Gh.setM_m, upd] at hb
    split at hb
    · rename_i e; subst e; cases hb; rw [heap_push_new]; exact hk
    · rw [heap_push_old (h.h.x.lt hb)]; exact h.h.x b o hb
  · rw [heap_push_old (Array.getElem?_eq_some_iff.1 hb).1]; exact hb
  · simp only [Gh.setM_m, upd] at hb
    split at hb
    · rename_i e; subst e; exact absurd h.bas (by omega)
    · exact h.mold hb hlb
theorem RelH.drawn {lv : List Hp} (h : RelH S ms lv G w) (d : Nat) : RelH S ms lv G { w with drawn := d } := ⟨h.sub, h.len, h.box, h.nos, h.inj, h.gbox, h.gnos, h.gnl, h.x⟩
theorem Rel.drawn (h : Rel S ms ow base O ρ L σ G a w) (d : Nat) : Rel S ms ow base O ρ L σ G a { w with drawn := d } :=
  { h := h.h.drawn d, tmp := h.tmp, own := fun {i sz es} hi => by
      have := h.own hi
      cases ho : ow i with
      | none => rw [ho] at this; exact this
      | some g => rw [ho] at this; exact this
    ownI := h.ownI, ownB := h.ownB, new := h.new, old := h.old, gold := h.gold, mold := h.mold, dfs := h.dfs, bas := h.bas }
theorem Evo.drawn (d : Nat) {S' : Stb} {w' : World} (h : Evo base O S { w with drawn := d } S' w') : Evo base O S w S' w' :=
  ⟨h.sz, h.keep, h.st, h.sub, h.os, h.tape, h.out⟩
/-- What an operation gives goes into its slot. -/
theorem Step.mk' {P : Program} {G' : Gh} {r : AV} {v : Value} {w' : World} (h : Rel S ms ow base O ρ L σ G a w) (hd : ∀ i, o.dst = some i → i < a.tmps.size) (hrun : (execOp a.eval o).run P w = .ok (.value v) w' ∨ ((execOp a.eval o).run P w = .ok .skip w' ∧ v = undef))
    (hrel : Rel S ms ow base O ρ L σ G' a w') (hevo : Evo base O S w S w') (hv : VR S (L :: σ) ms r v) (hno : ∀ sz es, r ≠ .own sz es) : Step P S ms ow base O σ a w o (put ρ o.dst r, L, σ, G') := by
  obtain ⟨m, hm⟩ := own_data h
  exact ⟨v, w', S, m, ow, hrun, by rw [← hm]; exact hrel.put hv hno hd, hevo, Shape.refl _⟩
/-! ### operands -/
theorem datas_cons {x : AO} {xs : List AO} {vs : List D} (h : datas ρ (x :: xs) = some vs) : ∃ d ds, vs = d :: ds ∧ (ev ρ x).data = some d ∧ datas ρ xs = some ds := by
  simp only [datas] at h
  split at h
  · rename_i d ds h1 h2; cases h; exact ⟨d, ds, rfl, h1, h2⟩
  · cases h
theorem datas_nil {vs : List D} (h : datas ρ [] = some vs) : vs = [] := by simp [datas] at h; exact h
theorem arg_ok (ht : ∀ i, VR S (L :: σ) ms (ρ i) (a.tmps.getD i undef)) {p : Operand} {x : AO} (hx : cO p = some x) {d : D} (hd : (ev ρ x).data = some d) : VRD S d (a.eval p) := (operand_ok ht hx).data hd
/-! ### keys -/
theorem cellEq_same {kd : Kd} {d : TypeDesc} (hd : (d = .bool ∧ kd = .b) ∨ (∃ k, d = .int k ∧ kd = .i) ∨ (d = .string ∧ kd = .s)) {x y : D} {u v : Value} (hx : VRD S x u) (hy : VRD S y v) {r : Bool} (h : cellEq kd x y = some r) : Instr.sameNow d u v = some r := by
  rcases hd with ⟨rfl, rfl⟩ | ⟨k, rfl, rfl⟩ | ⟨rfl, rfl⟩
  · cases x <;> cases y <;> simp [cellEq] at h
    rw [hx.bool_inv, hy.bool_inv]; simp [Instr.sameNow, h]
  · cases x <;> cases y <;> simp [cellEq] at h
    rw [hx.int_inv, hy.int_inv]; simp [Instr.sameNow, h]
  · cases x <;> cases y <;> simp [cellEq] at h
    obtain ⟨s, rfl, rfl⟩ := hx.str_inv
    obtain ⟨s', rfl, rfl⟩ := hy.str_inv
    simp only [Instr.sameNow, Option.some.injEq]
    rw [← h]
    by_cases e : s = s'
    · subst e; rw [(bytes_beq s s).2 rfl]; simp
    · have h1 : (s == s') = false := Bool.eq_false_iff.2 fun e2 => e ((bytes_beq _ _).1 e2)
      have h2 : s.data.toList ≠ s'.data.toList := fun e2 => e (by cases s; cases s'; simp at e2 ⊢; exact e2)
      rw [h1]; simpa using h2
def FindOk (S : Stb) : Option (Nat × D) → Option (Nat × Value) → Prop
  | none, none => True
  | some (i, x), some (j, u) => i = j ∧ VRD S x u
  | _, _ => False
theorem findNow_ok {kd : Kd} {d : TypeDesc} (hd : (d = .bool ∧ kd = .b) ∨ (∃ k, d = .int k ∧ kd = .i) ∨ (d = .string ∧ kd = .s)) {key : D} {kv : Value} (hv : VRD S key kv) (h1 : key.one = true) :
    ∀ (es : List ME) (vs : List MapEntry) (i : Nat) (r : Option (Nat × D)), vs.length = es.length → (∀ (j : Nat) (e : ME) (v : MapEntry), es[j]? = some e → vs[j]? = some v → EntOk S e v) → mfind [kd] key es i = some r →
      ∃ r', Instr.findNow d kv vs i = some r' ∧ FindOk S r r'
  | [], [], i, r, _, _, h => by simp [mfind] at h; subst h; exact ⟨none, rfl, trivial⟩
  | [], _ :: _, i, r, hl, _, _ => by simp at hl
  | _ :: _, [], i, r, hl, _, _ => by simp at hl
  | e :: es, v :: vs, i, r, hl, he, h => by
    have h0 := he 0 e v rfl rfl
    simp only [mfind] at h
    rw [D.cells_one h1] at h
    have key1 : ∀ {b}, (if key.one = e.k.one then cellsEq [kd] [key] e.k.cells else none) = some b → Instr.sameNow d kv v.key = some b := by
      intro b hb
      split at hb
      · rename_i e1
        rw [D.cells_one (e1 ▸ h1)] at hb
        simp only [cellsEq] at hb
        split at hb
        · rename_i r1 hr1
          simp at hb
          subst hb
          exact cellEq_same hd hv h0.1 hr1
        · cases hb
      · cases hb
    split at h
    · rename_i hb
      cases h
      exact ⟨some (i, v.val), by simp [Instr.findNow, key1 hb], rfl, h0.2.1⟩
    · rename_i hb
      obtain ⟨r', hr', hf⟩ := findNow_ok hd hv h1 es vs (i + 1) r (by simpa using hl) (fun j e' v' a b => he (j + 1) e' v' (by simpa using a) (by simpa using b)) h
      exact ⟨r', by simp [Instr.findNow, key1 hb, hr'], hf⟩
    · cases h
/-- A key is looked for. -/
theorem key_ok {P : Program} {kt : TypeId} {ks : List Kd} (hk : keyK P kt = some ks) {key : D} {kv : Value} (hv : VRD S key kv) (hok : keyOk ks key = true) (w : World) :
    (∀ em, (Instr.checkKey em 10000 kt kv).run P w = .ok () w) ∧
    (∀ n, Instr.sameBits (n + 1) kv kv = true) ∧
    ∀ (es : List ME) (vs : Array MapEntry) (r : Option (Nat × D)), vs.size = es.length → (∀ (j : Nat) (e : ME) (v : MapEntry), es[j]? = some e → vs[j]? = some v → EntOk S e v) → mfind ks key es 0 = some r →
      ∃ r', (Instr.findKey kt kv vs.toList).run P w = .ok r' w ∧ FindOk S r r' := by
  obtain ⟨d, kd, hu, rfl, hd⟩ : ∃ d kd, P.underlying kt = some d ∧ ks = [kd] ∧ ((d = .bool ∧ kd = .b) ∨ (∃ k, d = .int k ∧ kd = .i) ∨ (d = .string ∧ kd = .s)) := by
    unfold keyK at hk
    split at hk
    · rename_i hu; cases hk; exact ⟨_, _, hu, rfl, .inl ⟨rfl, rfl⟩⟩
    · rename_i hu; cases hk; exact ⟨_, _, hu, rfl, .inr (.inl ⟨_, rfl, rfl⟩)⟩
    · rename_i hu; cases hk; exact ⟨_, _, hu, rfl, .inr (.inr ⟨rfl, rfl⟩)⟩
    · cases hk
  simp only [keyOk, List.length_singleton, bne_self_eq_false, Bool.or_false, Bool.and_eq_true] at hok
  obtain ⟨h1, h2⟩ := hok
  rw [D.cells_one h1] at h2
  have hshape : (∀ em n, (Instr.checkKey em (n + 1) kt kv).run P w = .ok () w) ∧ ∀ n, Instr.sameBits (n + 1) kv kv = true := by
    rcases hd with ⟨rfl, rfl⟩ | ⟨k, rfl, rfl⟩ | ⟨rfl, rfl⟩
    · cases key <;> simp [cellsEq, cellEq] at h2
      rw [hv.bool_inv]; exact ⟨fun em n => by simp [Instr.checkKey, run_underlying hu, Result.andThen], fun n => by simp [Instr.sameBits]⟩
    · cases key <;> simp [cellsEq, cellEq] at h2
      rw [hv.int_inv]; exact ⟨fun em n => by simp [Instr.checkKey, run_underlying hu, Result.andThen], fun n => by simp [Instr.sameBits]⟩
    · cases key <;> simp [cellsEq, cellEq] at h2
      obtain ⟨s, rfl, _⟩ := hv.str_inv
      exact ⟨fun em n => by simp [Instr.checkKey, run_underlying hu, Result.andThen], fun n => by simp only [Instr.sameBits]; exact (bytes_beq s s).2 rfl⟩
  refine ⟨fun em => hshape.1 em 9999, hshape.2, fun es vs r hl he hf => ?_⟩
  obtain ⟨r', hr', hfo⟩ := findNow_ok hd hv h1 es vs.toList 0 r (by simpa using hl) (fun j e v a b => he j e v a (by simpa using b)) hf
  exact ⟨r', run_findKey hu hr', hfo⟩
end
end Go.E2
