/-
  How a contract becomes the statement of a law: whatever the arguments, the call gives true, and they read as they did.
  Conditions: none; laws.
-/
import Derived.Test.YtpooocblijlabaaEL1
import Derived.RowKit
import Derived.RowKit3
namespace Go.E2
open Go.ChangeShapes Go.WideShapes Go.RowKit
theorem okWide_spot {P : Program} {w : World} {r : Reach} {b : Nat} {u : TypeId} {a : Addr} {l c : Nat} (h : Cell.okWide P w r b u (.slice (some a) l c)) : a.spot = none := by
  unfold Cell.okWide Cell.ok at h
  generalize P.underlying u = d at h
  cases d with
  | none => exact h.elim
  | some d =>
    cases d with
    | slice e => exact h.2.2.2.1
    | _ => exact h.elim
theorem okWide_noSpot {P : Program} {w : World} {r : Reach} {b : Nat} {t : TypeId} {cs : Array Value} (h : Row.okWide P w r b t cs) : NoSpot cs.toList := by
  intro a l c hm
  obtain ⟨ts, _, _, hc⟩ := h
  obtain ⟨i, hi⟩ := List.getElem?_of_mem hm
  obtain ⟨u, _, hu⟩ := hc i _ (by simpa using hi)
  exact okWide_spot hu
/-- What an argument of a type reads as. -/
def ReadsV (P : Program) (t : TypeId) (R : D → Prop) : Prop :=
  ∀ {H : Type} (enc : TypeId × Value → H) (w : World) (r : Reach) (base : Nat) (v : Value) (d0 : DataW H) (ps : List MemPlace), Value.okWide P w r base t v → DataW.Trod enc P w 0 (fun _ => true) true t v d0 ps →
    ∃ d, R d ∧ VRD (stb w) d v ∧ ∀ (w' : World) (sp : Nat → Bool), Keep w w' → (∀ p ∈ ps, sp p.block = true) → DataW.Trod enc P w' 0 sp true t v d0 ps
theorem readsV_struct {P : Program} {t : TypeId} {s : Bool} {fs : Array Field} {R : D → Prop} (ht : P.underlying t = some (.struct fs)) (h : Reads P t s R) (hR : ∀ d, R d → ∃ cs, d = .agg cs) : ReadsV P t R := by
  intro H enc w r base v d0 ps hok ⟨fuel, htr⟩
  unfold Value.okWide at hok
  rw [ht] at hok
  obtain ⟨cs, rfl, hsz, hrow⟩ := hok
  have htr' : DataW.trod enc P w 0 (fun _ => true) true fuel t cs.toList = some (d0, ps) := htr
  obtain ⟨d, hRd, hso, hv, hk⟩ := h enc w fuel cs.toList _ (fun _ => okWide_noSpot hrow) htr'
  obtain ⟨ds, rfl⟩ := hR d hRd
  refine ⟨.agg ds, hRd, ?_, fun w' sp hkk hp => ⟨fuel, hk w' sp hkk hp⟩⟩
  have hv' : VRDs (stb w) ds cs.toList := hv
  exact .agg ds cs (by simpa using hv'.1) (sizeOk_one hso) fun j x v a b => hv'.2 j x v a (by simpa using b)
theorem readsV_one {P : Program} {t : TypeId} {s : Bool} {R : D → Prop} (hn : ∀ fs, P.underlying t ≠ some (.struct fs)) (hn2 : ∀ n e, P.underlying t ≠ some (.array n e)) (hcell : ∀ v : Value, (∃ cs, v = .agg cs) → ∀ (w : World) (r : Reach) (b : Nat), ¬ Cell.okWide P w r b t v)
    (h : Reads P t s R) (hR : ∀ d, R d → d.one = true) : ReadsV P t R := by
  intro H enc w r base v d0 ps hok ⟨fuel, htr⟩
  have hok' : Cell.okWide P w r base t v := by
    unfold Value.okWide at hok
    split at hok
    · rename_i fs e; exact absurd e (hn fs)
    · rename_i n e' e; exact absurd e (hn2 n e')
    · exact hok
  have hc : v.cells.toList = [v] := by
    cases v with
    | agg cs => exact absurd hok' (hcell _ ⟨cs, rfl⟩ w r base)
    | _ => rfl
  rw [hc] at htr
  obtain ⟨d, hRd, hso, hv, hk⟩ := h enc w fuel [v] _ (fun _ a l c hm => by
    rw [List.mem_singleton] at hm
    subst hm
    exact okWide_spot hok') htr
  have h1 := hR d hRd
  have hd : d.cells = [d] := by cases d <;> simp [D.one, D.cells] at h1 ⊢
  rw [hd] at hv
  refine ⟨d, hRd, hv.2 0 d v rfl rfl, fun w' sp hkk hp => ⟨fuel, ?_⟩⟩
  rw [hc]
  exact hk w' sp hkk hp
theorem readsV_int {P : Program} {t : TypeId} {k : IntKind} (ht : P.underlying t = some (.int k)) : ReadsV P t fun d => ∃ n, (Lit.int k n).wf = true ∧ d = .int k n :=
  readsV_one (fun fs e => by rw [ht] at e; cases e) (fun n e' e => by rw [ht] at e; cases e) (fun v ⟨cs, e⟩ w r b h => by subst e; simp [Cell.okWide, Cell.ok, ht] at h) (reads_int ht) fun d ⟨n, _, e⟩ => by subst e; rfl
theorem readsV_string {P : Program} {t : TypeId} (ht : P.underlying t = some .string) : ReadsV P t fun d => ∃ s : List UInt8, s.length ≤ maxLen ∧ d = .str s :=
  readsV_one (fun fs e => by rw [ht] at e; cases e) (fun n e' e => by rw [ht] at e; cases e) (fun v ⟨cs, e⟩ w r b h => by subst e; simp [Cell.okWide, Cell.ok, ht] at h) (reads_string ht) fun d ⟨n, _, e⟩ => by subst e; rfl
theorem readsV_bool {P : Program} {t : TypeId} (ht : P.underlying t = some .bool) : ReadsV P t fun d => ∃ b, d = .bool b :=
  readsV_one (fun fs e => by rw [ht] at e; cases e) (fun n e' e => by rw [ht] at e; cases e) (fun v ⟨cs, e⟩ w r b h => by subst e; simp [Cell.okWide, Cell.ok, ht] at h) (reads_bool ht) fun d ⟨n, e⟩ => by subst e; rfl
theorem readsV_slice {P : Program} {t e : TypeId} {sz : Nat} {R : D → Prop} (ht : P.underlying t = some (.slice e)) (hc : P.cellsOf e = sz) (hpos : 0 < sz) (he : Reads P e false R) :
    ReadsV P t fun d => ∃ es : List D, (∀ x ∈ es, R x) ∧ es.length ≤ maxLen ∧ es.all (sizeOk sz) = true ∧ d = .list es :=
  readsV_one (fun fs e => by rw [ht] at e; cases e) (fun n e' e => by rw [ht] at e; cases e) (fun v ⟨cs, e⟩ w r b h => by subst e; simp [Cell.okWide, Cell.ok, ht] at h) (reads_slice ht hc hpos he) fun d ⟨es, _, _, _, e⟩ => by subst e; rfl
theorem reads_mono {P : Program} {t : TypeId} {s : Bool} {R R' : D → Prop} (h : Reads P t s R) (hr : ∀ d, R d → R' d) : Reads P t s R' := by
  intro H enc w fuel cs x hns htr
  obtain ⟨d, h1, h2⟩ := h enc w fuel cs x hns htr
  exact ⟨d, hr d h1, h2⟩
theorem readsV_mono {P : Program} {t : TypeId} {R R' : D → Prop} (h : ReadsV P t R) (hr : ∀ d, R d → R' d) : ReadsV P t R' := by
  intro H enc w r base v d0 ps hok htr
  obtain ⟨d, h1, h2⟩ := h enc w r base v d0 ps hok htr
  exact ⟨d, hr d h1, h2⟩
theorem reads_up {P : Program} {t : TypeId} {R : D → Prop} (h : Reads P t false R) : Reads P t true R := by
  intro H enc w fuel cs x _ htr
  exact h enc w fuel cs x (fun e => by cases e) htr
theorem parts_cons {R : D → Prop} {Rs : List (D → Prop)} {ds : List D} (h : Parts (R :: Rs) ds) : ∃ d ds', ds = d :: ds' ∧ R d ∧ Parts Rs ds' := by
  cases ds with
  | nil => exact h.elim
  | cons d ds => exact ⟨d, ds, rfl, h.1, h.2⟩
theorem parts_nil {ds : List D} (h : Parts [] ds) : ds = [] := by
  cases ds with
  | nil => rfl
  | cons d ds => exact h.elim
/-- The fields of a struct by their places and types. -/
def LayL (P : Program) (s : Bool) : Nat → List (Nat × TypeId) → List (D → Prop) → Prop
  | _, [], [] => True
  | off, (o, t) :: l, R :: Rs => o = off ∧ Reads P t s R ∧ LayL P s (off + P.cellsOf t) l Rs
  | _, _, _ => False
theorem lay_of {P : Program} {s : Bool} : ∀ {fl : List Field} {l : List (Nat × TypeId)} {Rs : List (D → Prop)} {off : Nat}, fl.map (fun f => (f.offset, f.type)) = l → LayL P s off l Rs → Lay P s off fl Rs
  | [], l, [], off, e, h => trivial
  | [], l, _ :: _, off, e, h => by simp at e; subst e; exact h.elim
  | f :: fl, l, Rs, off, e, h => by
    cases l with
    | nil => simp at e
    | cons p l =>
      simp at e
      obtain ⟨rfl, e⟩ := e
      cases Rs with
      | nil => exact h.elim
      | cons R Rs => exact ⟨h.1, h.2.1, lay_of e h.2.2⟩
def fieldsOf (P : Program) (t : TypeId) : Array Field := match P.underlying t with | some (.struct fs) => fs | _ => #[]
theorem exists_map {α : Type} {f : α → D} {p : α → Prop} : ∀ {es : List D}, (∀ x ∈ es, ∃ a, p a ∧ x = f a) → ∃ l : List α, (∀ a ∈ l, p a) ∧ es = l.map f
  | [], _ => ⟨[], fun a h => (by cases h), rfl⟩
  | e :: es, h => by
    obtain ⟨a, ha, rfl⟩ := h e List.mem_cons_self
    obtain ⟨l, hl, rfl⟩ := exists_map fun x hx => h x (List.mem_cons_of_mem _ hx)
    exact ⟨a :: l, fun b hb => by rcases List.mem_cons.1 hb with rfl | hb; exact ha; exact hl b hb, rfl⟩
def LayV (P : Program) : List TypeId → List (D → Prop) → Prop
  | [], [] => True
  | t :: ts, R :: Rs => ReadsV P t R ∧ LayV P ts Rs
  | _, _ => False
theorem args_read {P : Program} {H : Type} (enc : TypeId × Value → H) (w : World) (base : Nat) : ∀ (ts : List TypeId) (Rs : List (D → Prop)) (vs : List Value) (ds : List (DataW H)) (ps : List MemPlace), LayV P ts Rs →
    (∀ (j : Nat) t v, ts[j]? = some t → vs[j]? = some v → Value.okWide P w .any base t v) → DataW.TrodAll enc P w 0 (fun _ => true) true ts vs ds ps →
    ∃ xs : List D, Parts Rs xs ∧ VRDs (stb w) xs vs ∧ ∀ (w' : World) (sp : Nat → Bool), Keep w w' → (∀ p ∈ ps, sp p.block = true) → DataW.TrodAll enc P w' 0 sp true ts vs ds ps
  | [], [], vs, ds, ps, _, _, h => by
    obtain ⟨rfl, rfl, rfl⟩ := trodAll_nil h
    exact ⟨[], trivial, ⟨rfl, fun j x v h => by simp at h⟩, fun _ _ _ _ => trodAll_mk0⟩
  | t :: ts, R :: Rs, vs, ds, ps, hl, hval, h => by
    obtain ⟨v, vs1, d, ds1, p, q, rfl, rfl, rfl, h1, h2⟩ := trodAll_cons h
    obtain ⟨x, hR, hv, hk⟩ := hl.1 enc w .any base v d p (hval 0 t v rfl rfl) h1
    obtain ⟨xs, hP, hvs, hks⟩ := args_read enc w base ts Rs vs1 ds1 q hl.2 (fun j t' v' a b => hval (j + 1) t' v' (by simpa using a) (by simpa using b)) h2
    refine ⟨x :: xs, ⟨hR, hP⟩, ⟨by simp [hvs.1], fun j y u a b => ?_⟩, fun w' sp hkk hp => trodAll_cons_mk (hk w' sp hkk fun z hz => hp z (List.mem_append_left _ hz)) (hks w' sp hkk fun z hz => hp z (List.mem_append_right _ hz))⟩
    cases j with
    | zero => simp at a b; subst a; subst b; exact hv
    | succ j => exact hvs.2 j y u (by simpa using a) (by simpa using b)
  | [], _ :: _, _, _, _, hl, _, _ => hl.elim
  | _ :: _, [], _, _, _, hl, _, _ => hl.elim
theorem keep_keptBut {w w' : World} (hk : Keep w w') (ho : w'.os = w.os) (hp : w'.output = w.output) (may : MemPlace → Prop) : w.keptBut w' may := by
  refine ⟨ho, hp, fun i hi => ?_⟩
  rw [hk i hi]
  generalize w.heap[i]? = o
  cases o with
  | none => rfl
  | some x =>
    cases x with
    | cells c t fr => exact ⟨rfl, rfl, rfl, fun _ _ => rfl⟩
    | map es clock => exact .inr ⟨rfl, rfl⟩
    | _ => rfl
theorem trodAll_len {P : Program} {H : Type} {enc : TypeId × Value → H} {w : World} {base : Nat} {spare : Nat → Bool} {held : Bool} : ∀ {ts : List TypeId} {vs : List Value} {ds : List (DataW H)} {ps : List MemPlace}, DataW.TrodAll enc P w base spare held ts vs ds ps → ds.length = ts.length
  | [], vs, ds, ps, h => by obtain ⟨rfl, rfl, rfl⟩ := trodAll_nil h; rfl
  | t :: ts, vs, ds, ps, h => by
    obtain ⟨v, vs1, d, ds1, p, q, rfl, rfl, rfl, h1, h2⟩ := trodAll_cons h
    simp [trodAll_len h2]
theorem stb_rel (w : World) : RelH (stb w) [] [] noGh w := by
  refine ⟨fun ad v hs => ?_, rfl, fun ⟨x, m, h1, _⟩ => by simp at h1, fun ⟨x, m, h1, _⟩ => by simp at h1, fun ⟨x, m, h1, _⟩ => by simp at h1, fun h => (by cases h), fun h => (by cases h), fun h => (by cases h)⟩
  simp only [stb] at hs
  split at hs
  · exact hs
  · cases hs
theorem keep_frozen {w w' : World} (hk : Keep w w') {a : Addr} (ha : a.block < w.heap.size) : w'.frozen? a = w.frozen? a := by
  unfold World.frozen?; rw [hk _ ha]
/-- **A contract that says 'true' is what the statement of a law asks for.** -/
theorem law_contract {P : Program} {f : FuncId} {fn : Func} {s : ChangeSpec} {apart fresh handsOn again : Bool} {Rs : List (D → Prop)} {tb : TypeId} (hc : Called P f) (hvars : s.vars = []) (hlay : LayV P fn.params.toList Rs) (hres : fn.resultTypes = #[tb]) (htb : P.underlying tb = some .bool)
    (hs : ∀ (H : Type) (ds : List (DataW H)), ds.length = fn.params.size → (s.fn H ds).results = [.lit (.bool true)] ∧ (s.fn H ds).args = ds ∧ (s.fn H ds).vars = [])
    (hcall : ∀ xs, Parts Rs xs → CallP P f xs (· = .d (.bool true)))
    {H : Type} {enc : TypeId × Value → H} {W : World} {base : Nat} {args : Array Value} {ds gs : List (DataW H)} {before : List MemPlace}
    (hval : ∀ (j : Nat) t v, fn.params[j]? = some t → args[j]? = some v → Value.okWide P W .any base t v)
    (hW : DataW.Whole enc P fn.params.toList s.vars apart W args.toList ds gs before) :
    Calls P f args W fun e W' => ∃ v, e = .returned v ∧ s.post enc P fn apart fresh handsOn again W args v W' := by
  have hW' := hW
  obtain ⟨p, q, hA, hV, rfl, hfz, hnd⟩ := hW
  have hlt := hW'.lt
  have hV0 := hV
  rw [hvars] at hV0
  obtain ⟨rfl, rfl⟩ := trodVars_none hV0
  obtain ⟨xs, hP, hxs, hk⟩ := args_read enc W base _ Rs _ ds p hlay (fun j t v a b => hval j t v (by simpa using a) (by simpa using b)) hA
  have hdl : ds.length = fn.params.size := by rw [trodAll_len hA]; simp
  obtain ⟨s1, s2, s3⟩ := hs H ds hdl
  have hC := hcall xs hP (stb W) [] W args (fun _ => 0) (by rw [List.length_map, ← hxs.1]; simp) (stb_rel W) (fun i => by
    rcases ofL_d (xs := xs) (i := i) with e | ⟨x, hx, e⟩
    · rw [e]; trivial
    · rw [e]
      have hi : i < args.size := by have := (List.getElem?_eq_some_iff.1 hx).1; rw [← hxs.1] at this; simpa using this
      have hv := hxs.2 i x args[i] hx (by simp [hi])
      have e2 : args.getD i undef = args[i] := by simp [Array.getD, hi]
      rw [e2]; exact hv) ofL_not_own
  rcases hC with ⟨_, h⟩ | ⟨v, w', h, _⟩
  · refine h.mono fun e W' ⟨v, he, S', r, σ', G', ⟨h1, h2, hr⟩, _, hev, _, hret, _⟩ => ⟨v, he, ?_⟩
    subst hr
    have hvb : v = .bool true := by
      have hret' : VRD S' (.bool true) v := hret
      cases hret'; rfl
    subst hvb
    have hkeep : Keep W W' := (Evo.all (O := fun _ => False) hev).2
    have hold : ∀ z ∈ p ++ [], (fun b => decide (b < W.heap.size)) z.block = true := fun z hz => by simpa using hlt z hz
    have hold' : ∀ z ∈ p, (fun b => decide (b < W.heap.size)) z.block = true := fun z hz => hold z (by simpa using hz)
    have hrl : (Value.bool true).resultList fn.resultTypes.size = [.bool true] := by rw [hres]; rfl
    have hds : ds ++ [] = ds := List.append_nil ds
    have hres1 : ∀ (b : Nat) (sp : Nat → Bool) (hd : Bool), DataW.TrodAll enc P W' b sp hd fn.resultTypes.toList ((Value.bool true).resultList fn.resultTypes.size) [.lit (.bool true)] [] := fun b sp hd => by
      rw [hrl, hres]; exact trodAll_cons_mk (shut_bool htb true) trodAll_mk0
    refine ⟨ds, [], p ++ [], [], p, [], hW', ?_, ?_, ?_, ?_, fun _ => ⟨ok_one hres rfl (okWide_bool_mk htb true), [.lit (.bool true)] ++ ds, [], p ++ [], ?_, fun z hz _ => hz⟩⟩
    · rw [hds, s1]; exact hres1 _ _ _
    · rw [hds, s2]; exact hk W' _ hkeep hold'
    · rw [hds, s3, hvars]; rfl
    · exact keep_keptBut hkeep hev.os hev.out _
    · refine ⟨[] ++ p, [], trodAll_append (hk W' _ hkeep fun _ _ => rfl) (hres1 _ _ _), by rw [hvars]; rfl, rfl, fun b off hm => ?_, hnd⟩
      rw [keep_frozen hkeep (by simpa [MemPlace.block] using hlt _ hm)]
      exact hfz b off hm
  · rw [run_callFunc hc] at h
    cases h
end Go.E2
