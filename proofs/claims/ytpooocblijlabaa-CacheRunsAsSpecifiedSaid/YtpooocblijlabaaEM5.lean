/-
  Two operations of a region that draws its order may change places.
  Conditions: none; laws.
-/
import Derived.Test.YtpooocblijlabaaEM4
namespace Go.E2
/-- An operation without a call that may come to several states. -/
def AOp.nd : AOp → Bool
  | .isnil _ _ => true
  | .appG _ _ _ _ _ => true
  | .appZ _ _ _ _ _ => true
  | .mkG _ _ _ _ => true
  | _ => false
def AOp.isNil : AOp → Bool
  | .isnil _ _ => true
  | _ => false
def growN (sz by_ : Nat) (z olds ys : List D) (n m : Nat) (G : Gh) (R : AV → Gh → Prop) : Prop :=
  (n + m) * by_ ≤ mostBytes ∧ ∀ b cap, G b = none → n + m ≤ cap → R (.d (.gs b 0 (n + m) cap)) (upd G b (some (olds ++ ys ++ rep (cap - (n + m)) z)))
def appNd (sz by_ : Nat) (z : List D) (x : D) (m : Nat) (ys : List D) (G : Gh) (R : AV → Gh → Prop) : Prop :=
  match x with
  | .nilS => if m = 0 then R (.d .nilS) G else growN sz by_ z [] ys 0 m G R
  | .gs b off n cap =>
    match G b with
    | some cs =>
      off + n * sz ≤ cs.length ∧
      if n + m ≤ cap then off + (n + m) * sz ≤ cs.length ∧ R (.d (.gs b off (n + m) cap)) (upd G b (some (over cs ys (off + n * sz))))
      else growN sz by_ z ((cs.drop off).take (n * sz)) ys n m G R
    | none => False
  | _ => False
/-- What such an operation gives. -/
def ndW (op : AOp) (ρ : Env) (G : Gh) (R : AV → Gh → Prop) : Prop :=
  match op with
  | .appG sz by_ z x y =>
    match ev ρ x, (ev ρ y).data with
    | .d x, some y => (match viewC G sz y with | some (m, ys) => appNd sz by_ z x m ys G R | none => False)
    | _, _ => False
  | .appZ sz by_ z x n =>
    match ev ρ x, ev ρ n with
    | .d x, .d (.int _ m) => 0 ≤ m ∧ m.toNat * by_ ≤ mostBytes ∧ appNd sz by_ z x m.toNat (rep m.toNat z) G R
    | _, _ => False
  | .mkG sz n z ps =>
    match datas ρ (ps.map (·.2)) with
    | some vs =>
      (vs.all (sizeOk sz) && sizeOk sz z && (ps.all fun p => p.1 < n)) = true ∧
      ∀ b, G b = none → R (.d (.gs b 0 n n)) (upd G b (some (flat ((ps.zip vs).foldl (fun es (p, v) => es.set p.1 v) (List.replicate n z)))))
    | none => False
  | .isnil neg x =>
    match (ev ρ x).data with
    | some (.list []) => ∀ t, R (.d (.bool t)) G
    | _ => ∃ v, evP ρ [] G (.isnil neg x) = some v ∧ R v G
  | _ => False
theorem appW_nd {d : Option Nat} {sz by_ : Nat} {z : List D} {x : D} {m : Nat} {ys : List D} {ρ : Env} {L : Hp} {σ : List Hp} {G : Gh} {K : St → Prop} : appW d sz by_ z x m ys ρ L σ G K = appNd sz by_ z x m ys G fun r G' => K (put ρ d r, L, σ, G') := rfl
theorem stepN_nd {d : Option Nat} {op : AOp} (hn : op.nd = true) {ρ : Env} {L : Hp} {σ : List Hp} {G : Gh} {K : St → Prop} : stepN d op ρ L σ G K ↔ ndW op ρ G fun r G' => K (put ρ d r, L, σ, G') := by
  cases op with
  | appG a b c x y => exact Iff.rfl
  | appZ a b c x y => exact Iff.rfl
  | mkG a b c e => exact Iff.rfl
  | isnil n x =>
    have e : stepOp d (.isnil n x) ρ L σ G = (evP ρ [] G (.isnil n x)).map fun v => ((put ρ d v, L, σ, G) : St) := rfl
    simp only [stepN, ndW, e]
    generalize evP ρ [] G (.isnil n x) = o
    generalize (ev ρ x).data = y
    split <;> cases o <;> simp
  | _ => cases hn
theorem growN_mono {sz by_ : Nat} {z olds ys : List D} {n m : Nat} {G : Gh} {R R' : AV → Gh → Prop} (h : growN sz by_ z olds ys n m G R) (hr : ∀ r G', R r G' → R' r G') : growN sz by_ z olds ys n m G R' := ⟨h.1, fun b cap h1 h2 => hr _ _ (h.2 b cap h1 h2)⟩
theorem appNd_mono {sz by_ : Nat} {z : List D} {x : D} {m : Nat} {ys : List D} {G : Gh} {R R' : AV → Gh → Prop} (h : appNd sz by_ z x m ys G R) (hr : ∀ r G', R r G' → R' r G') : appNd sz by_ z x m ys G R' := by
  unfold appNd at h ⊢
  cases x with
  | nilS =>
    simp only at h ⊢
    split at h
    · rename_i e; rw [if_pos e]; exact hr _ _ h
    · rename_i e; rw [if_neg e]; exact growN_mono h hr
  | gs b off n cap =>
    simp only at h ⊢
    split at h
    · obtain ⟨h1, h2⟩ := h
      refine ⟨h1, ?_⟩
      split at h2
      · rename_i e; rw [if_pos e]; exact ⟨h2.1, hr _ _ h2.2⟩
      · rename_i e; rw [if_neg e]; exact growN_mono h2 hr
    · exact h.elim
  | _ => exact h.elim
theorem ndW_mono {op : AOp} {ρ : Env} {G : Gh} {R R' : AV → Gh → Prop} (h : ndW op ρ G R) (hr : ∀ r G', (op.isNil = true → G' = G) → R r G' → R' r G') : ndW op ρ G R' := by
  cases op with
  | appG a b c x y =>
    simp only [ndW] at h ⊢
    split at h
    · split at h
      · exact appNd_mono h fun r G' => hr r G' (fun e => by cases e)
      · exact h.elim
    · exact h.elim
  | appZ a b c x y =>
    simp only [ndW] at h ⊢
    split at h
    · exact ⟨h.1, h.2.1, appNd_mono h.2.2 fun r G' => hr r G' (fun e => by cases e)⟩
    · exact h.elim
  | mkG a b c e =>
    simp only [ndW] at h ⊢
    split at h
    · exact ⟨h.1, fun b h0 => hr _ _ (fun e => by cases e) (h.2 b h0)⟩
    · exact h.elim
  | isnil n x =>
    simp only [ndW] at h ⊢
    split at h
    · exact fun t => hr _ _ (fun _ => rfl) (h t)
    · obtain ⟨v, h1, h2⟩ := h
      exact ⟨v, h1, hr _ _ (fun _ => rfl) h2⟩
  | _ => exact h.elim
theorem ndW_congr {op : AOp} {ρ1 ρ2 : Env} {G : Gh} (h : ∀ t ∈ op.uses, ρ1 t = ρ2 t) (hn : op.nd = true) {R : AV → Gh → Prop} : ndW op ρ1 G R = ndW op ρ2 G R := by
  cases op with
  | appG a b c x y =>
    simp only [AOp.uses, List.mem_append] at h
    simp only [ndW, ev_congr (o := x) fun t ht => h t (.inl ht), ev_congr (o := y) fun t ht => h t (.inr ht)]
  | appZ a b c x y =>
    simp only [AOp.uses, List.mem_append] at h
    simp only [ndW, ev_congr (o := x) fun t ht => h t (.inl ht), ev_congr (o := y) fun t ht => h t (.inr ht)]
  | mkG a b c e =>
    have : datas ρ1 (e.map (·.2)) = datas ρ2 (e.map (·.2)) := datas_congr fun t ht => h t (by simpa [AOp.uses, List.flatMap_map] using ht)
    simp only [ndW, this]
  | isnil n x =>
    have e1 : ev ρ1 x = ev ρ2 x := ev_congr (o := x) fun t ht => h t (by simpa [AOp.uses] using ht)
    simp only [ndW, evP, e1]
  | _ => cases hn
theorem stepI_det {P : Program} {o : AI} (hd : o.op.det = true) {ρ : Env} {L : Hp} {σ : List Hp} {G : Gh} {K : St → Prop} : stepI P o ρ L σ G K ↔ ∃ st, detI o ρ L σ G = some st ∧ K st := by
  have run : stepRun P o ρ L σ G K ↔ ∃ st, stepOp o.dst o.op ρ L σ G = some st ∧ K st := by
    obtain ⟨d, op, g⟩ := o
    cases op <;> first | (cases hd; done) | exact Iff.rfl
  unfold stepI detI
  cases hg : o.guard with
  | none => simp only; exact run
  | some g =>
    obtain ⟨t, want⟩ := g
    simp only
    constructor
    · rintro ⟨r, hr, h⟩
      rw [hr]
      cases r with
      | true => simp only [if_true] at h; exact run.1 h
      | false => simp only [if_false, Bool.false_eq_true] at h; exact ⟨_, rfl, h⟩
    · rintro ⟨st, h1, h2⟩
      split at h1
      · rename_i hr; exact ⟨true, hr, by simp only [if_true]; exact run.2 ⟨st, h1, h2⟩⟩
      · rename_i hr; cases h1; exact ⟨false, hr, by simp only [if_false, Bool.false_eq_true]; exact h2⟩
      · cases h1
theorem sites_kind {o : AI} {E V : List Nat} (h : o.sites = some (E, V)) : o.op.det = true ∨ (∃ f args q, o.op = .call f args q ∧ q ≠ 0 ∧ E = [] ∧ V = []) ∨ (o.op.nd = true ∧ E = [] ∧ V = []) := by
  obtain ⟨d, op, g⟩ := o
  cases op with
  | call f args q =>
    by_cases hq : q = 0
    · simp [AI.sites, hq] at h
    · simp [AI.sites, hq] at h; exact .inr (.inl ⟨f, args, q, rfl, hq, h.1, h.2⟩)
  | isnil n x => simp [AI.sites] at h; exact .inr (.inr ⟨rfl, h.1, h.2⟩)
  | appG a b c x y => simp [AI.sites] at h; exact .inr (.inr ⟨rfl, h.1, h.2⟩)
  | appZ a b c x y => simp [AI.sites] at h; exact .inr (.inr ⟨rfl, h.1, h.2⟩)
  | mkG a b c e => simp [AI.sites] at h; exact .inr (.inr ⟨rfl, h.1, h.2⟩)
  | _ => exact .inl rfl
section
variable {P : Program} {ρ : Env} {L : Hp} {σ : List Hp} {G : Gh}
/-- A step, then a call: the call, then the step. -/
theorem swapDC {F : Env → Hp → List Hp → Gh → Option St} {T W E V : List Nat} {u : GUse} (hF : Loc F T W E V u) (hWT : ∀ t ∈ W, t ∈ T) {d : Option Nat} {f : AO} {args : List AO} {q : Nat} (hq : q ≠ 0) (hV : 3 ≤ q → V = []) (hu : u = .no ∨ (u = .rd ∧ (q = 1 ∨ q = 3)))
    (h1 : ∀ t ∈ d.toList, t ∉ T) (h2 : ∀ t ∈ f.tmps ++ args.flatMap AO.tmps, t ∉ W) {K : St → Prop} {ρ1 : Env} {L1 : Hp} {σ1 : List Hp} {G1 : Gh} (ha : F ρ L σ G = some (ρ1, L1, σ1, G1))
    (h : callW P d f args q ρ1 L1 σ1 G1 K) :
    callW P d f args q ρ L σ G fun st1 => ∃ st2, F st1.1 st1.2.1 st1.2.2.1 st1.2.2.2 = some st2 ∧ K st2 := by
  have hnw : u ≠ .wr := by rcases hu with rfl | ⟨rfl, _⟩ <;> simp
  obtain ⟨rfl, c3, c5, c6, _⟩ := hF ρ L ρ L σ G G _ _ _ _ (fun _ _ => rfl) (fun _ _ => rfl) (gAgree.refl _ _) ha
  have hG1 := c6 hnw
  subst hG1
  have pT : ∀ r, ∀ t ∈ T, ρ t = put ρ d r t := fun r t ht => (put_mem fun hd => h1 t hd ht).symm
  have ef : ev ρ1 f = ev ρ f := ev_congr fun t ht => c3 t (h2 t (List.mem_append.2 (.inl ht)))
  have ea : datas ρ1 args = datas ρ args := datas_congr fun t ht => c3 t (h2 t (List.mem_append.2 (.inr ht)))
  have em : args.map (ev ρ1) = args.map (ev ρ) := map_ev_congr fun t ht => c3 t (h2 t (List.mem_append.2 (.inr ht)))
  have back : ∀ r (G' : Gh), gAgree u G1 G' → K (put ρ1 d r, L1, σ1, G') → ∃ st2, F (put ρ d r) L σ1 G' = some st2 ∧ K st2 := by
    intro r G' hag hk
    obtain ⟨_, _, _, _, ρ4, L4, G4, d1, d2, d3, d4, d5, d6, _⟩ := hF ρ L (put ρ d r) L σ1 G1 G' _ _ _ _ (pT r) (fun _ _ => rfl) hag ha
    have g1 : ρ4 = put ρ1 d r := by
      funext t
      by_cases ht : t ∈ W
      · rw [d2 t ht, put_mem fun hd => h1 t hd (hWT t ht)]
      · rw [d3 t ht]
        by_cases hd : t ∈ d.toList
        · rw [put_at hd, put_at hd]
        · rw [put_mem hd, put_mem hd, c3 t ht]
    have g2 : L4 = L1 := by
      funext s
      by_cases hs : s ∈ V
      · exact d4 s hs
      · rw [d5 s hs, c5 s hs]
    refine ⟨_, d1, ?_⟩
    rw [g1, g2, d6 hnw]
    exact hk
  unfold callW at h ⊢
  rw [ef] at h
  split at h
  · exact h.elim
  · rw [if_neg hq] at h ⊢
    by_cases h3 : 3 ≤ q
    · rw [if_pos h3] at h ⊢
      have hVn := hV h3
      have hL1 : L1 = L := funext fun s => c5 s (by rw [hVn]; simp)
      rw [em, hL1] at h
      refine h.mono fun r lv G' ⟨hl, hx, hk⟩ => ⟨hl, hx, back r G' ?_ (by rw [hL1]; exact hk)⟩
      rcases hu with rfl | ⟨rfl, hq1⟩
      · trivial
      · exact hx (by omega)
    · rw [if_neg h3] at h ⊢
      obtain ⟨h0, h⟩ := h
      refine ⟨h0, ?_⟩
      rw [ea] at h
      split at h
      · exact h.elim
      · refine h.mono fun r lv G' ⟨hl, hx, hk⟩ => ⟨hl, hx, back r G' ?_ hk⟩
        rcases hu with rfl | ⟨rfl, hq1⟩
        · trivial
        · exact hx (by omega)
end
/-- The same for an operation that may come to several states. -/
theorem swapDN {P : Program} {ρ : Env} {L : Hp} {σ : List Hp} {G : Gh} {F : Env → Hp → List Hp → Gh → Option St} {T W E V : List Nat} {u : GUse} (hF : Loc F T W E V u) (hWT : ∀ t ∈ W, t ∈ T) {d : Option Nat} {op : AOp} (hn : op.nd = true) (hu : u = .no ∨ (u = .rd ∧ op.isNil = true))
    (h1 : ∀ t ∈ d.toList, t ∉ T) (h2 : ∀ t ∈ op.uses, t ∉ W) {K : St → Prop} {ρ1 : Env} {L1 : Hp} {σ1 : List Hp} {G1 : Gh} (ha : F ρ L σ G = some (ρ1, L1, σ1, G1))
    (h : stepN d op ρ1 L1 σ1 G1 K) : stepN d op ρ L σ G fun st1 => ∃ st2, F st1.1 st1.2.1 st1.2.2.1 st1.2.2.2 = some st2 ∧ K st2 := by
  have hnw : u ≠ .wr := by rcases hu with rfl | ⟨rfl, _⟩ <;> simp
  obtain ⟨rfl, c3, c5, c6, _⟩ := hF ρ L ρ L σ G G _ _ _ _ (fun _ _ => rfl) (fun _ _ => rfl) (gAgree.refl _ _) ha
  have hG1 := c6 hnw
  subst hG1
  have pT : ∀ r, ∀ t ∈ T, ρ t = put ρ d r t := fun r t ht => (put_mem fun hd => h1 t hd ht).symm
  rw [stepN_nd hn] at h ⊢
  rw [ndW_congr (ρ2 := ρ) (fun t ht => c3 t (h2 t ht)) hn] at h
  refine ndW_mono h fun r G' hg hk => ?_
  have hag : gAgree u G1 G' := by
    rcases hu with rfl | ⟨rfl, hi⟩
    · trivial
    · rw [hg hi]; exact gAgree.refl _ _
  obtain ⟨_, _, _, _, ρ4, L4, G4, d1, d2, d3, d4, d5, d6, _⟩ := hF ρ L (put ρ d r) L σ1 G1 G' _ _ _ _ (pT r) (fun _ _ => rfl) hag ha
  have g1 : ρ4 = put ρ1 d r := by
    funext t
    by_cases ht : t ∈ W
    · rw [d2 t ht, put_mem fun hd => h1 t hd (hWT t ht)]
    · rw [d3 t ht]
      by_cases hd : t ∈ d.toList
      · rw [put_at hd, put_at hd]
      · rw [put_mem hd, put_mem hd, c3 t ht]
  have g2 : L4 = L1 := by
    funext s
    by_cases hs : s ∈ V
    · exact d4 s hs
    · rw [d5 s hs, c5 s hs]
  refine ⟨_, d1, ?_⟩
  rw [g1, g2, d6 hnw]
  exact hk
/-- A call that is passed over. -/
def passed (o : AI) : AI := { o with op := .mv false (.c .nilS) }
theorem stepI_pass {P : Program} {o : AI} {t : Nat} {want : Bool} (hg : o.guard = some (t, want)) {ρ : Env} (hb : gdec (ρ t) want = some false) {L : Hp} {σ : List Hp} {G : Gh} {K : St → Prop} : stepI P o ρ L σ G K ↔ ∃ st, detI (passed o) ρ L σ G = some st ∧ K st := by
  unfold stepI detI passed
  simp only [hg, hb]
  constructor
  · rintro ⟨r, e, h⟩
    cases e
    exact ⟨_, rfl, h⟩
  · rintro ⟨st, h1, h2⟩
    cases h1
    exact ⟨false, rfl, h2⟩
theorem stepI_runs {P : Program} {o : AI} {ρ : Env} (h : o.guard = none ∨ ∃ t want, o.guard = some (t, want) ∧ gdec (ρ t) want = some true) {L : Hp} {σ : List Hp} {G : Gh} {K : St → Prop} : stepI P o ρ L σ G K ↔ stepRun P o ρ L σ G K := by
  unfold stepI
  rcases h with h | ⟨t, want, h, hb⟩
  · simp only [h]
  · simp only [h, hb]
    constructor
    · rintro ⟨r, e, h⟩
      cases e
      simpa using h
    · exact fun h => ⟨true, rfl, by simpa using h⟩
theorem stepI_cases {P : Program} {o : AI} {ρ : Env} {L : Hp} {σ : List Hp} {G : Gh} {K : St → Prop} (h : stepI P o ρ L σ G K) : (o.guard = none ∨ ∃ t want, o.guard = some (t, want) ∧ gdec (ρ t) want = some true) ∨ ∃ t want, o.guard = some (t, want) ∧ gdec (ρ t) want = some false := by
  unfold stepI at h
  split at h
  · rename_i e; exact .inl (.inl e)
  · rename_i t want e
    obtain ⟨r, hr, h⟩ := h
    cases r with
    | true => exact .inl (.inr ⟨t, want, e, hr⟩)
    | false => exact .inr ⟨t, want, e, hr⟩
theorem passed_foot (o : AI) : (∀ t ∈ (passed o).foot, t ∈ o.foot) ∧ (∀ t ∈ (passed o).writes, t ∈ o.writes) ∧ (passed o).sites = some ([], []) ∧ (passed o).op.det = true ∧ (passed o).gUse = .no := by
  refine ⟨fun t ht => ?_, fun t ht => ?_, rfl, rfl, rfl⟩
  · simp only [passed, AI.foot, AOp.uses, AO.tmps, List.append_nil, List.mem_append] at ht ⊢
    rcases ht with h | h
    · exact .inl (.inl h)
    · exact .inr h
  · simp only [passed, AI.writes, AOp.takes, List.append_nil, List.mem_append] at ht ⊢
    exact .inl ht
theorem disj_sub {x y x' y' : List Nat} (h : disj x y = true) (h1 : ∀ t ∈ x', t ∈ x) (h2 : ∀ t ∈ y', t ∈ y) : disj x' y' = true := by
  simp only [disj, List.all_eq_true] at h ⊢
  intro t ht
  have := h t (h1 t ht)
  simp only [Bool.not_eq_true', List.contains_eq_mem, decide_eq_false_iff_not] at this ⊢
  exact fun hm => this (h2 t hm)
/-- **Two operations that are apart may change places.** -/
theorem sepA_swap {c : Ctx} {a b : AI} (h : sepA a b = true) (hda : a.op.det = true) {st : St} {K : St → Prop}
    (hs : stepI c.P a st.1 st.2.1 st.2.2.1 st.2.2.2 fun st1 => stepI c.P b st1.1 st1.2.1 st1.2.2.1 st1.2.2.2 K) :
    stepI c.P b st.1 st.2.1 st.2.2.1 st.2.2.2 fun st3 => stepI c.P a st3.1 st3.2.1 st3.2.2.1 st3.2.2.2 K := by
  obtain ⟨ρ, L, σ, G⟩ := st
  simp only [sepA, Bool.and_eq_true] at h
  obtain ⟨⟨⟨⟨hq3, h1⟩, h2⟩, h5⟩, h3⟩ := h
  cases hsa : a.sites with
  | none => simp [hsa] at h3
  | some p =>
    cases hsb : b.sites with
    | none => simp [hsa, hsb] at h3
    | some q =>
      obtain ⟨ra, wa⟩ := p
      obtain ⟨rb, wb⟩ := q
      simp only [hsa, hsb, Bool.and_eq_true] at h3
      -- two steps of one outcome each
      have DD : ∀ (a b : AI) (ra wa rb wb : List Nat), a.sites = some (ra, wa) → b.sites = some (rb, wb) → a.op.det = true → b.op.det = true → disj a.writes b.foot = true → disj b.writes a.foot = true → gOk a.gUse b.gUse = true → disj wa rb = true → disj wb ra = true →
          ∀ {st1 st2 : St}, detI a ρ L σ G = some st1 → detI b st1.1 st1.2.1 st1.2.2.1 st1.2.2.2 = some st2 → ∃ st3, detI b ρ L σ G = some st3 ∧ detI a st3.1 st3.2.1 st3.2.2.1 st3.2.2.2 = some st2 := by
        intro a b ra wa rb wb hsa hsb hda hdb h1 h2 h5 h3 h4 st1 st2 e1 e2
        obtain ⟨la, la1, la2⟩ := loc_step hsa hda
        obtain ⟨lb, lb1, lb2⟩ := loc_step hsb hdb
        obtain ⟨ρ1, L1, σ1, G1⟩ := st1
        obtain ⟨ρ2, L2, σ2, G2⟩ := st2
        obtain ⟨ρ3, L3, σ3, G3, q1, q2⟩ := la.swap lb h1 h2 h3 h4 h5 lb1 lb2 e1 e2
        exact ⟨_, q1, q2⟩
      · rcases sites_kind hsb with hdb | ⟨fb, ab, qb, hopb, hqb, rfl, rfl⟩ | ⟨hnd, rfl, rfl⟩
        · -- both
          rw [stepI_det hda] at hs
          obtain ⟨st1, e1, hs⟩ := hs
          rw [stepI_det hdb] at hs
          obtain ⟨st2, e2, hk⟩ := hs
          obtain ⟨st3, q1, q2⟩ := DD a b ra wa rb wb hsa hsb hda hdb h1 h2 h5 h3.1 h3.2 e1 e2
          rw [stepI_det hdb]
          refine ⟨st3, q1, ?_⟩
          rw [stepI_det hda]
          exact ⟨st2, q2, hk⟩
        · -- the second is a call
          rw [stepI_det hda] at hs
          obtain ⟨⟨ρ1, L1, σ1, G1⟩, e1, hs⟩ := hs
          obtain ⟨la, la1, la2⟩ := loc_step hsa hda
          obtain ⟨_, c1, _⟩ := la ρ L ρ L σ G G _ _ _ _ (fun _ _ => rfl) (fun _ _ => rfl) (gAgree.refl _ _) e1
          have guardSame : ∀ t want, b.guard = some (t, want) → ρ1 t = ρ t := fun t want hg => c1 t fun hw => disj_mem h1 hw (by simp [AI.foot, hg])
          rcases stepI_cases hs with hrun | ⟨t, want, hg, hb⟩
          · rw [stepI_runs hrun] at hs
            have hrun' : b.guard = none ∨ ∃ t want, b.guard = some (t, want) ∧ gdec (ρ t) want = some true := by
              rcases hrun with h | ⟨t, want, hg, hb⟩
              · exact .inl h
              · exact .inr ⟨t, want, hg, by rw [← guardSame t want hg]; exact hb⟩
            rw [stepI_runs hrun']
            unfold stepRun at hs ⊢
            rw [hopb] at hs ⊢
            simp only at hs ⊢
            have hub : b.gUse = if qb = 1 ∨ qb = 3 then .ext else .wr := by unfold AI.gUse; rw [hopb]
            have hu : a.gUse = .no ∨ (a.gUse = .rd ∧ (qb = 1 ∨ qb = 3)) := by
              rw [hub] at h5
              by_cases hq1 : qb = 1 ∨ qb = 3
              · rw [if_pos hq1] at h5
                cases ha : a.gUse <;> rw [ha] at h5 <;> simp [gOk] at h5 ⊢
                exact hq1
              · rw [if_neg hq1] at h5
                cases ha : a.gUse <;> rw [ha] at h5 <;> simp [gOk] at h5 ⊢
            have hVe : 3 ≤ qb → wa = [] := fun h => by
              rw [hopb] at hq3
              simp only [hsa, Bool.or_eq_true, decide_eq_true_eq] at hq3
              rcases hq3 with h' | h'
              · omega
              · simpa using h'
            have := swapDC la la1 hqb hVe hu (d := b.dst) (f := fb) (args := ab) (fun t ht => disj_mem h2 (by simp only [AI.writes, List.mem_append]; exact .inl ht)) (fun t ht hw => disj_mem h1 hw (by
              simp only [AI.foot, hopb, AOp.uses, List.mem_append]
              exact .inl (.inr (List.mem_append.1 ht)))) e1 hs
            exact callW_mono (fun st hst => (stepI_det hda).2 hst) this
          · rw [stepI_pass hg hb] at hs
            obtain ⟨st2, e2, hk⟩ := hs
            obtain ⟨p1, p2, p3, p4, p5⟩ := passed_foot b
            obtain ⟨st3, q1, q2⟩ := DD a (passed b) ra wa [] [] hsa p3 hda p4 (disj_sub h1 (fun _ h => h) p1) (disj_sub h2 p2 (fun _ h => h)) (by rw [p5]; cases a.gUse <;> rfl) (by simp [disj]) (by simp [disj]) e1 e2
            have hb' : gdec (ρ t) want = some false := by rw [← guardSame t want hg]; exact hb
            rw [stepI_pass hg hb']
            exact ⟨st3, q1, (stepI_det hda).2 ⟨st2, q2, hk⟩⟩
        · -- the second may come to several states
          rw [stepI_det hda] at hs
          obtain ⟨⟨ρ1, L1, σ1, G1⟩, e1, hs⟩ := hs
          obtain ⟨la, la1, la2⟩ := loc_step hsa hda
          obtain ⟨_, c1, _⟩ := la ρ L ρ L σ G G _ _ _ _ (fun _ _ => rfl) (fun _ _ => rfl) (gAgree.refl _ _) e1
          have guardSame : ∀ t want, b.guard = some (t, want) → ρ1 t = ρ t := fun t want hg => c1 t fun hw => disj_mem h1 hw (by simp [AI.foot, hg])
          have hrunN : ∀ ρ L σ G K, stepRun c.P b ρ L σ G K ↔ stepN b.dst b.op ρ L σ G K := fun ρ L σ G K => by
            unfold stepRun
            split
            · rename_i hh; rw [hh] at hnd; cases hnd
            · exact Iff.rfl
          rcases stepI_cases hs with hrun | ⟨t, want, hg, hb⟩
          · rw [stepI_runs hrun] at hs
            have hrun' : b.guard = none ∨ ∃ t want, b.guard = some (t, want) ∧ gdec (ρ t) want = some true := by
              rcases hrun with h | ⟨t, want, hg, hb⟩
              · exact .inl h
              · exact .inr ⟨t, want, hg, by rw [← guardSame t want hg]; exact hb⟩
            rw [stepI_runs hrun']
            rw [hrunN] at hs ⊢
            have hu : a.gUse = .no ∨ (a.gUse = .rd ∧ b.op.isNil = true) := by
              obtain ⟨d, op, g⟩ := b
              cases op <;> first | (cases hnd; done) | (cases ha : a.gUse <;> rw [ha] at h5 <;> first | exact .inl rfl | exact .inr ⟨rfl, rfl⟩ | exact absurd h5 Bool.false_ne_true)
            have := swapDN (P := c.P) la la1 hnd hu (d := b.dst) (fun t ht => disj_mem h2 (by simp only [AI.writes, List.mem_append]; exact .inl ht)) (fun t ht hw => disj_mem h1 hw (by
              simp only [AI.foot, List.mem_append]
              exact .inl (.inr ht))) e1 hs
            rw [stepN_nd hnd] at this ⊢
            exact ndW_mono this fun r G' _ hst => (stepI_det hda).2 hst
          · rw [stepI_pass hg hb] at hs
            obtain ⟨st2, e2, hk⟩ := hs
            obtain ⟨p1, p2, p3, p4, p5⟩ := passed_foot b
            obtain ⟨st3, q1, q2⟩ := DD a (passed b) ra wa [] [] hsa p3 hda p4 (disj_sub h1 (fun _ h => h) p1) (disj_sub h2 p2 (fun _ h => h)) (by rw [p5]; cases a.gUse <;> rfl) (by simp [disj]) (by simp [disj]) e1 e2
            have hb' : gdec (ρ t) want = some false := by rw [← guardSame t want hg]; exact hb
            rw [stepI_pass hg hb']
            exact ⟨st3, q1, (stepI_det hda).2 ⟨st2, q2, hk⟩⟩
end Go.E2
