/-
  One operation of a region.
  Conditions: none; laws.
-/
import Derived.Test.YtpooocblijlabaaEM2
namespace Go.E2
theorem compile_inv {P : Program} {gs : List Nat} {f : FuncId} {af : AFunc} (h : compile P gs f = some af) :
    ∃ fn c, P.funcs[f]? = some fn ∧ fn.body = some c ∧ (fn.name == "runtime.NumGoroutine") = false ∧ cRes P fn.results.toList = some af.res ∧ cCode P gs fn.ntmps (allOps c) c = some af.body ∧ af.nt = fn.ntmps := by
  unfold compile at h
  split at h
  · cases h
  · rename_i fn hf
    split at h
    · cases h
    · rename_i c hb
      split at h
      · cases h
      · rename_i hn
        split at h
        · rename_i res body h1 h2
          cases h
          exact ⟨fn, c, hf, hb, by simpa using hn, h1, h2, rfl⟩
        · cases h
section
variable {P : Program} {S : Stb} {ms : List (Nat → Nat)} {ow : Nat → Option Nat} {base : Nat} {O : Nat → Prop} {ρ : Env} {L : Hp} {σ : List Hp} {G : Gh} {a : Act} {w : World}
theorem VRptr.sh {lv : List Hp} {ms : List (Nat → Nat)} {k s g off : Nat} {v : Value} (h : VRptr lv ms k s g off v) (m0 : Nat → Nat) : VRptr (noHp :: lv) (m0 :: ms) (k + 1) s g off v := by
  obtain ⟨x, m, b, h1, h2, h3⟩ := h
  exact ⟨x, m, b, by simpa using h1, by simpa using h2, h3⟩
theorem VR.sh {lv : List Hp} {ms : List (Nat → Nat)} {x : AV} {v : Value} (h : VR S lv ms x v) (m0 : Nat → Nat) : VR S (noHp :: lv) (m0 :: ms) (sh x) v := by
  cases x with
  | d x => exact h
  | ptr k s g off => exact VRptr.sh h m0
  | cptr cs => exact h
  | func f caps =>
    obtain ⟨cv, h1, h2, h3⟩ := h
    refine ⟨cv, h1, by simpa using h2, fun j p u hj hu => ?_⟩
    rw [List.getElem?_map] at hj
    cases hq : caps[j]? with
    | none => simp [hq] at hj
    | some q =>
      simp [hq] at hj
      subst hj
      exact (h3 j q u hq hu).sh m0
  | own sz es => exact h
  | tup xs => trivial
  | skp => trivial
  | undef => trivial
theorem sh_not_own {x : AV} : ∀ sz es, sh x ≠ .own sz es := by intro sz es; cases x <;> simp [sh]
theorem cOs_ok {S : Stb} {lv : List Hp} {ms : List (Nat → Nat)} (ht : ∀ i, VR S lv ms (ρ i) (a.tmps.getD i undef)) : ∀ (os : List Operand) (xs : List AO), cOs os = some xs → (xs.map (ev ρ)).length = os.length ∧ ∀ (i : Nat) (o : Operand), os[i]? = some o → ∃ x, (xs.map (ev ρ))[i]? = some x ∧ VR S lv ms x (a.eval o)
  | [], xs, h => by simp [cOs] at h; subst h; exact ⟨rfl, fun i o h => by simp at h⟩
  | o :: os, xs, h => by
    simp only [cOs] at h
    split at h
    · rename_i x xs' hx hxs
      cases h
      obtain ⟨h1, h2⟩ := cOs_ok ht os xs' hxs
      refine ⟨by simp at h1 ⊢; exact h1, fun i o' ho => ?_⟩
      cases i with
      | zero => simp at ho; subst ho; exact ⟨_, rfl, operand_ok ht hx⟩
      | succ i => obtain ⟨y, hy, hv⟩ := h2 i o' (by simpa using ho); exact ⟨y, by simpa using hy, hv⟩
    · cases h
/-- A call's operation, run: it enters. -/
theorem run_call {o : Oper} {f : Operand} {args : Array Operand} {ats : Array TypeId} (ho : o.op = .call { callee := .value f, args, argTypes := ats }) {g : FuncId} {cv : Array Value} (hf : a.eval f = .func (.func g) #[] cv) (hg : Called P g) :
    (execOp a.eval o).run P w = .ok (.enter g (args.map a.eval ++ cv)) w := by
  have := run_callFunc (P := P) (w := w) (args := args.map a.eval ++ cv) hg
  simp [execOp, ho, resolve, hf, Deferred.ofValue, invoke, this]
/-- The same of one of the model's own. -/
theorem run_callX {o : Oper} {f : Operand} {args : Array Operand} {ats : Array TypeId} (ho : o.op = .call { callee := .value f, args, argTypes := ats }) {g : FuncId} {cv : Array Value} (hf : a.eval f = .func (.func g) #[] cv) {v : Value} {w' : World} (hg : (callFunc g (args.map a.eval ++ cv)).run P w = .ok (.value v) w') :
    (execOp a.eval o).run P w = .ok (.value v) w' := by
  simp [execOp, ho, resolve, hf, Deferred.ofValue, invoke, hg]
theorem cOper_inv {c : Ctx} {ops : Array Oper} {o : Oper} {ai : AI} (h : cOper c ops o = some ai) : cOp c o.dst o.type o.op = some ai.op ∧ ai.dst = o.dst ∧ (∀ d, o.dst = some d → d < c.nt) ∧
    ((o.guard = none ∧ ai.guard = none) ∨ ∃ j want t, o.guard = some (j, want) ∧ (ops[j]?).bind (·.dst) = some t ∧ ai.guard = some (t, want)) := by
  unfold cOper at h
  split at h
  · rename_i aop g e1 e2
    split at h
    · rename_i hd
      cases h
      refine ⟨e1, rfl, fun d e => by rw [e] at hd; simpa [dstOk] using hd, ?_⟩
      generalize hgd : o.guard = gd at e2
      cases gd with
      | none => simp [guardOf] at e2; exact .inl ⟨rfl, e2.symm⟩
      | some q =>
        obtain ⟨j, want⟩ := q
        simp only [guardOf, Option.map_eq_some_iff] at e2
        obtain ⟨t, ht, rfl⟩ := e2
        exact .inr ⟨j, want, t, rfl, ht, rfl⟩
    · cases h
  · cases h

theorem cOp_call {c : Ctx} {dst : Option Nat} {ty : TypeId} {op : Op} {f : AO} {args : List AO} {q : Nat} (hop : cOp c dst ty op = some (.call f args q)) :
    ∃ f' args' ats, op = .call { callee := .value f', args := args', argTypes := ats } ∧ cO f' = some f ∧ cOs args'.toList = some args := by
  cases op with
  | call cl =>
    obtain ⟨callee, as, ts⟩ := cl
    cases callee with
    | value f' =>
      simp only [cOp, cCall] at hop
      split at hop
      · rename_i f0 as0 e1 e2
        cases hop
        exact ⟨f', as, ts, rfl, e1, e2⟩
      · cases hop
    | invoke r m => simp [cOp, cCall] at hop
    | builtin b =>
      exfalso
      cases b <;> simp only [cOp, cCall] at hop <;> (repeat' split at hop) <;> first | (cases hop; done) | (simp at hop; done) | (split at hop <;> cases hop; done)
  | unOp u t y => cases u <;> simp [cOp] at hop
  | makeFunc fn x y =>
    cases fn with
    | func f => simp only [cOp] at hop; split at hop <;> simp at hop
    | _ => simp [cOp] at hop
  | binOp o t x y u =>
    simp only [cOp] at hop
    split at hop
    · unfold cBin at hop
      (repeat' split at hop) <;> cases hop
    · cases hop
  | slice t x lo hi mx =>
    simp only [cOp] at hop
    split at hop
    · rcases cSlice_inv hop with ⟨_, _, _, _, _, _, e⟩ | ⟨_, _, _, _, ⟨_, _, _, _, _, e⟩ | ⟨_, _, _, e⟩ | ⟨_, _, _, _, _, _, _, _, _, _, e⟩⟩ <;> cases e
    · cases hop
  | convert s d x =>
    simp only [cOp] at hop
    split at hop
    · unfold cConv at hop
      (repeat' split at hop) <;> cases hop
    · cases hop
  | _ =>
    exfalso
    simp only [cOp] at hop
    first
    | (cases hop; done)
    | ((repeat' split at hop) <;> first | (cases hop; done) | (simp at hop; done) | (split at hop <;> cases hop; done))
/-! ### one operation -/
def callW (P : Program) (d : Option Nat) (f : AO) (args : List AO) (q : Nat) (ρ : Env) (L : Hp) (σ : List Hp) (G : Gh) (K : St → Prop) : Prop :=
  match target (ev ρ f) with
  | none => False
  | some (g, caps) =>
    if q = 0 then CallT P g ((args.map (ev ρ) ++ caps).map sh) (L :: σ) G (fun r lv G' => match lv with | L' :: σ' => K (put ρ d r, L', σ', G') | [] => False)
    else if 3 ≤ q then CallT P g ((args.map (ev ρ) ++ caps).map sh) (L :: σ) G (fun r lv G' => lv = L :: σ ∧ (q = 3 → GExt G G') ∧ K (put ρ d r, L, σ, G'))
    else caps = [] ∧ match datas ρ args with
      | none => False
      | some vs => CallT P g (vs.map .d) [] G (fun r lv G' => lv = [] ∧ (q = 1 → GExt G G') ∧ K (put ρ d r, L, σ, G'))
def stepRun (P : Program) (o : AI) (ρ : Env) (L : Hp) (σ : List Hp) (G : Gh) (K : St → Prop) : Prop :=
  match o.op with
  | .call f args q => callW P o.dst f args q ρ L σ G K
  | op => stepN o.dst op ρ L σ G K
def stepI (P : Program) (o : AI) (ρ : Env) (L : Hp) (σ : List Hp) (G : Gh) (K : St → Prop) : Prop :=
  match o.guard with
  | none => stepRun P o ρ L σ G K
  | some (t, want) => ∃ r, gdec (ρ t) want = some r ∧ if r = true then stepRun P o ρ L σ G K else K (put ρ o.dst .skp, L, σ, G)
def regW (P : Program) : List AI → Env → Hp → List Hp → Gh → (St → Prop) → Prop
  | [], ρ, L, σ, G, K => K (ρ, L, σ, G)
  | o :: os, ρ, L, σ, G, K => stepI P o ρ L σ G fun st => regW P os st.1 st.2.1 st.2.2.1 st.2.2.2 K
structure After (S : Stb) (ms : List (Nat → Nat)) (base : Nat) (O : Nat → Prop) (σ : List Hp) (a : Act) (w : World) (st : St) (a' : Act) (w' : World) : Prop where
  ex : ∃ S' m' ow', Rel S' (m' :: ms.tail) ow' base O st.1 st.2.1 st.2.2.1 st.2.2.2 a' w' ∧ Evo base O S w S' w'
  sh : Shape σ st.2.2.1
  sz : a'.tmps.size = a.tmps.size
/-- **One operation that runs.** -/
theorem run_ok {c : Ctx} (h : Rel S ms ow base O ρ L σ G a w) {ops : Array Oper} {o : Oper} {ai : AI} (ho : cOper c ops o = some ai) (hnt : c.nt ≤ a.tmps.size)
    {K' : St → Prop} (hs : stepRun c.P ai ρ L σ G K') {K : Act → World → Prop} {Q : Exit → Act → World → Prop} (hK : ∀ st a' w', K' st → After S ms base O σ a w st a' w' → K a' w') : o.wp c.P a w K Q := by
  obtain ⟨hop, hdst', hdn, _⟩ := cOper_inv ho
  have hd : ∀ i, o.dst = some i → i < a.tmps.size := fun i hi => Nat.lt_of_lt_of_le (hdn i hi) hnt
  generalize haop : ai.op = aop at hop
  simp only [stepRun, hdst', haop] at hs
  have other : stepN o.dst aop ρ L σ G K' → o.wp c.P a w K Q := by
    intro hs'
    obtain ⟨st, hk', v, w', S', m', ow', hr, hrel, hevo, hsh⟩ := stepN_ok h hop hd hs'
    have hk := hK st (a.put o.dst v) w' hk' ⟨⟨S', m', ow', hrel, hevo⟩, hsh, put_size⟩
    unfold Oper.wp
    rcases hr with hr | ⟨hr, rfl⟩
    · rw [hr]; exact hk
    · rw [hr]; exact hk
  cases aop with
  | call f args q =>
    obtain ⟨f', args', ats, hoc, hf, hargs⟩ := cOp_call hop
    have hfv := operand_ok h.tmp hf
    simp only [callW] at hs
    split at hs
    · exact hs.elim
    · rename_i g caps htg
      obtain ⟨hcl, hcg⟩ := cOs_ok h.tmp args'.toList args hargs
      have hcv : ∃ cv : Array Value, a.eval f' = .func (.func g) #[] cv ∧ cv.size = caps.length ∧ ∀ (j : Nat) (x : AV), caps[j]? = some x → VR S (L :: σ) ms x (cv.getD j undef) := by
        unfold target at htg
        split at htg
        · rename_i g' e
          rw [e] at hfv
          cases htg
          exact ⟨#[], VRD.fn_inv hfv, rfl, fun j x hx => by simp at hx⟩
        · rename_i g' cs e
          rw [e] at hfv
          cases htg
          obtain ⟨cv, h1, h2, h3⟩ := hfv
          refine ⟨cv, h1, by simpa using h2, fun j x hx => ?_⟩
          rw [List.getElem?_map] at hx
          cases hq : cs[j]? with
          | none => simp [hq] at hx
          | some q =>
            simp [hq] at hx
            subst hx
            have hlt : j < cv.size := by rw [h2]; exact (List.getElem?_eq_some_iff.1 hq).1
            have := h3 j q (cv.getD j undef) hq (by simp [hlt])
            exact this
        · cases htg
      obtain ⟨cv, hfe, hcvs, hcvr⟩ := hcv
      have out : ∀ {R : Value → World → Prop}, Outcome c.P g (args'.map a.eval ++ cv) w R → (∀ v w', R v w' → K (a.put o.dst v) w') → o.wp c.P a w K Q := by
        intro R hall hR
        unfold Oper.wp
        rcases hall with ⟨hcd, hall⟩ | ⟨v, w', hrun, hr⟩
        · rw [run_call (P := c.P) (w := w) hoc hfe hcd]
          refine hall.mono fun e w' ⟨v, he, hr⟩ => ?_
          subst he
          exact hR _ _ hr
        · rw [run_callX (P := c.P) (w := w) hoc hfe hrun]
          exact hR _ _ hr
      by_cases hq3 : q = 0 ∨ 3 ≤ q
      · -- it sees the boxes
        have hs : CallT c.P g ((args.map (ev ρ) ++ caps).map sh) (L :: σ) G (fun r lv G' => match lv with | L' :: σ' => K' (put ρ o.dst r, L', σ', G') | [] => False) := by
          rcases hq3 with rfl | h3
          · simpa using hs
          · rw [if_neg (by omega), if_pos h3] at hs
            exact hs.mono fun r lv G' ⟨h1, _, h3⟩ => by subst h1; exact h3
        have hall := hs S ms w (args'.map a.eval ++ cv) (fun _ => 0) (by simp only [List.length_map, List.length_append, Array.size_append, Array.size_map, hcvs]; simp only [List.length_map] at hcl; rw [hcl]; simp) h.h (fun i => by
            simp only [ofL, List.getD_eq_getElem?_getD, List.getElem?_map]
            rcases Nat.lt_or_ge i args'.size with hi | hi
            · obtain ⟨x, hx, hv⟩ := hcg i args'[i] (by simp [hi])
              rw [List.getElem?_append_left (by rw [hcl]; simpa using hi), hx]
              have : (args'.map a.eval ++ cv).getD i undef = a.eval args'[i] := by
                simp only [Array.getD_eq_getD_getElem?]
                rw [Array.getElem?_append_left (by simpa using hi)]
                simp [hi]
              rw [this]
              exact hv.sh _
            · rw [List.getElem?_append_right (by rw [hcl]; simpa using hi), hcl]
              simp only [Array.length_toList]
              cases hci : caps[i - args'.size]? with
              | none => trivial
              | some x =>
                have hv := hcvr _ x hci
                have : (args'.map a.eval ++ cv).getD i undef = cv.getD (i - args'.size) undef := by
                  simp only [Array.getD_eq_getD_getElem?]
                  rw [Array.getElem?_append_right (by simpa using hi)]
                  simp
                rw [this]
                exact hv.sh _) (fun i sz es => by
            simp only [ofL, List.getD_eq_getElem?_getD, List.getElem?_map]
            cases (args.map (ev ρ) ++ caps)[i]? with
            | none => simp
            | some x => exact sh_not_own sz es)
        refine out hall fun v w' ⟨S', r, lv, G', hq, hrel, hevo, hsh, hret, hG⟩ => ?_
        cases lv with
        | nil => exact hq.elim
        | cons L' σ' =>
          obtain ⟨hr1, hr2⟩ := h.called hrel hevo hsh hG
          obtain ⟨ow', hp⟩ := hr1.putRet (fun k s b cs hl => by
              obtain ⟨cs', hl'⟩ := live_shape hsh hl
              exact h.h.block_lt hl') (fun i sz es g hi gi => by
              have := h.own hi
              rw [gi] at this
              exact this.lt) h.bas hret hd
          obtain ⟨m, hm⟩ := own_data h
          exact hK _ _ _ hq ⟨⟨S', m, ow', by rw [← hm]; exact hp, hr2⟩, hsh.tail, put_size⟩
      · -- it sees no box
        rw [if_neg (by omega), if_neg (by omega)] at hs
        obtain ⟨hc0, hs⟩ := hs
        subst hc0
        split at hs
        · exact hs.elim
        · rename_i vs hvs
          have hcv0 : cv = #[] := Array.eq_empty_of_size_eq_zero (by simpa using hcvs)
          subst hcv0
          have hds := datas_ok h.tmp args'.toList args vs hargs hvs
          have hall := hs S [] w (args'.map a.eval ++ #[]) (fun _ => 0) (by have := hds.1; simp at this ⊢; omega)
            ⟨h.h.sub, rfl, fun ⟨x, m, h1, _⟩ => by simp at h1, fun ⟨x, m, h1, _⟩ => by simp at h1, fun ⟨x, m, h1, _⟩ => by simp at h1, h.h.gbox, h.h.gnos, fun _ ⟨x, m, h1, _⟩ => by simp at h1⟩
            (fun i => by
              simp only [ofL, List.getD_eq_getElem?_getD, List.getElem?_map]
              cases hvi : vs[i]? with
              | none => trivial
              | some y =>
                obtain ⟨v, hv, hvr⟩ := hds.get hvi
                have hv' : (args'.map a.eval)[i]? = some v := by simpa using hv
                have : (args'.map a.eval ++ #[]).getD i undef = v := by simp [hv']
                rw [this]
                exact hvr) (fun i sz es => by
              simp only [ofL, List.getD_eq_getElem?_getD, List.getElem?_map]
              cases vs[i]? <;> simp)
          refine out hall fun v w' ⟨S', r, lv, G', ⟨hlv, _, hq⟩, hrel, hevo, hsh, hret, hG⟩ => ?_
          subst hlv
          obtain ⟨hr1, hr2⟩ := h.calledQ hrel hevo hG
          obtain ⟨ow', hp⟩ := hr1.putRet (fun k s b cs hl => h.h.block_lt hl) (fun i sz es g hi gi => by
              have := h.own hi
              rw [gi] at this
              exact this.lt) h.bas hret hd
          obtain ⟨m, hm⟩ := own_data h
          exact hK _ _ _ hq ⟨⟨S', m, ow', by rw [← hm]; exact hp, hr2⟩, Shape.refl _, put_size⟩
  | _ => exact other hs
end
end Go.E2
