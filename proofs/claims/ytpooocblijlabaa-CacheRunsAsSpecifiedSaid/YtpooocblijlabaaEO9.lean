/-
  One operation that is no call, as a whole.
  Conditions: none; laws.
-/
import Derived.Test.YtpooocblijlabaaEO8
namespace Go.E2
section
variable {S : Stb} {ms : List (Nat → Nat)} {ow : Nat → Option Nat} {base : Nat} {O : Nat → Prop} {ρ : Env} {L : Hp} {σ : List Hp} {G : Gh} {a : Act} {w : World} {c : Ctx} {o : Oper}
theorem elemD_inv {P : Program} {t e : TypeId} (h : elemD P t = some e) : P.underlying t = some (.slice e) := by
  unfold elemD at h
  split at h
  · cases h; assumption
  · cases h
theorem cOp_isnil {c : Ctx} {dst : Option Nat} {ty : TypeId} {op : Op} {neg : Bool} {x : AO} (hop : cOp c dst ty op = some (.isnil neg x)) :
    ∃ bop t p q u e, op = .binOp bop t p q u ∧ cO p = some x ∧ cO q = some (.c .nilS) ∧ c.P.underlying t = some (.slice e) ∧ ((bop = .eql ∧ neg = false) ∨ (bop = .neq ∧ neg = true)) := by
  cases op with
  | binOp bop t p q u =>
    simp only [cOp] at hop
    split at hop
    · rename_i p' q' hp hq
      unfold cBin at hop
      split at hop
      · cases hop
      · cases hop
      · rename_i e hu
        split at hop
        · cases hop; exact ⟨_, _, _, _, _, e, rfl, hp, hq, hu, .inl ⟨rfl, rfl⟩⟩
        · cases hop; exact ⟨_, _, _, _, _, e, rfl, hp, hq, hu, .inr ⟨rfl, rfl⟩⟩
        · cases hop
      · (repeat' split at hop) <;> cases hop
      · (repeat' split at hop) <;> cases hop
      · cases hop
    · cases hop
  | call cl =>
    exfalso
    obtain ⟨callee, as, ts⟩ := cl
    cases callee with
    | value f' => simp only [cOp, cCall] at hop; split at hop <;> cases hop
    | invoke r m => simp [cOp, cCall] at hop
    | builtin b =>
      cases b <;> simp only [cOp, cCall] at hop <;> (repeat' split at hop) <;> first | (cases hop; done) | (simp at hop; done) | (split at hop <;> cases hop; done)
  | unOp u t y => cases u <;> simp [cOp] at hop
  | makeFunc fn x y =>
    cases fn with
    | func f => simp only [cOp] at hop; split at hop <;> simp at hop
    | _ => simp [cOp] at hop
  | slice t x lo hi mx =>
    simp only [cOp] at hop
    split at hop
    · rcases cSlice_inv hop with ⟨_, _, _, _, _, _, e⟩ | ⟨_, _, _, _, ⟨_, _, _, _, _, e⟩ | ⟨_, _, _, e⟩ | ⟨_, _, _, _, _, _, _, _, _, _, e⟩⟩ <;> cases e
    · cases hop
  | convert s d x =>
    simp only [cOp] at hop
    split at hop
    · unfold cConv at hop
      (repeat' split at hop) <;> cases hop
    · cases hop
  | _ =>
    exfalso
    simp only [cOp] at hop
    first
    | (cases hop; done)
    | ((repeat' split at hop) <;> first | (cases hop; done) | (simp at hop; done) | (split at hop <;> cases hop; done))
theorem stepN_ok (h : Rel S ms ow base O ρ L σ G a w) {aop : AOp} (hc : cOp c o.dst o.type o.op = some aop) (hd : ∀ i, o.dst = some i → i < a.tmps.size) {K : St → Prop} (hx : stepN o.dst aop ρ L σ G K) :
    ∃ st, K st ∧ Step c.P S ms ow base O σ a w o st := by
  obtain ⟨m0, hm⟩ := own_data h
  obtain ⟨dst, op, ty, pos, after, guard⟩ := o
  have app : ((∃ sz b z x y, aop = .appG sz b z x y) ∨ ∃ sz b z x y, aop = .appZ sz b z x y) → ∃ st, K st ∧ Step c.P S ms ow base O σ a w ⟨dst, op, ty, pos, after, guard⟩ st := by
    intro hg
    obtain ⟨as, ts, rfl, hcc⟩ := cOp_append hc hg
    obtain ⟨x, y, t, u, x', y', e, sz, by_, z, rfl, rfl, hx1, hy1, ht1, hs1, hb1, ⟨hz1, hp1, hp2, hzl⟩, hcase⟩ := cCall_append hcc
    have hut := elemD_inv ht1
    obtain ⟨i, hi, rfl⟩ := info_of_tsz hs1
    have hby : by_ = i.bytes := by unfold tby at hb1; rw [hi] at hb1; simp at hb1; exact hb1.symm
    subst hby
    obtain ⟨zv, _, hzs, hzo, i', hi', hiz⟩ := zeroOf_ok (S := S) hz1
    rw [hi] at hi'
    cases hi'
    have hzsz : zv.cells.size = i.size := by have := hzs.1; simp at this; omega
    have hzone : ∀ n, ∀ v ∈ (Builtin.zeroCells zv.cells n).toList, v.oneCell' = true := fun n => (zeros_vrds hzs n).one (rep_one hzo n)
    have wrap : ∀ {st : St} {v : Value} {w' : World}, (Builtin.append_ #[t, u] ty #[a.eval x, a.eval y]).run c.P w = .ok v w' → Rel S ms ow base O st.1 st.2.1 st.2.2.1 st.2.2.2 (a.put dst v) w' → Evo base O S w S w' → Shape σ st.2.2.1 →
        Step c.P S ms ow base O σ a w ⟨dst, .call { callee := .builtin .append, args := ⟨[x, y]⟩, argTypes := ⟨[t, u]⟩ }, ty, pos, after, guard⟩ st := by
      intro st v w' h1 h2 h3 h4
      refine ⟨v, w', S, m0, ow, .inl ?_, by rw [← hm]; exact h2, h3, h4⟩
      simp only [execOp, resolve, invoke, Sem.run_bind, Sem.run_pure, Result.andThen_ok, Go.builtin, List.map_toArray, List.map_cons, List.map_nil, h1]
    rcases hcase with ⟨hu1, rfl⟩ | ⟨k, hu1, rfl⟩
    · have huu := elemD_inv hu1
      by_cases hin : inGs c dst = true
      · rw [if_pos hin] at hx
        simp only [stepN] at hx
        split at hx
        · rename_i xd yd e1 e2
          have hxv := operand_ok h.tmp hx1
          rw [e1] at hxv
          have hyv := (operand_ok h.tmp hy1).data e2
          split at hx
          · rename_i m ys hvw
            obtain ⟨news, hso, hvn, hon, hyl⟩ := SrcOk.of_view (P := c.P) h.h hvw hyv
            obtain ⟨st, v, w', k1, k2, k3, k4, k5⟩ := appW_ok (P := c.P) (t := t) (u := u) (ty := ty) (e := e) h hd hi hzs hzo hzsz hp1 hp2 (xv := a.eval x) (yv := a.eval y) hxv hvn hon hyl
              (fun b n cap hm0 hxn _ _ _ => by
                subst hm0
                have hn0 : news = [] := List.eq_nil_of_length_eq_zero (by rw [hvn.1, hyl]; simp)
                subst hn0
                rw [hxn]
                exact run_app_same w t u ty e e i hut huu hi none 0 0 (a.eval y) hso (Nat.le_refl _))
              (fun g off n cap cur eb hxg hg hroom hfit => by
                rw [hxg]
                exact run_appG_room w t u ty e e i hut huu hi g off n cap cur eb hg (a.eval y) m news hso (hvn.one hon) hroom hfit)
              (fun b n cap olds hxb hso' hcap h63 hfit => by
                rw [hxb]
                exact run_app_grow w t u ty e e i zv hut huu hi hiz b n cap olds hso' (a.eval y) m news hso hcap h63 hfit) hx
            exact ⟨st, k1, wrap k2 k3 k4 k5⟩
          · exact hx.elim
        · exact hx.elim
      · exfalso
        rw [if_neg hin] at hg
        rcases hg with ⟨_, _, _, _, _, e⟩ | ⟨_, _, _, _, _, e⟩ <;> cases e
    · simp only [stepN] at hx
      split at hx
      · rename_i xd k' m e1 e2
        have hxv := operand_ok h.tmp hx1
        rw [e1] at hxv
        have hyv := operand_ok h.tmp hy1
        rw [e2] at hyv
        obtain ⟨hm0, hmb, hx⟩ := hx
        obtain ⟨m', rfl⟩ : ∃ m' : Nat, m = m' := ⟨m.toNat, by omega⟩
        have hyi : a.eval y = .int k' m' := VRD.int_inv hyv
        simp only [Int.toNat_natCast] at hx hmb
        obtain ⟨st, v, w', k1, k2, k3, k4, k5⟩ := appW_ok (P := c.P) (t := t) (u := u) (ty := ty) (e := e) h hd hi hzs hzo hzsz hp1 hp2 (xv := a.eval x) (yv := a.eval y) hxv (zeros_vrds hzs m') (rep_one hzo m') (by simp [rep, hzl])
          (fun b n cap hm0 hxn _ _ _ => by
            subst hm0
            rw [hxn, hyi]
            exact run_appZ_nil w t u ty e k i zv hut hu1 hi hiz k')
          (fun g off n cap cur eb hxg hg hroom hfit => by
            rw [hxg, hyi]
            exact run_appZ_room w t u ty e k i zv hut hu1 hi hiz hzsz _ g off n cap rfl cur eb hg k' m' hmb hp2 (hzone m') hroom (by rw [Array.length_toList, zeros_size, hzsz] at hfit; exact hfit))
          (fun b n cap olds hxb hso' hcap h63 hfit => by
            rw [hxb, hyi]
            have := run_appZ_grow w t u ty e k i zv hut hu1 hi hiz hzsz b n cap olds hso' k' m' hmb hp2 hcap h63 hfit
            simpa using this) hx
        exact ⟨st, k1, wrap k2 k3 k4 k5⟩
      · exact hx.elim
  have other : (∃ st, stepOp dst aop ρ L σ G = some st ∧ K st) → ∃ st, K st ∧ Step c.P S ms ow base O σ a w ⟨dst, op, ty, pos, after, guard⟩ st :=
    fun ⟨st, h1, h2⟩ => ⟨st, h2, step_ok h hc hd h1⟩
  cases aop with
  | appG sz b z x y => exact app (.inl ⟨_, _, _, _, _, rfl⟩)
  | appZ sz b z x y => exact app (.inr ⟨_, _, _, _, _, rfl⟩)
  | mkG sz n zd ps' =>
    obtain ⟨t, ps, e, z, rfl, hut, hsz, hz, hzd, hpos, hzl, hbig, hps⟩ := cOp_mkG hc
    simp only [stepN] at hx
    split at hx
    · rename_i vs hvs
      obtain ⟨hok, hK⟩ := hx
      simp only [Bool.and_eq_true] at hok
      obtain ⟨cells, hrun, hv, hall, hlen⟩ := run_mkslice (P := c.P) (w := w) h.tmp hut hsz hz hzd hpos hzl hbig hps hvs hok.1.1 hok.1.2 hok.2
      have hr : (execOp a.eval ⟨dst, .buildSlice t n ps, ty, pos, after, guard⟩).run c.P w = .ok (.value (.slice (some ⟨w.heap.size, 0, none⟩) n n)) (w.alloc (.cells cells e)) := by
        simp only [execOp, Sem.run_bind, hrun, Result.andThen_ok, Sem.run_pure]
      refine ⟨_, hK w.heap.size h.g_none, _, _, S, m0, ow, .inl hr, ?_, Evo.alloc h.bas _, Shape.refl _⟩
      rw [← hm]
      exact (h.allocG size_push (fun b hb => heap_push_old hb) ⟨cells, e, heap_push_new, hv, flat_one hall⟩).put (x := .d (.gs w.heap.size 0 n n)) (VRD.gs _ _ _ _ (Nat.le_refl _)) (fun _ _ e => by cases e) hd
    · exact hx.elim
  | isnil neg x =>
    simp only [stepN] at hx
    split at hx
    · rename_i e1
      obtain ⟨bop, t, p, q, u, e, rfl, hp, hq, hu, hop⟩ := cOp_isnil hc
      have hq' := operand_ok h.tmp hq
      have hqv : a.eval q = .slice none 0 0 := VRD.nilS_inv hq'
      have hpd := (operand_ok h.tmp hp).data e1
      obtain ⟨b, cap, _, hpv, hsp, hb0, _⟩ := hpd.list_inv'
      have hr := isnil_ok (P := c.P) (w := w) hu hop b 0 cap p q
      refine ⟨_, hx (if neg then !b.isNone else b.isNone), .bool (if neg then !b.isNone else b.isNone), w, S, m0, ow, .inl ?_, by rw [← hm]; exact h.put (x := .d (.bool _)) (VRD.bool _) (fun _ _ e => by cases e) hd, Evo.refl _ _ _ _, Shape.refl _⟩
      have hpv' : a.eval p = .slice b 0 cap := hpv
      simp only [execOp, Sem.run_bind, Sem.run_pure, hpv', hqv] at hr ⊢
      rw [hr]
      cases neg <;> rfl
    · exact other hx
  | _ => exact other hx
end
end Go.E2
