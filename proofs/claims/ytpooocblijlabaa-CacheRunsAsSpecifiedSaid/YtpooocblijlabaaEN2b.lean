/-
  A block that a call has made, and that nobody changes any more, is read as plain data.
  Conditions: none; definitions and laws.
-/
import Derived.Test.YtpooocblijlabaaEN2
namespace Go.E2
inductive FD (b : Nat) (cs : List D) : D → D → Prop
  | refl (x : D) : FD b cs x x
  | gs (off n cap sz : Nat) (es : List D) (hfit : off + n * sz ≤ cs.length) (hn : es.length = n) (hsz : es.all (sizeOk sz) = true) (he : flat es = (cs.drop off).take (n * sz)) : FD b cs (.gs b off n cap) (.list es)
  | agg (xs ys : List D) (hl : ys.length = xs.length) (h : ∀ (j : Nat) (x y : D), xs[j]? = some x → ys[j]? = some y → FD b cs x y) : FD b cs (.agg xs) (.agg ys)
  | list (xs ys : List D) (hl : ys.length = xs.length) (hc : (flat ys).length = (flat xs).length) (sz : Nat) (hsz : ys.all (sizeOk sz) = true) (h : ∀ (j : Nat) (x y : D), (flat xs)[j]? = some x → (flat ys)[j]? = some y → FD b cs x y) : FD b cs (.list xs) (.list ys)
theorem FD.one {b : Nat} {cs : List D} {x y : D} (h : FD b cs x y) : y.one = x.one := by cases h <;> rfl
theorem FD.vrd {S : Stb} {b : Nat} {cs : List D} {vs : List Value} (hv : VRDs S cs vs) (hS : ∀ (j : Nat) (u : Value), vs[j]? = some u → S ⟨b, j, none⟩ = some u) {x y : D} (h : FD b cs x y) : ∀ {v : Value}, VRD S x v → VRD S y v := by
  induction h with
  | refl x => exact fun h => h
  | gs off n cap sz es hfit hn hsz he =>
    intro v h
    cases h
    rename_i hnc
    rw [← hn]
    refine VRD.list_mk (c := (vs.drop off).take (n * sz)) rfl (by rw [hn]; exact hnc) hsz (by rw [he]; exact (hv.drop _).take _) fun j u hj => ?_
    rw [List.getElem?_take] at hj
    split at hj
    · rw [List.getElem?_drop] at hj; exact hS _ _ hj
    · cases hj
  | agg xs ys hl h ih =>
    intro v hx
    obtain ⟨us, rfl, hus, ho⟩ := hx.agg_inv
    refine .agg ys us (by rw [hl]; simpa using hus.1) ?_ fun j y u hy hu => ?_
    · rw [List.all_eq_true] at ho ⊢
      intro y hy
      obtain ⟨j, hj⟩ := List.getElem?_of_mem hy
      have hlt : j < xs.length := by rw [← hl]; exact (List.getElem?_eq_some_iff.1 hj).1
      have hx : xs[j]? = some xs[j] := List.getElem?_eq_getElem hlt
      rw [(h j _ y hx hj).one]
      exact ho _ (List.getElem_mem hlt)
    · have hlt : j < xs.length := by rw [← hl]; exact (List.getElem?_eq_some_iff.1 hy).1
      have hx : xs[j]? = some xs[j] := List.getElem?_eq_getElem hlt
      exact ih j _ y hx hy (hus.2 j _ u hx (by simpa using hu))
  | list xs ys hl hc sz hsz h ih =>
    intro v hx
    rcases hx.list_inv with ⟨rfl, rfl⟩ | ⟨a, cap, c, rfl, hsp, hcap, _, hcv, hcS⟩
    · have : ys = [] := List.eq_nil_of_length_eq_zero (by simpa using hl)
      subst this
      exact .nilL
    · rw [← hl]
      refine VRD.list_mk (c := c) hsp (by rw [hl]; exact hcap) hsz ⟨by rw [hcv.1, hc], fun j y u hy hu => ?_⟩ hcS
      have hlt : j < (flat xs).length := by rw [← hc]; exact (List.getElem?_eq_some_iff.1 hy).1
      have hx : (flat xs)[j]? = some (flat xs)[j] := List.getElem?_eq_getElem hlt
      exact ih j _ y hx hy (hcv.2 j _ u hx hu)
inductive FA (b : Nat) (cs : List D) : AV → AV → Prop
  | refl (x : AV) : FA b cs x x
  | d (x y : D) (h : FD b cs x y) : FA b cs (.d x) (.d y)
  | tup (xs ys : List D) (hl : ys.length = xs.length) (h : ∀ (j : Nat) (x y : D), xs[j]? = some x → ys[j]? = some y → FD b cs x y) : FA b cs (.tup xs) (.tup ys)
/-- **What has been made is plain data from now on.** -/
theorem CallT.frz {P : Program} {f : FuncId} {vs : List AV} {σ : List Hp} {G : Gh} {Q Q2 : AV → List Hp → Gh → Prop} (h : CallT P f vs σ G Q)
    (hq : ∀ r σ' G', Q r σ' G' → Q2 r σ' G' ∨ ∃ b cs r2, G b = none ∧ G' b = some cs ∧ FA b cs r r2 ∧ Q2 r2 σ' (upd G' b none)) : CallT P f vs σ G Q2 := by
  intro S ms w args m0 hsz hrel hargs hown
  refine (h S ms w args m0 hsz hrel hargs hown).mono fun v w' ⟨S', r, σ', G', hQ, hr, he, hsh, hret, hG⟩ => ?_
  rcases hq r σ' G' hQ with h2 | ⟨b, cs, r2, hb0, hb, hfa, h2⟩
  · exact ⟨S', r, σ', G', h2, hr, he, hsh, hret, hG⟩
  · have hbase : w.heap.size ≤ b := by
      rcases Nat.lt_or_ge b w.heap.size with hlt | hge
      · obtain ⟨cs0, h0⟩ := hG b cs hb hlt
        rw [hb0] at h0; cases h0
      · exact hge
    obtain ⟨c0, e0, hc0, hvc, hone⟩ := hr.gbox hb
    let S2 : Stb := fun ad => if ad.block = b ∧ ad.spot = none then w'.cell? ad else S' ad
    have hsub : Sub S' S2 := by
      intro ad u hs
      simp only [S2]
      split
      · exact hr.sub _ _ hs
      · exact hs
    have hS2 : ∀ ad, ad.block ≠ b → S2 ad = S' ad := fun ad hne => by
      have : ¬ (ad.block = b ∧ ad.spot = none) := fun e => hne e.1
      simp only [S2, if_neg this]
    have hSb : ∀ (j : Nat) (u : Value), c0.toList[j]? = some u → S2 ⟨b, j, none⟩ = some u := by
      intro j u hj
      simp only [S2, and_self, if_true]
      simpa [World.cell?, hc0] using hj
    have hne : ∀ {b' cs'}, upd G' b none b' = some cs' → b' ≠ b ∧ G' b' = some cs' := by
      intro b' cs' hb'
      unfold upd at hb'
      split at hb'
      · cases hb'
      · rename_i hne; exact ⟨hne, hb'⟩
    have hvc2 := hvc.mono hsub
    refine ⟨S2, r2, σ', upd G' b none, h2, ⟨?_, hr.len, fun hl => (hr.box hl).mono hsub rfl, fun {k s b' cs'} hl off sp => ?_, hr.inj, fun hb' => (hr.gbox (hne hb').2).mono hsub rfl, fun {b' cs'} hb' off sp => ?_, fun hb' => hr.gnl (hne hb').2⟩,
      ⟨he.sz, he.keep, fun ad hlt => by rw [hS2 ad (by omega)]; exact he.st ad hlt, he.sub.trans hsub, he.os, he.tape, he.out⟩, hsh, ?_, fun b' cs' hb' hlt => hG b' cs' (hne hb').2 hlt⟩
    · intro ad u hs
      simp only [S2] at hs
      split at hs
      · exact hs
      · exact hr.sub _ _ hs
    · have : b' ≠ b := fun e => hr.gnl hb (e ▸ hl)
      rw [hS2 _ this]
      exact hr.nos hl off sp
    · rw [hS2 _ (hne hb').1]
      exact hr.gnos (hne hb').2 off sp
    · have hret2 : Ret S2 w' (upd G' b none) w.heap.size r v := by
        cases r with
        | own sz es =>
          obtain ⟨R, ho, hR⟩ := hret
          refine ⟨R, ho.mono hsub (fun g _ => rfl) (fun g hg off sp => ?_), fun g hg => ⟨(hR g hg).1, ?_⟩⟩
          · have hgb : g ≠ b := by rintro rfl; have := (hR g hg).2; rw [hb] at this; cases this
            exact hS2 _ hgb
          · unfold upd; split
            · rfl
            · exact (hR g hg).2
        | d x => exact VRD.mono hsub hret
        | tup xs => obtain ⟨vs, e, h3⟩ := hret; exact ⟨vs, e, h3.mono hsub⟩
        | _ => exact hret.elim
      cases hfa with
      | refl => exact hret2
      | d x y hd => exact hd.vrd hvc2 hSb hret2
      | tup xs ys hl hd =>
        obtain ⟨us, e, h3⟩ := hret2
        refine ⟨us, e, by rw [hl]; exact h3.1, fun j y u hy hu => ?_⟩
        have hlt : j < xs.length := by rw [← hl]; exact (List.getElem?_eq_some_iff.1 hy).1
        have hx : xs[j]? = some xs[j] := List.getElem?_eq_getElem hlt
        exact (hd j _ y hx hy).vrd hvc2 hSb (h3.2 j _ u hx hu)
/-- Blocks that nobody speaks of any more. -/
theorem CallT.forget {P : Program} {f : FuncId} {vs : List AV} {σ : List Hp} {G : Gh} {Q Q2 : AV → List Hp → Gh → Prop} (h : CallT P f vs σ G Q)
    (hq : ∀ r σ' G', Q r σ' G' → ∃ G2, (∀ b, G2 b = none ∨ G2 b = G' b) ∧ Q2 r σ' G2) : CallT P f vs σ G Q2 := by
  intro S ms w args m0 hsz hrel hargs hown
  refine (h S ms w args m0 hsz hrel hargs hown).mono fun v w' ⟨S', r, σ', G', hQ, hr, he, hsh, hret, hG⟩ => ?_
  obtain ⟨G2, hg, h2⟩ := hq r σ' G' hQ
  have hs : ∀ {b cs}, G2 b = some cs → G' b = some cs := by
    intro b cs hb
    rcases hg b with h | h
    · rw [h] at hb; cases hb
    · rw [← h]; exact hb
  refine ⟨S', r, σ', G2, h2, ⟨hr.sub, hr.len, hr.box, hr.nos, hr.inj, fun hb => hr.gbox (hs hb), fun hb => hr.gnos (hs hb), fun hb => hr.gnl (hs hb)⟩, he, hsh, ?_, fun b cs hb hlt => hG b cs (hs hb) hlt⟩
  cases r with
  | own sz es =>
    obtain ⟨R, ho, hR⟩ := hret
    refine ⟨R, ho, fun g hg' => ⟨(hR g hg').1, ?_⟩⟩
    rcases hg g with h | h
    · exact h
    · rw [h]; exact (hR g hg').2
  | _ => exact hret
end Go.E2
