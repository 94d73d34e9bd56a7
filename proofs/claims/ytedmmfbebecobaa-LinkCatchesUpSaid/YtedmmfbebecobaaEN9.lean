/-
  A slice that may change, lent inside a struct to a call that only reads.
  Conditions: none; definitions and laws.
-/
import Derived.Test.YtedmmfbebecobaaEN6
namespace Go.E2
inductive LendD (G : Gh) : D → D → Prop
  | refl (x : D) : LendD G x x
  | nil : LendD G .nilS (.list [])
  | gs (b off n cap sz : Nat) (cs es : List D) (hb : G b = some cs) (hfit : off + n * sz ≤ cs.length) (hn : es.length = n) (hsz : es.all (sizeOk sz) = true) (he : flat es = (cs.drop off).take (n * sz)) : LendD G (.gs b off n cap) (.list es)
  | agg (xs ys : List D) (hl : ys.length = xs.length) (h : ∀ (j : Nat) (x y : D), xs[j]? = some x → ys[j]? = some y → LendD G x y) : LendD G (.agg xs) (.agg ys)
def LendsD (G : Gh) (xs ys : List D) : Prop := ys.length = xs.length ∧ ∀ (j : Nat) (x y : D), xs[j]? = some x → ys[j]? = some y → LendD G x y
theorem LendsD.nil {G : Gh} : LendsD G [] [] := ⟨rfl, fun j x y h => by simp at h⟩
theorem LendsD.cons {G : Gh} {x y : D} {xs ys : List D} (h : LendD G x y) (hs : LendsD G xs ys) : LendsD G (x :: xs) (y :: ys) := by
  refine ⟨by simp [hs.1], fun j u v a b => ?_⟩
  cases j with
  | zero => simp at a b; subst a; subst b; exact h
  | succ j => exact hs.2 j u v (by simpa using a) (by simpa using b)
theorem LendsD.agg {G : Gh} {xs ys : List D} (h : LendsD G xs ys) : LendD G (.agg xs) (.agg ys) := LendD.agg xs ys h.1 h.2
theorem GV.lendD {sz : Nat} {G : Gh} {x : D} {es : List D} (h : GV sz G x es) : LendD G x (.list es) := by
  cases h with
  | nil => exact .nil
  | row b cap es cs hb hr => exact .gs b 0 es.length cap sz cs es hb (by have := hr.ncs; omega) rfl hr.all (by rw [List.drop_zero, hr.eq])
theorem LendD.one {G : Gh} {x y : D} (h : LendD G x y) : y.one = x.one := by cases h <;> rfl
theorem LendD.vrd {G : Gh} {S S1 : Stb} (hsub : Sub S S1) (hg : ∀ b cs, G b = some cs → ∃ vs, VRDs S cs vs ∧ ∀ (j : Nat) (u : Value), vs[j]? = some u → S1 ⟨b, j, none⟩ = some u) {x y : D} (h : LendD G x y) : ∀ {v : Value}, VRD S x v → VRD S1 y v := by
  induction h with
  | refl => exact fun ha => VRD.mono hsub ha
  | nil => exact fun ha => (VRD.mono hsub ha).le (.inr rfl)
  | gs b off n cap sz cs es hb hfit hn hsz hes =>
    intro v ha
    obtain ⟨vs, hvc, hS⟩ := hg b cs hb
    obtain ⟨hav, hnc⟩ : v = .slice (some ⟨b, off, none⟩) n cap ∧ n ≤ cap := by
      cases ha; rename_i hh; exact ⟨rfl, hh⟩
    rw [hav]
    rw [← hn]
    refine VRD.list_mk (c := (vs.drop off).take (n * sz)) rfl (by rw [hn]; exact hnc) hsz (by rw [hes]; exact ((hvc.drop _).take _).mono hsub) fun j u hj => ?_
    rw [List.getElem?_take] at hj
    split at hj
    · rw [List.getElem?_drop] at hj; exact hS _ _ hj
    · cases hj
  | agg xs ys hl h ih =>
    intro v hx
    obtain ⟨us, rfl, hus, ho⟩ := hx.agg_inv
    refine .agg ys us (by rw [hl]; simpa using hus.1) ?_ fun j y u hy hu => ?_
    · rw [List.all_eq_true] at ho ⊢
      intro y hy
      obtain ⟨j, hj⟩ := List.getElem?_of_mem hy
      have hlt : j < xs.length := by rw [← hl]; exact (List.getElem?_eq_some_iff.1 hj).1
      have hx : xs[j]? = some xs[j] := List.getElem?_eq_getElem hlt
      rw [(h j _ y hx hj).one]
      exact ho _ (List.getElem_mem hlt)
    · have hlt : j < xs.length := by rw [← hl]; exact (List.getElem?_eq_some_iff.1 hy).1
      have hx : xs[j]? = some xs[j] := List.getElem?_eq_getElem hlt
      exact ih j _ y hx hy (hus.2 j _ u hx (by simpa using hu))
open Classical in
theorem CallP.lend2 {P : Program} {f : FuncId} {xs ys : List D} {Q : AV → Prop} (h : CallP P f ys Q) {G : Gh} (hl : LendsD G xs ys) (hf : ∀ r, Q r → flatA r = true) (σ : List Hp) : CallT P f (xs.map .d) σ G fun r σ' G' => σ' = σ ∧ G' = G ∧ Q r := by
  intro S ms w args m0 hsz hrel hargs hown
  let S1 : Stb := fun ad => if (G ad.block).isSome ∧ ad.spot = none then w.cell? ad else S ad
  have hsub1 : Sub S S1 := by
    intro ad v hs
    simp only [S1]
    split
    · exact hrel.sub _ _ hs
    · exact hs
  have hrel1 : RelH S1 [] [] noGh w := by
    refine ⟨fun ad v hs => ?_, rfl, fun ⟨x, m, h1, _⟩ => by simp at h1, fun ⟨x, m, h1, _⟩ => by simp at h1, fun ⟨x, m, h1, _⟩ => by simp at h1, fun h => (by cases h), fun h => (by cases h), fun h => (by cases h), RelX.none⟩
    simp only [S1] at hs
    split at hs
    · exact hs
    · exact hrel.sub _ _ hs
  refine (h S1 [] w args m0 (by simp only [List.length_map] at hsz ⊢; rw [hsz, hl.1]) hrel1 (fun i => ?_) ofL_not_own).mono fun v w' ⟨S', r, σ', G', ⟨h1, h2, hQ⟩, hr, he, _, hret, _⟩ => ?_
  · have ha := hargs i
    rcases ofL_d (xs := ys) (i := i) with e | ⟨y, hy, e⟩
    · rw [e]; trivial
    · rw [e]
      have hi : i < xs.length := by rw [← hl.1]; exact (List.getElem?_eq_some_iff.1 hy).1
      have hx : xs[i]? = some xs[i] := List.getElem?_eq_getElem hi
      have e' : ofL (xs.map .d) i = .d xs[i] := by simp [ofL, List.getD_eq_getElem?_getD, hx]
      rw [e'] at ha
      have hle := hl.2 i _ y hx hy
      generalize xs[i] = x at ha hle
      refine LendD.vrd hsub1 (fun b cs hb => ?_) hle ha
      obtain ⟨c0, e0, hc0, hvc, hone⟩ := hrel.gbox hb
      refine ⟨c0.toList, hvc, fun j u hj => ?_⟩
      have hG : (G b).isSome = true := by rw [hb]; rfl
      simp only [S1, hG, and_self, if_true]
      simpa [World.cell?, hc0] using hj
  · subst h1; subst h2
    obtain ⟨he', hk⟩ := he.all (O := outer σ ms G)
    let S2 : Stb := fun ad => if ad.block < w.heap.size then S ad else S' ad
    have hS2 : ∀ ad, ad.block < w.heap.size → S2 ad = S ad := fun ad hb => by simp only [S2, if_pos hb]
    have hsub2 : Sub S S2 := fun ad v hs => by rw [hS2 ad (hrel.S_lt hs)]; exact hs
    have hcell : ∀ ad v, S2 ad = some v → w'.cell? ad = some v := by
      intro ad v hs
      simp only [S2] at hs
      split at hs
      · rename_i hb
        have := hrel.sub _ _ hs
        simpa [World.cell?, hk _ hb] using this
      · exact hr.sub _ _ hs
    refine ⟨S2, r, σ, G, ⟨rfl, rfl, hQ⟩, hrel.kept hk hcell hsub2 hS2, ⟨he.sz, fun b hb _ => hk b hb, hS2, hsub2, he.os, he.tape, he.out⟩, Shape.refl _, ?_, OldG.refl _ _ _ _⟩
    have hfr := hf r hQ
    cases r with
    | d x => exact VRD.flat hret hfr
    | own sz es =>
      obtain ⟨R, ho, hR⟩ := hret
      refine ⟨R, ?_, fun g hg => ⟨(hR g hg).1, ?_⟩⟩
      · cases R with
        | none => exact ho
        | some g =>
          have hgb := (hR g rfl).1
          obtain ⟨cap, cur, e, q1, q2, q3, q4, q5, q6, q7, q8, q9⟩ := ho
          have hS' : ∀ off sp, S2 ⟨g, off, sp⟩ = S' ⟨g, off, sp⟩ := fun off sp => by
            have hn : ¬ (g < w.heap.size) := by omega
            simp only [S2, if_neg hn]
          refine ⟨cap, cur, e, q1, q2, q3, q4, q5, q6, ⟨q7.1, fun j x v a b => (q7.2 j x v a b).flat ?_⟩, fun j u hj => by rw [hS']; exact q8 j u hj, fun off sp ho => by rw [hS']; exact q9 off sp ho⟩
          simp only [flatA, List.all_eq_true] at hfr
          exact hfr x (List.mem_of_getElem? a)
      · cases hG : G g with
        | none => rfl
        | some cs => have := hrel.g_lt hG; have := (hR g hg).1; omega
    | tup zs =>
      obtain ⟨vs, e, h3⟩ := hret
      refine ⟨vs, e, h3.1, fun j x v a b => (h3.2 j x v a b).flat ?_⟩
      simp only [flatA, List.all_eq_true] at hfr
      exact hfr x (List.mem_of_getElem? a)
    | _ => exact hret
theorem wC_lend2 {P : Program} {d : Option Nat} {f : AO} {args : List AO} {q : Nat} {ρ : Env} {L : Hp} {σ : List Hp} {G : Gh} {K : St → Prop} {h : Hide K} {g : FuncId} {xs ys : List D} {Q : AV → Prop} (hc : CallP P g ys Q) (ht : target (ev ρ f) = some (g, [])) (hd : datas ρ args = some xs) (hl : LendsD G xs ys) (hf : ∀ r, Q r → flatA r = true) (hK : ∀ r, Q r → K (put ρ d r, L, σ, G)) : wC P d f args q ρ L σ G h :=
  callW_q (fun σ => hc.lend2 hl hf σ) ht hd hK
theorem wC_gx0 {P : Program} {d : Option Nat} {f : AO} {args : List AO} {q : Nat} {ρ : Env} {L : Hp} {σ : List Hp} {G : Gh} {K : St → Prop} {h : Hide K} {g : FuncId} {xs : List D} {Q : AV → Gh → Prop} (hc : ∀ σ, CallT P g (xs.map .d) σ G fun r σ' G' => σ' = σ ∧ Q r G') (hx : ∀ r G', Q r G' → GExt G G') (ht : target (ev ρ f) = some (g, [])) (hd : datas ρ args = some xs) (hK : ∀ r G', Q r G' → K (put ρ d r, L, σ, G')) : wC P d f args q ρ L σ G h :=
  wC_gx (cs := []) (by simpa using hc) hx ht hd hK
end Go.E2
