/-
  Calls that touch nothing that there is: what is known of them serves wherever they are called.
  Conditions: none; definitions and laws.
-/
import Derived.Test.YtpooocblijlabaaEN1
namespace Go.E2
/-- A call of plain data that leaves all that there is as it was, and gives back something of which 'Q' holds. -/
def CallP (P : Program) (f : FuncId) (xs : List D) (Q : AV → Prop) : Prop :=
  CallT P f (xs.map .d) [] noGh fun r σ' G' => σ' = [] ∧ G' = noGh ∧ Q r
theorem CallP.mono {P : Program} {f : FuncId} {xs : List D} {Q Q' : AV → Prop} (h : CallP P f xs Q) (hq : ∀ r, Q r → Q' r) : CallP P f xs Q' :=
  CallT.mono h fun _ _ _ ⟨h1, h2, h3⟩ => ⟨h1, h2, hq _ h3⟩
theorem ofL_d {xs : List D} {i : Nat} : ofL (xs.map .d) i = .undef ∨ ∃ x, xs[i]? = some x ∧ ofL (xs.map .d) i = .d x := by
  simp only [ofL, List.getD_eq_getElem?_getD, List.getElem?_map]
  cases h : xs[i]? with
  | none => exact .inl rfl
  | some x => exact .inr ⟨x, rfl, rfl⟩
theorem ofL_not_own {xs : List D} : ∀ i sz es, ofL (xs.map .d) i ≠ .own sz es := by
  intro i sz es
  rcases ofL_d (xs := xs) (i := i) with h | ⟨x, _, h⟩ <;> rw [h] <;> intro e <;> cases e
/-- Arguments of which something is forgotten. -/
theorem CallT.args {P : Program} {f : FuncId} {xs ys : List D} {σ : List Hp} {G : Gh} {Q : AV → List Hp → Gh → Prop} (h : CallT P f (ys.map .d) σ G Q) (hl : DsLe xs ys) : CallT P f (xs.map .d) σ G Q := by
  intro S ms w args m0 hsz hrel hargs _
  refine h S ms w args m0 (by simp only [List.length_map] at hsz ⊢; rw [hsz, hl.1]) hrel (fun i => ?_) ofL_not_own
  have ha := hargs i
  rcases ofL_d (xs := ys) (i := i) with e | ⟨y, hy, e⟩
  · rw [e]; trivial
  · rw [e]
    have hi : i < xs.length := by rw [← hl.1]; exact (List.getElem?_eq_some_iff.1 hy).1
    have hx : xs[i]? = some xs[i] := List.getElem?_eq_getElem hi
    have e' : ofL (xs.map .d) i = .d xs[i] := by simp [ofL, List.getD_eq_getElem?_getD, hx]
    rw [e'] at ha
    exact VRD.le ha (hl.2 i _ y hx hy)
theorem CallP.args {P : Program} {f : FuncId} {xs ys : List D} {Q : AV → Prop} (h : CallP P f ys Q) (hl : DsLe xs ys) : CallP P f xs Q := CallT.args h hl
theorem Evo.all {S S' : Stb} {w w' : World} {O : Nat → Prop} (h : Evo w.heap.size (outer [] [] noGh) S w S' w') : Evo w.heap.size O S w S' w' ∧ ∀ b, b < w.heap.size → w'.heap[b]? = w.heap[b]? := by
  have hO : ∀ b, ¬ outer [] [] noGh b := by
    rintro b (⟨k, s, cs, x, m, h1, _⟩ | ⟨cs, hg⟩)
    · simp at h1
    · cases hg
  have hk : ∀ b, b < w.heap.size → w'.heap[b]? = w.heap[b]? := fun b hb => h.keep b hb (hO b)
  exact ⟨⟨h.sz, fun b hb _ => hk b hb, h.st, h.sub, h.os, h.tape, h.out⟩, hk⟩
/-- What there was is there as it was. -/
theorem RelH.kept {S S' : Stb} {ms : List (Nat → Nat)} {σ : List Hp} {G : Gh} {w w' : World} (h : RelH S ms σ G w) (hk : ∀ b, b < w.heap.size → w'.heap[b]? = w.heap[b]?) (hsub : ∀ ad v, S' ad = some v → w'.cell? ad = some v) (hs : Sub S S') (hst : ∀ ad, ad.block < w.heap.size → S' ad = S ad) : RelH S' ms σ G w' :=
  ⟨hsub, h.len, fun hl => (h.box hl).mono hs (hk _ (h.block_lt hl)), fun {k s b cs} hl off sp => by rw [hst ⟨b, off, sp⟩ (h.block_lt hl)]; exact h.nos hl off sp, h.inj,
    fun hb => (h.gbox hb).mono hs (hk _ (h.g_lt hb)), fun {b cs} hb off sp => by rw [hst ⟨b, off, sp⟩ (h.g_lt hb)]; exact h.gnos hb off sp, h.gnl⟩
theorem RelH.bare {S : Stb} {ms : List (Nat → Nat)} {σ : List Hp} {G : Gh} {w : World} (h : RelH S ms σ G w) : RelH S [] [] noGh w :=
  ⟨h.sub, rfl, fun ⟨x, m, h1, _⟩ => by simp at h1, fun ⟨x, m, h1, _⟩ => by simp at h1, fun ⟨x, m, h1, _⟩ => by simp at h1, fun h => (by cases h), fun h => (by cases h), fun h => (by cases h)⟩
/-- **Wherever it is called.** -/
theorem CallP.quiet {P : Program} {f : FuncId} {xs : List D} {Q : AV → Prop} (h : CallP P f xs Q) (σ : List Hp) (G : Gh) : CallT P f (xs.map .d) σ G fun r σ' G' => σ' = σ ∧ G' = G ∧ Q r := by
  intro S ms w args m0 hsz hrel hargs hown
  refine (h S [] w args m0 hsz hrel.bare (fun i => ?_) hown).mono fun v w' ⟨S', r, σ', G', ⟨h1, h2, hQ⟩, hr, he, _, hret, _⟩ => ?_
  · have := hargs i
    rcases ofL_d (xs := xs) (i := i) with e | ⟨x, _, e⟩
    · rw [e]; trivial
    · rw [e] at this ⊢; exact this
  · subst h1; subst h2
    obtain ⟨he', hk⟩ := he.all (O := outer σ ms G)
    refine ⟨S', r, σ, G, ⟨rfl, rfl, hQ⟩, hrel.kept hk hr.sub he.sub he.st, he', Shape.refl _, ?_, fun b cs hb _ => ⟨cs, hb⟩⟩
    cases r with
    | own sz es =>
      obtain ⟨R, ho, hR⟩ := hret
      refine ⟨R, ho, fun g hg => ⟨(hR g hg).1, ?_⟩⟩
      cases hG : G g with
      | none => rfl
      | some cs => have := hrel.g_lt hG; have := (hR g hg).1; omega
    | _ => exact hret
/-! ### a slice that may change, lent to a call that only reads -/
mutual
def flatV : D → Bool
  | .agg cs => flatVs cs
  | .bool _ => true
  | .int _ _ => true
  | .str _ => true
  | _ => false
def flatVs : List D → Bool
  | [] => true
  | x :: xs => flatV x && flatVs xs
end
theorem flatVs_all : ∀ l, flatVs l = l.all flatV
  | [] => rfl
  | x :: xs => by simp [flatVs, flatVs_all xs]
theorem VRD.flat {S S' : Stb} {x : D} {v : Value} (h : VRD S x v) : flatV x = true → VRD S' x v := by
  induction h with
  | bool b => exact fun _ => .bool b
  | int k n => exact fun _ => .int k n
  | str s l h => exact fun _ => .str s l h
  | agg cs vs hl ho _ ih =>
    intro hf
    simp only [flatV, flatVs_all, List.all_eq_true] at hf
    exact .agg cs vs hl ho fun j x v a b => ih j x v a b (hf x (List.mem_of_getElem? a))
  | _ => intro hf; simp [flatV] at hf
def flatA : AV → Bool
  | .d x => flatV x
  | .own _ es => (flat es).all flatV
  | .tup xs => xs.all flatV
  | _ => false
inductive Lend (G : Gh) : D → D → Prop
  | refl (x : D) : Lend G x x
  | nil : Lend G .nilS (.list [])
  | gs (b off n cap sz : Nat) (cs es : List D) (hb : G b = some cs) (hfit : off + n * sz ≤ cs.length) (hn : es.length = n) (hsz : es.all (sizeOk sz) = true) (he : flat es = (cs.drop off).take (n * sz)) : Lend G (.gs b off n cap) (.list es)
def Lends (G : Gh) (xs ys : List D) : Prop := ys.length = xs.length ∧ ∀ (j : Nat) (x y : D), xs[j]? = some x → ys[j]? = some y → Lend G x y
theorem Lends.nil {G : Gh} : Lends G [] [] := ⟨rfl, fun j x y h => by simp at h⟩
theorem Lends.cons {G : Gh} {x y : D} {xs ys : List D} (h : Lend G x y) (hs : Lends G xs ys) : Lends G (x :: xs) (y :: ys) := by
  refine ⟨by simp [hs.1], fun j u v a b => ?_⟩
  cases j with
  | zero => simp at a b; subst a; subst b; exact h
  | succ j => exact hs.2 j u v (by simpa using a) (by simpa using b)
open Classical in
theorem CallP.lend {P : Program} {f : FuncId} {xs ys : List D} {Q : AV → Prop} (h : CallP P f ys Q) {G : Gh} (hl : Lends G xs ys) (hf : ∀ r, Q r → flatA r = true) (σ : List Hp) : CallT P f (xs.map .d) σ G fun r σ' G' => σ' = σ ∧ G' = G ∧ Q r := by
  intro S ms w args m0 hsz hrel hargs hown
  let S1 : Stb := fun ad => if (G ad.block).isSome ∧ ad.spot = none then w.cell? ad else S ad
  have hsub1 : Sub S S1 := by
    intro ad v hs
    simp only [S1]
    split
    · exact hrel.sub _ _ hs
    · exact hs
  have hrel1 : RelH S1 [] [] noGh w := by
    refine ⟨fun ad v hs => ?_, rfl, fun ⟨x, m, h1, _⟩ => by simp at h1, fun ⟨x, m, h1, _⟩ => by simp at h1, fun ⟨x, m, h1, _⟩ => by simp at h1, fun h => (by cases h), fun h => (by cases h), fun h => (by cases h)⟩
    simp only [S1] at hs
    split at hs
    · exact hs
    · exact hrel.sub _ _ hs
  refine (h S1 [] w args m0 (by simp only [List.length_map] at hsz ⊢; rw [hsz, hl.1]) hrel1 (fun i => ?_) ofL_not_own).mono fun v w' ⟨S', r, σ', G', ⟨h1, h2, hQ⟩, hr, he, _, hret, _⟩ => ?_
  · have ha := hargs i
    rcases ofL_d (xs := ys) (i := i) with e | ⟨y, hy, e⟩
    · rw [e]; trivial
    · rw [e]
      have hi : i < xs.length := by rw [← hl.1]; exact (List.getElem?_eq_some_iff.1 hy).1
      have hx : xs[i]? = some xs[i] := List.getElem?_eq_getElem hi
      have e' : ofL (xs.map .d) i = .d xs[i] := by simp [ofL, List.getD_eq_getElem?_getD, hx]
      rw [e'] at ha
      have hle := hl.2 i _ y hx hy
      generalize xs[i] = x at ha hle
      cases hle with
      | refl => exact VRD.mono hsub1 ha
      | nil => exact (VRD.mono hsub1 ha).le (.inr rfl)
      | gs b off n cap sz cs es hb hfit hn hsz hes =>
        obtain ⟨hav, hnc⟩ : args.getD i undef = .slice (some ⟨b, off, none⟩) n cap ∧ n ≤ cap := by
          generalize args.getD i undef = u at ha
          cases ha; rename_i hh; exact ⟨rfl, hh⟩
        rw [hav]
        obtain ⟨c0, e0, hc0, hvc, hone⟩ := hrel.gbox hb
        have hcl : c0.toList.length = cs.length := hvc.1
        show VRD S1 (.list es) _
        rw [← hn]
        refine VRD.list_mk (c := (c0.toList.drop off).take (n * sz)) rfl (by rw [hn]; exact hnc) hsz (by rw [hes]; exact ((hvc.drop _).take _).mono hsub1) fun j u hj => ?_
        have hG : (G b).isSome = true := by rw [hb]; rfl
        simp only [S1, hG, and_self, if_true]
        rw [List.getElem?_take] at hj
        split at hj
        · rw [List.getElem?_drop] at hj
          simpa [World.cell?, hc0] using hj
        · cases hj
  · subst h1; subst h2
    obtain ⟨he', hk⟩ := he.all (O := outer σ ms G)
    let S2 : Stb := fun ad => if ad.block < w.heap.size then S ad else S' ad
    have hS2 : ∀ ad, ad.block < w.heap.size → S2 ad = S ad := fun ad hb => by simp only [S2, if_pos hb]
    have hsub2 : Sub S S2 := fun ad v hs => by rw [hS2 ad (hrel.S_lt hs)]; exact hs
    have hcell : ∀ ad v, S2 ad = some v → w'.cell? ad = some v := by
      intro ad v hs
      simp only [S2] at hs
      split at hs
      · rename_i hb
        have := hrel.sub _ _ hs
        simpa [World.cell?, hk _ hb] using this
      · exact hr.sub _ _ hs
    refine ⟨S2, r, σ, G, ⟨rfl, rfl, hQ⟩, hrel.kept hk hcell hsub2 hS2, ⟨he.sz, fun b hb _ => hk b hb, hS2, hsub2, he.os, he.tape, he.out⟩, Shape.refl _, ?_, fun b cs hb _ => ⟨cs, hb⟩⟩
    have hfr := hf r hQ
    cases r with
    | d x => exact VRD.flat hret hfr
    | own sz es =>
      obtain ⟨R, ho, hR⟩ := hret
      refine ⟨R, ?_, fun g hg => ⟨(hR g hg).1, ?_⟩⟩
      · cases R with
        | none => exact ho
        | some g =>
          have hgb := (hR g rfl).1
          obtain ⟨cap, cur, e, q1, q2, q3, q4, q5, q6, q7, q8, q9⟩ := ho
          have hS' : ∀ off sp, S2 ⟨g, off, sp⟩ = S' ⟨g, off, sp⟩ := fun off sp => by
            have hn : ¬ (g < w.heap.size) := by omega
            simp only [S2, if_neg hn]
          refine ⟨cap, cur, e, q1, q2, q3, q4, q5, q6, ⟨q7.1, fun j x v a b => (q7.2 j x v a b).flat ?_⟩, fun j u hj => by rw [hS']; exact q8 j u hj, fun off sp ho => by rw [hS']; exact q9 off sp ho⟩
          simp only [flatA, List.all_eq_true] at hfr
          exact hfr x (List.mem_of_getElem? a)
      · cases hG : G g with
        | none => rfl
        | some cs => have := hrel.g_lt hG; have := (hR g hg).1; omega
    | tup zs =>
      obtain ⟨vs, e, h3⟩ := hret
      refine ⟨vs, e, h3.1, fun j x v a b => (h3.2 j x v a b).flat ?_⟩
      simp only [flatA, List.all_eq_true] at hfr
      exact hfr x (List.mem_of_getElem? a)
    | _ => exact hret
end Go.E2
