/-
  Slices that grow in a field: nil, or a row of a block; and how a result that holds one becomes plain data.
  Conditions: none; definitions and laws.
-/
import Derived.Test.YtpooocblijlabaaEN5
namespace Go.E2
def normA : AV → AV
  | .d x => .d (norm x)
  | .own _ es => .d (norm (.list es))
  | .tup xs => .tup (normL xs)
  | v => v
theorem DsLe.norm (xs : List D) : DsLe xs (normL xs) := by
  rw [normL_map]
  refine ⟨by simp, fun j x y a b => ?_⟩
  rw [List.getElem?_map, a] at b
  cases b
  exact .inr rfl
theorem RLe.norm (r : AV) : RLe r (normA r) := by
  cases r with
  | d x => exact .le _ _ (.inr rfl)
  | own sz es => exact .own sz es _ (.inr rfl)
  | tup xs => exact .tup _ _ (DsLe.norm xs)
  | _ => exact .refl _
/-- The end of a call that touches nothing: what it gives back, with nil read as an empty row. -/
theorem Fin.n {res : List ARes} {Q : AV → Prop} {h : Hide fun (r : AV) (σ' : List Hp) (G' : Gh) => σ' = [] ∧ G' = noGh ∧ Q r} {ρ : Env} {L : Hp} {r : AV} (hf : fin res ρ [L] = some r) (hq : Q (normA r)) : Fin res h (ρ, L, [], noGh) := .ple hf (.norm r) hq
theorem Fin.nT {res : List ARes} {Q : AV → List Hp → Gh → Prop} {h : Hide Q} {st : St} {r : AV} (hf : fin res st.1 (st.2.1 :: st.2.2.1) = some r) (hq : Q (normA r) st.2.2.1 st.2.2.2) : Fin res h st := .le hf (.norm r) hq
@[go_sem] theorem normA_d (x : D) : normA (.d x) = .d (norm x) := rfl
@[go_sem] theorem normA_own (sz : Nat) (es : List D) : normA (.own sz es) = .d (norm (.list es)) := rfl
@[go_sem] theorem normA_tup (xs : List D) : normA (.tup xs) = .tup (normL xs) := rfl
@[go_sem] theorem norm_agg (cs : List D) : norm (.agg cs) = .agg (normL cs) := rfl
@[go_sem] theorem norm_list (cs : List D) : norm (.list cs) = .list (normL cs) := rfl
@[go_sem] theorem norm_nilS : norm .nilS = .list [] := rfl
@[go_sem] theorem norm_bool (b : Bool) : norm (.bool b) = .bool b := rfl
@[go_sem] theorem norm_int (k : IntKind) (n : Int) : norm (.int k n) = .int k n := rfl
@[go_sem] theorem norm_str (s : List UInt8) : norm (.str s) = .str s := rfl
@[go_sem] theorem norm_gs (b o n c : Nat) : norm (.gs b o n c) = .gs b o n c := rfl
@[go_sem] theorem norm_gp (b o : Nat) : norm (.gp b o) = .gp b o := rfl
@[go_sem] theorem norm_nilP : norm .nilP = .nilP := rfl
@[go_sem] theorem norm_nilF : norm .nilF = .nilF := rfl
@[go_sem] theorem norm_fn (f : FuncId) : norm (.fn f) = .fn f := rfl
@[go_sem] theorem normL_nil : normL [] = [] := rfl
@[go_sem] theorem normL_cons (x : D) (xs : List D) : normL (x :: xs) = norm x :: normL xs := rfl
theorem normL_of {α : Type} {f : α → D} (h : ∀ x, norm (f x) = f x) (l : List α) : normL (l.map f) = l.map f := by
  rw [normL_map, List.map_map]; exact List.map_congr_left fun x _ => h x
/-- nil and no elements, or a row of a block. -/
inductive GV (sz : Nat) (G : Gh) : D → List D → Prop
  | nil : GV sz G .nilS []
  | row (b cap : Nat) (es cs : List D) (hb : G b = some cs) (hr : Row sz es.length cap es cs) : GV sz G (.gs b 0 es.length cap) es
/-- Blocks other than the one of 'x' are as they were. -/
def GFr (x : D) (G G' : Gh) : Prop := ∀ b c, G b = some c → (∀ o n k, x ≠ .gs b o n k) → G' b = some c
theorem GV.all {sz : Nat} {G : Gh} {x : D} {es : List D} (h : GV sz G x es) : es.all (sizeOk sz) = true := by
  cases h with
  | nil => rfl
  | row b cap es cs hb hr => exact hr.all
theorem GV.len {sz : Nat} {G : Gh} {x : D} {es : List D} (h : GV sz G x es) : vLen false (some x) = some (.d (.int .i64 es.length)) := by
  cases h <;> rfl
theorem GV.view {sz : Nat} {G : Gh} {x : D} {es : List D} (h : GV sz G x es) : viewC G sz x = some (es.length, flat es) := by
  cases h with
  | nil => rfl
  | row b cap es cs hb hr => exact hr.view0 hb
theorem GV.lend {sz : Nat} {G : Gh} {x : D} {es : List D} (h : GV sz G x es) : Lend G x (.list es) := by
  cases h with
  | nil => exact .nil
  | row b cap es cs hb hr => exact .gs b 0 es.length cap sz cs es hb (by have := hr.ncs; omega) rfl hr.all (by rw [List.drop_zero, hr.eq])
theorem appV_GV {sz by_ : Nat} {z : List D} {x y : D} {es es2 : List D} {m d : Nat} {l : List (Nat × AV)} {L : Hp} {σ : List Hp} {G : Gh} {K : St → Prop} {h : Hide K} (hx : GV sz G x es) (hv : viewC G sz y = some (m, flat es2)) (hm : es2.length = m) (ha : es2.all (sizeOk sz) = true) (hz : z.length = sz) (hb : (es.length + m) * by_ ≤ mostBytes)
    (hK : ∀ x' G', GV sz G' x' (es ++ es2) → GFr x G G' → K (E ((d, .d x') :: l), L, σ, G')) : appV (some d) sz by_ z x y (E l) L σ G h := by
  refine appV_view hv ?_
  have fr : ∀ {b' cs'}, G b' = none → GFr x G (upd G b' (some cs')) := by
    intro b' cs' hb' b c hbc _
    unfold upd; split
    · rename_i e; subst e; rw [hb'] at hbc; cases hbc
    · exact hbc
  cases hx with
  | nil =>
    refine appW_nil hz hm ha (by simpa using hb) (fun h0 => ?_) (fun h0 b cap cs hb' hr => ?_)
    · have e : es2 = [] := List.eq_nil_of_length_eq_zero (by omega)
      subst e
      exact hK _ _ .nil fun _ _ h _ => h
    · have h1 := GV.row (sz := sz) (G := upd G b (some cs)) b cap es2 cs (by simp [upd]) (by rw [hm]; exact hr)
      rw [hm] at h1
      exact hK _ _ h1 (fr hb')
  | row b cap es cs hbb hr =>
    have el : (es ++ es2).length = es.length + m := by simp [hm]
    refine appW_row hbb hr hz hm ha hb (fun cs' hc hr' => ?_) (fun b' cap' cs' hc hb' hr' => ?_)
    · have h1 := GV.row (sz := sz) (G := upd G b (some cs')) b cap (es ++ es2) cs' (by simp [upd]) (by rw [el]; exact hr')
      rw [el] at h1
      refine hK _ _ h1 fun b2 c2 h2 hne => ?_
      unfold upd; split
      · rename_i e; subst e; exact absurd rfl (hne _ _ _)
      · exact h2
    · have h1 := GV.row (sz := sz) (G := upd G b' (some cs')) b' cap' (es ++ es2) cs' (by simp [upd]) (by rw [el]; exact hr')
      rw [el] at h1
      exact hK _ _ h1 (fr hb')
/-- Where in a result a slice stands. -/
structure Spot (c : D → AV) : Prop where
  fd : ∀ (b : Nat) (cs : List D) (x y : D), FD b cs x y → FA b cs (c x) (c y)
  nil : RLe (c .nilS) (c (.list []))
theorem CallT.le {P : Program} {f : FuncId} {vs : List AV} {σ : List Hp} {G : Gh} {Q Q2 : AV → List Hp → Gh → Prop} (h : CallT P f vs σ G Q) (hq : ∀ r σ' G', Q r σ' G' → ∃ r', RLe r r' ∧ Q2 r' σ' G') : CallT P f vs σ G Q2 := by
  intro S ms w args m0 hsz hrel hargs hown
  refine (h S ms w args m0 hsz hrel hargs hown).mono fun v w' ⟨S', r, σ', G', hQ, hr, he, hsh, hret, hG⟩ => ?_
  obtain ⟨r', hl, h2⟩ := hq _ _ _ hQ
  exact ⟨S', r', σ', G', h2, hr, he, hsh, hret.le hl, hG⟩
/-- **A result that holds a slice of the call's own is plain data.** -/
theorem CallT.plain {P : Program} {f : FuncId} {xs : List D} {Q : AV → Prop} {sz : Nat} (h : CallT P f (xs.map .d) [] noGh fun r σ' G' => σ' = [] ∧ (Q r ∨ ∃ x es c, GV sz G' x es ∧ r = c x ∧ Spot c ∧ Q (c (.list es)))) : CallP P f xs Q := by
  have h1 : CallT P f (xs.map .d) [] noGh fun r σ' _ => σ' = [] ∧ (Q r ∨ ∃ c, r = c .nilS ∧ Spot c ∧ Q (c (.list []))) := by
    refine h.frz fun r σ' G' ⟨h1, h2⟩ => ?_
    rcases h2 with h2 | ⟨x, es, c, hgv, rfl, hc, hQ⟩
    · exact .inl ⟨h1, .inl h2⟩
    · cases hgv with
      | nil => exact .inl ⟨h1, .inr ⟨c, rfl, hc, hQ⟩⟩
      | row b cap es cs hb hr =>
        exact .inr ⟨b, cs, c (.list es), rfl, hb, hc.fd _ _ _ _ (.gs 0 es.length cap sz es (by have := hr.ncs; omega) rfl hr.all (by rw [List.drop_zero, hr.eq])), h1, .inl hQ⟩
  have h2 : CallT P f (xs.map .d) [] noGh fun r σ' _ => σ' = [] ∧ Q r := h1.le fun r σ' G' ⟨a, b⟩ => by
    rcases b with b | ⟨c, rfl, hc, hQ⟩
    · exact ⟨r, .refl r, a, b⟩
    · exact ⟨_, hc.nil, a, hQ⟩
  exact h2.forget fun r σ' G' ⟨a, b⟩ => ⟨noGh, fun _ => .inl rfl, a, rfl, b⟩
end Go.E2
