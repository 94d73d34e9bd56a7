/-
  Layer 24 (link), continued: the function that takes frames out of a row, and what it hands over.
  Conditions: of each contract as it says.
-/
import Derived.Test.YtedmmfbebecobaaF24e
namespace Go.Proofs.Ytedmmfbebecobaa
open Go Go.E2 C24
set_option linter.unusedSimpArgs false
/-- A heap in which box 2 is an inbox, and box 9 is a row. -/
def Hrec (H : Hp) (n : Int) (a y : D) : Hp := upd (upd H 2 ⟨1, some [.int .i64 n, a]⟩) 9 ⟨1, some [y]⟩
theorem Hrec_2 (H : Hp) (n m : Int) (a y a' : D) : upd (Hrec H n a y) 2 ⟨1, some [.int .i64 m, a']⟩ = Hrec H m a' y := by
  funext j; simp only [Hrec, upd]; by_cases h : j = 2 <;> by_cases h9 : j = 9 <;> simp [h, h9]
theorem Hrec_9 (H : Hp) (n : Int) (a y y' : D) : upd (Hrec H n a y) 9 ⟨1, some [y']⟩ = Hrec H n a y' := by
  funext j; simp only [Hrec, upd]; by_cases h9 : j = 9 <;> simp [h9]
theorem blk_mid (pre σ0 : List Hp) (H : Hp) (s g : Nat) : blk (pre ++ H :: σ0) pre.length s g = if (H s).g = g then (H s).c else none := by
  simp [blk]
theorem get_mid (pre σ0 : List Hp) (H : Hp) : (pre ++ H :: σ0)[pre.length]? = some H := by simp
theorem set_mid (pre σ0 : List Hp) (H H' : Hp) : (pre ++ H :: σ0).set pre.length H' = pre ++ H' :: σ0 := by simp
theorem blk_2i (pre σ0 : List Hp) (H : Hp) (n : Int) (a y : D) : blk (pre ++ Hrec H n a y :: σ0) pre.length 2 1 = some [.int .i64 n, a] := by rw [blk_mid]; simp [Hrec, upd]
theorem blk_9i (pre σ0 : List Hp) (H : Hp) (n : Int) (a y : D) : blk (pre ++ Hrec H n a y :: σ0) pre.length 9 1 = some [y] := by rw [blk_mid]; simp [Hrec, upd]
/-- What the function does that is handed over. -/
def Rec2 (H : Hp) (a : D) (pre σ0 : List Hp) (f : Fr) (n : Int) (y : D) (outs : List Fr) (G : Gh) (r : AV) (σ' : List Hp) (G' : Gh) : Prop :=
  (f.seq = n ∧ r = .d (.bool true) ∧ ∃ y', σ' = pre ++ Hrec H (n + 1) a y' :: σ0 ∧ GV 3 G' y' ((outs ++ [f]).map eF) ∧ GTo y y' G G') ∨
  (¬ f.seq = n ∧ r = .d (.bool (decide (f.seq < n))) ∧ σ' = pre ++ Hrec H n a y :: σ0 ∧ G' = G)
theorem Rec2_ok (H : Hp) (a : D) (pre σ0 : List Hp) (f : Fr) (n : Int) (y : D) (outs : List Fr) (G : Gh) (hy : GV 3 G y (outs.map eF)) (hl : outs.length ≤ 100000) (hn : 0 ≤ n ∧ n ≤ 4611686018427387904) :
    CallT Try.prog f_link_Receive_2 [.d (eF f), .ptr (pre.length + 1) 2 1 0, .ptr (pre.length + 1) 9 1 0] (pre ++ Hrec H n a y :: σ0) G (Rec2 H a pre σ0 f n y outs G) := by
  refine callT_of_W fol link_Receive_2_cp ?_
  simp -dsimp (disch := first | omega | (simp only [go_sem]; omega)) only [go_sem, ↓reduceIte, Nat.reduceEqDiff, Nat.reduceAdd, Nat.reduceSub, Nat.reduceMul, Nat.reduceLeDiff, Nat.reduceLT, Nat.reduceBEq, reduceCtorEq, Int.reduceToNat, Int.reduceLT, Int.reduceLE, Int.reduceEq, Int.reduceNeg, Int.reduceAdd, Int.reduceSub]
  (repeat (first | with_reducible refine W.seq ?_ | with_reducible refine W.block ?_ | ((first | with_reducible refine W.reg ?_ | with_reducible refine W.skip ?_ | with_reducible refine W.exit ?_ | with_reducible refine W.ret ?_ | with_reducible refine W.ifc ?_); simp -dsimp (disch := first | omega | (simp only [go_sem]; omega)) only [go_sem, ↓reduceIte, Nat.reduceEqDiff, Nat.reduceAdd, Nat.reduceSub, Nat.reduceMul, Nat.reduceLeDiff, Nat.reduceLT, Nat.reduceBEq, reduceCtorEq, Int.reduceToNat, Int.reduceLT, Int.reduceLE, Int.reduceEq, Int.reduceNeg, Int.reduceAdd, Int.reduceSub, blk_2i, blk_9i])))
  refine wG_dec (fun h1 => ?_) (fun h1 => ?_)
  · (repeat (first | with_reducible refine W.seq ?_ | with_reducible refine W.block ?_ | ((first | with_reducible refine W.reg ?_ | with_reducible refine W.skip ?_ | with_reducible refine W.exit ?_ | with_reducible refine W.ret ?_ | with_reducible refine W.ifc ?_); simp -dsimp (disch := first | omega | (simp only [go_sem]; omega)) only [go_sem, ↓reduceIte, Nat.reduceEqDiff, Nat.reduceAdd, Nat.reduceSub, Nat.reduceMul, Nat.reduceLeDiff, Nat.reduceLT, Nat.reduceBEq, reduceCtorEq, Int.reduceToNat, Int.reduceLT, Int.reduceLE, Int.reduceEq, Int.reduceNeg, Int.reduceAdd, Int.reduceSub, blk_2i, blk_9i])))
    refine appV_GV2 (es2 := [eF f]) hy (viewC_list (es := [eF f]) rfl) rfl rfl rfl (by rw [List.length_map]; show (outs.length + 1) * 32 ≤ mostBytes; rw [mostBytes_eq]; omega) fun y' G2 hg hto => ?_
    simp -dsimp (disch := first | omega | (simp only [go_sem]; omega)) only [go_sem, ↓reduceIte, Nat.reduceEqDiff, Nat.reduceAdd, Nat.reduceSub, Nat.reduceMul, Nat.reduceLeDiff, Nat.reduceLT, Nat.reduceBEq, reduceCtorEq, Int.reduceToNat, Int.reduceLT, Int.reduceLE, Int.reduceEq, Int.reduceNeg, Int.reduceAdd, Int.reduceSub, blk_2i, blk_9i]
    (repeat (first | with_reducible refine W.seq ?_ | with_reducible refine W.block ?_ | ((first | with_reducible refine W.reg ?_ | with_reducible refine W.skip ?_ | with_reducible refine W.exit ?_ | with_reducible refine W.ret ?_ | with_reducible refine W.ifc ?_); simp -dsimp (disch := first | omega | (simp only [go_sem]; omega)) only [go_sem, ↓reduceIte, Nat.reduceEqDiff, Nat.reduceAdd, Nat.reduceSub, Nat.reduceMul, Nat.reduceLeDiff, Nat.reduceLT, Nat.reduceBEq, reduceCtorEq, Int.reduceToNat, Int.reduceLT, Int.reduceLE, Int.reduceEq, Int.reduceNeg, Int.reduceAdd, Int.reduceSub, blk_2i, blk_9i])))
    rcases hg.shape with rfl | ⟨b', n', cap', rfl⟩
    all_goals
      simp -dsimp (disch := first | omega | (simp only [go_sem]; omega)) only [go_sem, ↓reduceIte, Nat.reduceEqDiff, Nat.reduceAdd, Nat.reduceSub, Nat.reduceMul, Nat.reduceLeDiff, Nat.reduceLT, Nat.reduceBEq, reduceCtorEq, Int.reduceToNat, Int.reduceLT, Int.reduceLE, Int.reduceEq, Int.reduceNeg, Int.reduceAdd, Int.reduceSub, blk_9i]
      refine ⟨_, get_mid _ _ _, ?_⟩
      rw [Hrec_9, set_mid]
      (repeat (first | with_reducible refine W.seq ?_ | with_reducible refine W.block ?_ | ((first | with_reducible refine W.reg ?_ | with_reducible refine W.skip ?_ | with_reducible refine W.exit ?_ | with_reducible refine W.ret ?_ | with_reducible refine W.ifc ?_); simp -dsimp (disch := first | omega | (simp only [go_sem]; omega)) only [go_sem, ↓reduceIte, Nat.reduceEqDiff, Nat.reduceAdd, Nat.reduceSub, Nat.reduceMul, Nat.reduceLeDiff, Nat.reduceLT, Nat.reduceBEq, reduceCtorEq, Int.reduceToNat, Int.reduceLT, Int.reduceLE, Int.reduceEq, Int.reduceNeg, Int.reduceAdd, Int.reduceSub, blk_2i])))
      refine ⟨_, get_mid _ _ _, ?_⟩
      rw [Hrec_2, set_mid]
      (repeat (first | with_reducible refine W.seq ?_ | with_reducible refine W.block ?_ | ((first | with_reducible refine W.reg ?_ | with_reducible refine W.skip ?_ | with_reducible refine W.exit ?_ | with_reducible refine W.ret ?_ | with_reducible refine W.ifc ?_); simp -dsimp (disch := first | omega | (simp only [go_sem]; omega)) only [go_sem, ↓reduceIte, Nat.reduceEqDiff, Nat.reduceAdd, Nat.reduceSub, Nat.reduceMul, Nat.reduceLeDiff, Nat.reduceLT, Nat.reduceBEq, reduceCtorEq, Int.reduceToNat, Int.reduceLT, Int.reduceLE, Int.reduceEq, Int.reduceNeg, Int.reduceAdd, Int.reduceSub])))
      exact Fin.eq rfl (.inl ⟨h1, rfl, _, rfl, by simpa using hg, hto⟩)
  · (repeat (first | with_reducible refine W.seq ?_ | with_reducible refine W.block ?_ | ((first | with_reducible refine W.reg ?_ | with_reducible refine W.skip ?_ | with_reducible refine W.exit ?_ | with_reducible refine W.ret ?_ | with_reducible refine W.ifc ?_); simp -dsimp (disch := first | omega | (simp only [go_sem]; omega)) only [go_sem, ↓reduceIte, Nat.reduceEqDiff, Nat.reduceAdd, Nat.reduceSub, Nat.reduceMul, Nat.reduceLeDiff, Nat.reduceLT, Nat.reduceBEq, reduceCtorEq, Int.reduceToNat, Int.reduceLT, Int.reduceLE, Int.reduceEq, Int.reduceNeg, Int.reduceAdd, Int.reduceSub, blk_2i, blk_9i])))
    exact Fin.eq rfl (.inr ⟨h1, rfl, rfl, rfl⟩)
/-- A call of a function that has captured boxes. -/
theorem wC_cap {P : Program} {d : Option Nat} {f : AO} {args : List AO} {g : FuncId} {caps vs : List AV} {ρ : Env} {L : Hp} {σ : List Hp} {G : Gh} {K : St → Prop} {Q : AV → List Hp → Gh → Prop} {h : Hide K}
    (hc : CallT P g vs (L :: σ) G Q) (ht : target (ev ρ f) = some (g, caps)) (hv : (args.map (ev ρ) ++ caps).map sh = vs) (hK : ∀ r lv G', Q r lv G' → ∃ L' σ', lv = L' :: σ' ∧ K (put ρ d r, L', σ', G')) : wC P d f args 0 ρ L σ G h := by
  show callW P d f args 0 ρ L σ G K
  unfold callW
  rw [ht]
  simp only [if_true]
  rw [hv]
  exact hc.mono fun r lv G' hq => by
    obtain ⟨L', σ', rfl, hk⟩ := hK r lv G' hq
    exact hk
def Idx (H : Hp) (a : D) (pre σ0 : List Hp) (l : List Fr) (n : Int) (y : D) (outs : List Fr) (G : Gh) (r : AV) (σ' : List Hp) (G' : Gh) : Prop :=
  (r = .d (.int .i64 (-1)) ∧ σ' = pre ++ Hrec H n a y :: σ0 ∧ G' = G ∧ ∀ f ∈ l, n < f.seq) ∨
  ∃ ks f rest, l = ks ++ f :: rest ∧ (∀ g ∈ ks, n < g.seq) ∧ r = .d (.int .i64 ks.length) ∧
    ((f.seq = n ∧ ∃ y', σ' = pre ++ Hrec H (n + 1) a y' :: σ0 ∧ GV 3 G' y' ((outs ++ [f]).map eF) ∧ GTo y y' G G') ∨ (f.seq < n ∧ σ' = pre ++ Hrec H n a y :: σ0 ∧ G' = G))
theorem IndexF_ok (H : Hp) (a : D) (pre σ0 : List Hp) (l : List Fr) (x : D) (n : Int) (y : D) (outs : List Fr) (G : Gh) (hx : GV 3 G x (l.map eF)) (hll : l.length ≤ 100000) (hy : GV 3 G y (outs.map eF)) (hl : outs.length ≤ 100000) (hn : 0 ≤ n ∧ n ≤ 4611686018427387904) :
    CallT Try.prog f_slices_IndexFunc_api_Frame_api_Frame [.d x, .func f_link_Receive_2 [(pre.length + 1, 2, 1), (pre.length + 1, 9, 1)]] (pre ++ Hrec H n a y :: σ0) G (Idx H a pre σ0 l n y outs G) := by
  refine callT_of_W fol slices_IndexFunc_api_Frame_api_Frame_cp ?_
  cases hl0 : l with
  | nil =>
    subst hl0
    have hlen := hx.len
    simp -dsimp (disch := first | omega | (simp only [go_sem]; omega)) only [go_sem, ↓reduceIte, Nat.reduceEqDiff, Nat.reduceAdd, Nat.reduceSub, Nat.reduceMul, Nat.reduceLeDiff, Nat.reduceLT, Nat.reduceBEq, reduceCtorEq, Int.reduceToNat, Int.reduceLT, Int.reduceLE, Int.reduceEq, Int.reduceNeg, Int.reduceAdd, Int.reduceSub]
    (repeat (first | with_reducible refine W.seq ?_ | with_reducible refine W.block ?_ | ((first | with_reducible refine W.reg ?_ | with_reducible refine W.skip ?_ | with_reducible refine W.exit ?_ | with_reducible refine W.ret ?_ | with_reducible refine W.ifc ?_); simp -dsimp (disch := first | omega | (simp only [go_sem]; omega)) only [go_sem, ↓reduceIte, Nat.reduceEqDiff, Nat.reduceAdd, Nat.reduceSub, Nat.reduceMul, Nat.reduceLeDiff, Nat.reduceLT, Nat.reduceBEq, reduceCtorEq, Int.reduceToNat, Int.reduceLT, Int.reduceLE, Int.reduceEq, Int.reduceNeg, Int.reduceAdd, Int.reduceSub, hlen, List.length_map])))
    refine W.loop (fun k st => k = 0 ∧ st = (E [(0, .d x), (1, .func f_link_Receive_2 [(pre.length + 1, 2, 1), (pre.length + 1, 9, 1)]), (7, .d (.int .i64 0)), (8, .d (.int .i64 0))], HB [], pre ++ Hrec H n a y :: σ0, G))
      ⟨_, _, st_le (by (simp -dsimp (disch := first | omega | (simp only [go_sem]; omega)) only [go_sem, ↓reduceIte, Nat.reduceEqDiff, Nat.reduceAdd, Nat.reduceSub, Nat.reduceMul, Nat.reduceLeDiff, Nat.reduceLT, Nat.reduceBEq, reduceCtorEq, Int.reduceToNat, Int.reduceLT, Int.reduceLE, Int.reduceEq, Int.reduceNeg, Int.reduceAdd, Int.reduceSub] <;> ((repeat' apply And.intro) <;> first | exact VLe.refl _ | (apply vle_int; omega) | (apply vle_int; simp; done) | exact VLe.own _ _ | exact VLe.nilown _ | exact VLe.norm _))), rfl, rfl⟩ ?_
    rintro k st ⟨rfl, rfl⟩
    (repeat (first | with_reducible refine W.seq ?_ | with_reducible refine W.block ?_ | ((first | with_reducible refine W.reg ?_ | with_reducible refine W.skip ?_ | with_reducible refine W.exit ?_ | with_reducible refine W.ret ?_ | with_reducible refine W.ifc ?_); simp -dsimp (disch := first | omega | (simp only [go_sem]; omega)) only [go_sem, ↓reduceIte, Nat.reduceEqDiff, Nat.reduceAdd, Nat.reduceSub, Nat.reduceMul, Nat.reduceLeDiff, Nat.reduceLT, Nat.reduceBEq, reduceCtorEq, Int.reduceToNat, Int.reduceLT, Int.reduceLE, Int.reduceEq, Int.reduceNeg, Int.reduceAdd, Int.reduceSub])))
    exact Fin.eq rfl (.inl ⟨rfl, rfl, rfl, fun f hf => by cases hf⟩)
  | cons f0 l0 =>
    obtain ⟨b, cap, cs, rfl, hb, hrow⟩ := hx.inv (by rw [hl0]; simp)
    rw [← hl0]
    rw [List.length_map] at hrow ⊢
    have hid : ∀ m (h : m < l.length), vCells true 3 (G b) (m * 3) = some (.d (eF l[m])) := fun m h => by
      rw [hb, hrow.idx (by simpa using h)]; simp [eF, D.cells]
    simp -dsimp (disch := first | omega | (simp only [go_sem]; omega)) only [go_sem, ↓reduceIte, Nat.reduceEqDiff, Nat.reduceAdd, Nat.reduceSub, Nat.reduceMul, Nat.reduceLeDiff, Nat.reduceLT, Nat.reduceBEq, reduceCtorEq, Int.reduceToNat, Int.reduceLT, Int.reduceLE, Int.reduceEq, Int.reduceNeg, Int.reduceAdd, Int.reduceSub]
    (repeat (first | with_reducible refine W.seq ?_ | with_reducible refine W.block ?_ | ((first | with_reducible refine W.reg ?_ | with_reducible refine W.skip ?_ | with_reducible refine W.exit ?_ | with_reducible refine W.ret ?_ | with_reducible refine W.ifc ?_); simp -dsimp (disch := first | omega | (simp only [go_sem]; omega)) only [go_sem, ↓reduceIte, Nat.reduceEqDiff, Nat.reduceAdd, Nat.reduceSub, Nat.reduceMul, Nat.reduceLeDiff, Nat.reduceLT, Nat.reduceBEq, reduceCtorEq, Int.reduceToNat, Int.reduceLT, Int.reduceLE, Int.reduceEq, Int.reduceNeg, Int.reduceAdd, Int.reduceSub])))
    refine W.loop (fun k st => ∃ j, j ≤ l.length ∧ k = l.length - j ∧ (∀ m (h : m < l.length), m < j → n < l[m].seq) ∧
        st = (E [(0, .d (.gs b 0 l.length cap)), (1, .func f_link_Receive_2 [(pre.length + 1, 2, 1), (pre.length + 1, 9, 1)]), (7, .d (.int .i64 l.length)), (8, .d (.int .i64 j))], HB [], pre ++ Hrec H n a y :: σ0, G))
      ⟨_, _, st_le (by (simp -dsimp (disch := first | omega | (simp only [go_sem]; omega)) only [go_sem, ↓reduceIte, Nat.reduceEqDiff, Nat.reduceAdd, Nat.reduceSub, Nat.reduceMul, Nat.reduceLeDiff, Nat.reduceLT, Nat.reduceBEq, reduceCtorEq, Int.reduceToNat, Int.reduceLT, Int.reduceLE, Int.reduceEq, Int.reduceNeg, Int.reduceAdd, Int.reduceSub] <;> ((repeat' apply And.intro) <;> first | exact VLe.refl _ | (apply vle_int; omega) | (apply vle_int; simp; done) | exact VLe.own _ _ | exact VLe.nilown _ | exact VLe.norm _))), 0, by omega, rfl, fun _ _ h => by omega, rfl⟩ ?_
    rintro k st ⟨j, hj, rfl, hlo, rfl⟩
    (repeat (first | with_reducible refine W.seq ?_ | with_reducible refine W.block ?_ | ((first | with_reducible refine W.reg ?_ | with_reducible refine W.skip ?_ | with_reducible refine W.exit ?_ | with_reducible refine W.ret ?_ | with_reducible refine W.ifc ?_); simp -dsimp (disch := first | omega | (simp only [go_sem]; omega)) only [go_sem, ↓reduceIte, Nat.reduceEqDiff, Nat.reduceAdd, Nat.reduceSub, Nat.reduceMul, Nat.reduceLeDiff, Nat.reduceLT, Nat.reduceBEq, reduceCtorEq, Int.reduceToNat, Int.reduceLT, Int.reduceLE, Int.reduceEq, Int.reduceNeg, Int.reduceAdd, Int.reduceSub])))
    refine wG_dec (fun h1 => ?_) (fun h1 => ?_)
    · have hj' : j < l.length := by omega
      have hidj := hid j hj'
      (repeat (first | with_reducible refine W.seq ?_ | with_reducible refine W.block ?_ | ((first | with_reducible refine W.reg ?_ | with_reducible refine W.skip ?_ | with_reducible refine W.exit ?_ | with_reducible refine W.ret ?_ | with_reducible refine W.ifc ?_); simp -dsimp (disch := first | omega | (simp only [go_sem]; omega)) only [go_sem, ↓reduceIte, Nat.reduceEqDiff, Nat.reduceAdd, Nat.reduceSub, Nat.reduceMul, Nat.reduceLeDiff, Nat.reduceLT, Nat.reduceBEq, reduceCtorEq, Int.reduceToNat, Int.reduceLT, Int.reduceLE, Int.reduceEq, Int.reduceNeg, Int.reduceAdd, Int.reduceSub, hidj, Int.toNat_natCast])))
      apply wC_cap (Rec2_ok H a (HB [] :: pre) σ0 l[j] n y outs G hy hl hn)
      focus (simp -dsimp (disch := first | omega | (simp only [go_sem]; omega)) only [go_sem, ↓reduceIte, Nat.reduceEqDiff, Nat.reduceAdd, Nat.reduceSub, Nat.reduceMul, Nat.reduceLeDiff, Nat.reduceLT, Nat.reduceBEq, reduceCtorEq, Int.reduceToNat, Int.reduceLT, Int.reduceLE, Int.reduceEq, Int.reduceNeg, Int.reduceAdd, Int.reduceSub] <;> rfl)
      focus (simp -dsimp (disch := first | omega | (simp only [go_sem]; omega)) only [go_sem, ↓reduceIte, Nat.reduceEqDiff, Nat.reduceAdd, Nat.reduceSub, Nat.reduceMul, Nat.reduceLeDiff, Nat.reduceLT, Nat.reduceBEq, reduceCtorEq, Int.reduceToNat, Int.reduceLT, Int.reduceLE, Int.reduceEq, Int.reduceNeg, Int.reduceAdd, Int.reduceSub] <;> rfl)
      rintro r lv G' (⟨he, rfl, y', rfl, hy', hto⟩ | ⟨he, rfl, rfl, rfl⟩)
      · refine ⟨_, _, rfl, ?_⟩
        simp -dsimp (disch := first | omega | (simp only [go_sem]; omega)) only [go_sem, ↓reduceIte, Nat.reduceEqDiff, Nat.reduceAdd, Nat.reduceSub, Nat.reduceMul, Nat.reduceLeDiff, Nat.reduceLT, Nat.reduceBEq, reduceCtorEq, Int.reduceToNat, Int.reduceLT, Int.reduceLE, Int.reduceEq, Int.reduceNeg, Int.reduceAdd, Int.reduceSub]
        (repeat (first | with_reducible refine W.seq ?_ | with_reducible refine W.block ?_ | ((first | with_reducible refine W.reg ?_ | with_reducible refine W.skip ?_ | with_reducible refine W.exit ?_ | with_reducible refine W.ret ?_ | with_reducible refine W.ifc ?_); simp -dsimp (disch := first | omega | (simp only [go_sem]; omega)) only [go_sem, ↓reduceIte, Nat.reduceEqDiff, Nat.reduceAdd, Nat.reduceSub, Nat.reduceMul, Nat.reduceLeDiff, Nat.reduceLT, Nat.reduceBEq, reduceCtorEq, Int.reduceToNat, Int.reduceLT, Int.reduceLE, Int.reduceEq, Int.reduceNeg, Int.reduceAdd, Int.reduceSub])))
        refine Fin.eq rfl (.inr ⟨l.take j, l[j], l.drop (j + 1), ?_, fun g hg => ?_, ?_, .inl ⟨he, y', rfl, hy', hto⟩⟩)
        · rw [← List.drop_eq_getElem_cons hj', List.take_append_drop]
        · obtain ⟨m, hm, rfl⟩ := List.getElem_of_mem hg
          rw [List.length_take] at hm
          rw [List.getElem_take]
          exact hlo m (by omega) (by omega)
        · rw [List.length_take, Nat.min_eq_left hj]
      · refine ⟨_, _, rfl, ?_⟩
        simp -dsimp (disch := first | omega | (simp only [go_sem]; omega)) only [go_sem, ↓reduceIte, Nat.reduceEqDiff, Nat.reduceAdd, Nat.reduceSub, Nat.reduceMul, Nat.reduceLeDiff, Nat.reduceLT, Nat.reduceBEq, reduceCtorEq, Int.reduceToNat, Int.reduceLT, Int.reduceLE, Int.reduceEq, Int.reduceNeg, Int.reduceAdd, Int.reduceSub]
        (repeat (first | with_reducible refine W.seq ?_ | with_reducible refine W.block ?_ | ((first | with_reducible refine W.reg ?_ | with_reducible refine W.skip ?_ | with_reducible refine W.exit ?_ | with_reducible refine W.ret ?_ | with_reducible refine W.ifc ?_); simp -dsimp (disch := first | omega | (simp only [go_sem]; omega)) only [go_sem, ↓reduceIte, Nat.reduceEqDiff, Nat.reduceAdd, Nat.reduceSub, Nat.reduceMul, Nat.reduceLeDiff, Nat.reduceLT, Nat.reduceBEq, reduceCtorEq, Int.reduceToNat, Int.reduceLT, Int.reduceLE, Int.reduceEq, Int.reduceNeg, Int.reduceAdd, Int.reduceSub])))
        refine wG_dec (fun h2 => ?_) (fun h2 => ?_)
        · (repeat (first | with_reducible refine W.seq ?_ | with_reducible refine W.block ?_ | ((first | with_reducible refine W.reg ?_ | with_reducible refine W.skip ?_ | with_reducible refine W.exit ?_ | with_reducible refine W.ret ?_ | with_reducible refine W.ifc ?_); simp -dsimp (disch := first | omega | (simp only [go_sem]; omega)) only [go_sem, ↓reduceIte, Nat.reduceEqDiff, Nat.reduceAdd, Nat.reduceSub, Nat.reduceMul, Nat.reduceLeDiff, Nat.reduceLT, Nat.reduceBEq, reduceCtorEq, Int.reduceToNat, Int.reduceLT, Int.reduceLE, Int.reduceEq, Int.reduceNeg, Int.reduceAdd, Int.reduceSub])))
          refine Fin.eq rfl (.inr ⟨l.take j, l[j], l.drop (j + 1), ?_, fun g hg => ?_, ?_, .inr ⟨h2, rfl, rfl⟩⟩)
          · rw [← List.drop_eq_getElem_cons hj', List.take_append_drop]
          · obtain ⟨m, hm, rfl⟩ := List.getElem_of_mem hg
            rw [List.length_take] at hm
            rw [List.getElem_take]
            exact hlo m (by omega) (by omega)
          · rw [List.length_take, Nat.min_eq_left hj]
        · (repeat (first | with_reducible refine W.seq ?_ | with_reducible refine W.block ?_ | ((first | with_reducible refine W.reg ?_ | with_reducible refine W.skip ?_ | with_reducible refine W.exit ?_ | with_reducible refine W.ret ?_ | with_reducible refine W.ifc ?_); simp -dsimp (disch := first | omega | (simp only [go_sem]; omega)) only [go_sem, ↓reduceIte, Nat.reduceEqDiff, Nat.reduceAdd, Nat.reduceSub, Nat.reduceMul, Nat.reduceLeDiff, Nat.reduceLT, Nat.reduceBEq, reduceCtorEq, Int.reduceToNat, Int.reduceLT, Int.reduceLE, Int.reduceEq, Int.reduceNeg, Int.reduceAdd, Int.reduceSub])))
          refine ⟨_, _, ?_, st_le (by (simp -dsimp (disch := first | omega | (simp only [go_sem]; omega)) only [go_sem, ↓reduceIte, Nat.reduceEqDiff, Nat.reduceAdd, Nat.reduceSub, Nat.reduceMul, Nat.reduceLeDiff, Nat.reduceLT, Nat.reduceBEq, reduceCtorEq, Int.reduceToNat, Int.reduceLT, Int.reduceLE, Int.reduceEq, Int.reduceNeg, Int.reduceAdd, Int.reduceSub] <;> ((repeat' apply And.intro) <;> first | exact VLe.refl _ | (apply vle_int; omega) | (apply vle_int; simp; done) | exact VLe.own _ _ | exact VLe.nilown _ | exact VLe.norm _))), j + 1, by omega, rfl, fun m hm hlt => ?_, rfl⟩
          · omega
          · by_cases e : m = j
            · subst e; omega
            · exact hlo m hm (by omega)
    · obtain rfl : j = l.length := by omega
      (repeat (first | with_reducible refine W.seq ?_ | with_reducible refine W.block ?_ | ((first | with_reducible refine W.reg ?_ | with_reducible refine W.skip ?_ | with_reducible refine W.exit ?_ | with_reducible refine W.ret ?_ | with_reducible refine W.ifc ?_); simp -dsimp (disch := first | omega | (simp only [go_sem]; omega)) only [go_sem, ↓reduceIte, Nat.reduceEqDiff, Nat.reduceAdd, Nat.reduceSub, Nat.reduceMul, Nat.reduceLeDiff, Nat.reduceLT, Nat.reduceBEq, reduceCtorEq, Int.reduceToNat, Int.reduceLT, Int.reduceLE, Int.reduceEq, Int.reduceNeg, Int.reduceAdd, Int.reduceSub])))
      refine Fin.eq rfl (.inl ⟨rfl, rfl, rfl, fun f hf => ?_⟩)
      obtain ⟨m, hm, rfl⟩ := List.getElem_of_mem hf
      exact hlo m hm hm
end Go.Proofs.Ytedmmfbebecobaa
