/-
  Layer 24 (link), continued: taking out of a row.
  Conditions: of each contract as it says.
-/
import Derived.Test.YtedmmfbebecobaaF24f
namespace Go.Proofs.Ytedmmfbebecobaa
open Go Go.E2 C24
set_option linter.unusedSimpArgs false
/-- What lies behind a row does not matter. -/
theorem row_beyond {sz n cap : Nat} {es cs vs : List D} {off : Nat} (h : Row sz n cap es cs) (h1 : n * sz ≤ off) (h2 : off + vs.length ≤ cs.length) : Row sz n cap es (over cs vs off) := by
  refine ⟨h.len, h.all, h.fit, by rw [over_length h2]; exact h.room, ?_⟩
  simp only [over]
  rw [List.append_assoc, List.take_append_of_le_length (by rw [List.length_take]; omega), List.take_take, Nat.min_eq_left h1]
  exact h.eq
theorem clr_len (k : Nat) (z : List D) : ((List.replicate k z).flatten).length = k * z.length := by simp
/-- What comes of taking out. -/
def Del (H : Hp) (a : D) (pre σ0 : List Hp) (l : List Fr) (n : Int) (outs : List Fr) (r : AV) (σ' : List Hp) (G' : Gh) : Prop :=
  ∃ x' y', r = .d x' ∧ σ' = pre ++ Hrec H (pull n l).1 a y' :: σ0 ∧ GV 3 G' x' ((pull n l).2.1.map eF) ∧ GV 3 G' y' ((outs ++ (pull n l).2.2).map eF) ∧ ∀ b o k c o' k' c', x' = .gs b o k c → y' ≠ .gs b o' k' c'
theorem pull_all {n : Int} {l : List Fr} (h : ∀ f ∈ l, n < f.seq) : pull n l = (n, l, []) := by
  have := pull_app n l [] h
  simpa [pull] using this
theorem DeleteF_ok (H : Hp) (a : D) (pre σ0 : List Hp) (l : List Fr) (x : D) (n : Int) (y : D) (outs : List Fr) (G : Gh) (hx : GV 3 G x (l.map eF)) (hll : l.length ≤ 1000) (hy : GV 3 G y (outs.map eF)) (hl : outs.length ≤ 1000) (hn : 0 ≤ n ∧ n ≤ 4398046511104)
    (hxy : ∀ b o k c o' k' c', x = .gs b o k c → y ≠ .gs b o' k' c') :
    CallT Try.prog f_slices_DeleteFunc_api_Frame_api_Frame [.d x, .func f_link_Receive_2 [(pre.length + 1, 2, 1), (pre.length + 1, 9, 1)]] (pre ++ Hrec H n a y :: σ0) G (Del H a pre σ0 l n outs) := by
  refine callT_of_W fol slices_DeleteFunc_api_Frame_api_Frame_cp ?_
  simp -dsimp (disch := first | omega | (simp only [go_sem]; omega)) only [go_sem, ↓reduceIte, Nat.reduceEqDiff, Nat.reduceAdd, Nat.reduceSub, Nat.reduceMul, Nat.reduceLeDiff, Nat.reduceLT, Nat.reduceBEq, reduceCtorEq, Int.reduceToNat, Int.reduceLT, Int.reduceLE, Int.reduceEq, Int.reduceNeg, Int.reduceAdd, Int.reduceSub]
  (repeat (first | with_reducible refine W.seq ?_ | with_reducible refine W.block ?_ | ((first | with_reducible refine W.reg ?_ | with_reducible refine W.skip ?_ | with_reducible refine W.exit ?_ | with_reducible refine W.ret ?_ | with_reducible refine W.ifc ?_); simp -dsimp (disch := first | omega | (simp only [go_sem]; omega)) only [go_sem, ↓reduceIte, Nat.reduceEqDiff, Nat.reduceAdd, Nat.reduceSub, Nat.reduceMul, Nat.reduceLeDiff, Nat.reduceLT, Nat.reduceBEq, reduceCtorEq, Int.reduceToNat, Int.reduceLT, Int.reduceLE, Int.reduceEq, Int.reduceNeg, Int.reduceAdd, Int.reduceSub])))
  apply wC_cap (IndexF_ok H a (HB [] :: pre) σ0 l x n y outs G hx (by omega) hy (by omega) (by omega))
  focus (simp -dsimp (disch := first | omega | (simp only [go_sem]; omega)) only [go_sem, ↓reduceIte, Nat.reduceEqDiff, Nat.reduceAdd, Nat.reduceSub, Nat.reduceMul, Nat.reduceLeDiff, Nat.reduceLT, Nat.reduceBEq, reduceCtorEq, Int.reduceToNat, Int.reduceLT, Int.reduceLE, Int.reduceEq, Int.reduceNeg, Int.reduceAdd, Int.reduceSub] <;> rfl)
  focus (simp -dsimp (disch := first | omega | (simp only [go_sem]; omega)) only [go_sem, ↓reduceIte, Nat.reduceEqDiff, Nat.reduceAdd, Nat.reduceSub, Nat.reduceMul, Nat.reduceLeDiff, Nat.reduceLT, Nat.reduceBEq, reduceCtorEq, Int.reduceToNat, Int.reduceLT, Int.reduceLE, Int.reduceEq, Int.reduceNeg, Int.reduceAdd, Int.reduceSub] <;> rfl)
  rintro r lv G1 (⟨rfl, rfl, rfl, hall⟩ | ⟨ks, f, rest, hlk, hks, rfl, hcase⟩)
  · refine ⟨HB [], pre ++ Hrec H n a y :: σ0, rfl, ?_⟩
    simp -dsimp (disch := first | omega | (simp only [go_sem]; omega)) only [go_sem, ↓reduceIte, Nat.reduceEqDiff, Nat.reduceAdd, Nat.reduceSub, Nat.reduceMul, Nat.reduceLeDiff, Nat.reduceLT, Nat.reduceBEq, reduceCtorEq, Int.reduceToNat, Int.reduceLT, Int.reduceLE, Int.reduceEq, Int.reduceNeg, Int.reduceAdd, Int.reduceSub]
    (repeat (first | with_reducible refine W.seq ?_ | with_reducible refine W.block ?_ | ((first | with_reducible refine W.reg ?_ | with_reducible refine W.skip ?_ | with_reducible refine W.exit ?_ | with_reducible refine W.ret ?_ | with_reducible refine W.ifc ?_); simp -dsimp (disch := first | omega | (simp only [go_sem]; omega)) only [go_sem, ↓reduceIte, Nat.reduceEqDiff, Nat.reduceAdd, Nat.reduceSub, Nat.reduceMul, Nat.reduceLeDiff, Nat.reduceLT, Nat.reduceBEq, reduceCtorEq, Int.reduceToNat, Int.reduceLT, Int.reduceLE, Int.reduceEq, Int.reduceNeg, Int.reduceAdd, Int.reduceSub])))
    have hd := pull_all hall
    exact Fin.eq rfl ⟨x, y, rfl, by rw [hd], by rw [hd]; exact hx, by rw [hd, List.append_nil]; exact hy, hxy⟩
  · have hne : l.map eF ≠ [] := by rw [hlk]; simp
    obtain ⟨b, cap, cs, rfl, hb, hrow⟩ := hx.inv hne
    rw [List.length_map] at hrow ⊢
    have hyb : ∀ o k c, y ≠ .gs b o k c := fun o k c => hxy b _ _ _ o k c rfl
    have hlen : l.length = ks.length + 1 + rest.length := by rw [hlk]; simp; omega
    have hdk := pull_app n ks (f :: rest) hks
    rw [← hlk] at hdk
    -- where the state stands when the loop begins
    obtain ⟨n1, y1, outs1, rfl, hn1, hy1, hb1, hyb1, ho1, hd1, hd2, hd3⟩ : ∃ n1 y1 outs1, lv = (HB [] :: pre) ++ Hrec H n1 a y1 :: σ0 ∧ (n ≤ n1 ∧ n1 ≤ n + 1) ∧ GV 3 G1 y1 (outs1.map eF) ∧ G1.c b = some cs ∧ (∀ o k c, y1 ≠ .gs b o k c) ∧ outs1.length ≤ outs.length + 1 ∧
        (pull n l).1 = (pull n1 rest).1 ∧ (pull n l).2.1 = ks ++ (pull n1 rest).2.1 ∧ outs ++ (pull n l).2.2 = outs1 ++ (pull n1 rest).2.2 := by
      rcases hcase with ⟨he, y', rfl, hy', hto⟩ | ⟨he, rfl, rfl⟩
      · refine ⟨n + 1, y', outs ++ [f], rfl, by omega, hy', hto.fr b _ hb hyb, hto.sep b _ hb hyb, by simp, ?_, ?_, ?_⟩
        · rw [hdk, pull, if_pos he]
        · rw [hdk, pull, if_pos he]
        · rw [hdk, pull, if_pos he]; simp
      · refine ⟨n, y, outs, rfl, by omega, hy, hb, hyb, by omega, ?_, ?_, ?_⟩
        · rw [hdk, pull, if_neg (by omega), if_pos he]
        · rw [hdk, pull, if_neg (by omega), if_pos he]
        · rw [hdk, pull, if_neg (by omega), if_pos he]
    refine ⟨HB [], pre ++ Hrec H n1 a y1 :: σ0, rfl, ?_⟩
    have hcap := hrow.fit
    have hdr : l.drop (ks.length + 1) = rest := by rw [hlk]; simp
    have htk : l.take ks.length = ks := by rw [hlk]; simp
    simp -dsimp (disch := first | omega | (simp only [go_sem]; omega)) only [go_sem, ↓reduceIte, Nat.reduceEqDiff, Nat.reduceAdd, Nat.reduceSub, Nat.reduceMul, Nat.reduceLeDiff, Nat.reduceLT, Nat.reduceBEq, reduceCtorEq, Int.reduceToNat, Int.reduceLT, Int.reduceLE, Int.reduceEq, Int.reduceNeg, Int.reduceAdd, Int.reduceSub]
    (repeat (first | with_reducible refine W.seq ?_ | with_reducible refine W.block ?_ | ((first | with_reducible refine W.reg ?_ | with_reducible refine W.skip ?_ | with_reducible refine W.exit ?_ | with_reducible refine W.ret ?_ | with_reducible refine W.ifc ?_); simp -dsimp (disch := first | omega | (simp only [go_sem]; omega)) only [go_sem, ↓reduceIte, Nat.reduceEqDiff, Nat.reduceAdd, Nat.reduceSub, Nat.reduceMul, Nat.reduceLeDiff, Nat.reduceLT, Nat.reduceBEq, reduceCtorEq, Int.reduceToNat, Int.reduceLT, Int.reduceLE, Int.reduceEq, Int.reduceNeg, Int.reduceAdd, Int.reduceSub])))
    refine W.loop (fun k st => ∃ (i j : Nat) (n' : Int) (y' : D) (outs' : List Fr) (G' : Gh) (es cs' : List D) (kept : List Fr) (b7 : Blk),
        (i = kept.length ∧ i < j ∧ j ≤ l.length) ∧ k = l.length - j ∧ (G'.c b = some cs' ∧ Row 3 l.length cap es cs' ∧ es.take i = kept.map eF ∧ es.drop j = (l.drop j).map eF) ∧
        (GV 3 G' y' (outs'.map eF) ∧ (∀ o k c, y' ≠ .gs b o k c) ∧ outs'.length ≤ outs.length + j ∧ n ≤ n' ∧ n' ≤ n + j) ∧
        ((pull n l).1 = (pull n' (l.drop j)).1 ∧ (pull n l).2.1 = kept ++ (pull n' (l.drop j)).2.1 ∧ outs ++ (pull n l).2.2 = outs' ++ (pull n' (l.drop j)).2.2) ∧
        st = (E [(0, .d (.gs b 0 l.length cap)), (1, .func f_link_Receive_2 [(pre.length + 1, 2, 1), (pre.length + 1, 9, 1)]), (5, .d (.int .i64 i)), (6, .d (.int .i64 j))], HB [(7, b7)], pre ++ Hrec H n' a y' :: σ0, G'))
      ⟨_, _, st_leB (by (simp -dsimp (disch := first | omega | (simp only [go_sem]; omega)) only [go_sem, ↓reduceIte, Nat.reduceEqDiff, Nat.reduceAdd, Nat.reduceSub, Nat.reduceMul, Nat.reduceLeDiff, Nat.reduceLT, Nat.reduceBEq, reduceCtorEq, Int.reduceToNat, Int.reduceLT, Int.reduceLE, Int.reduceEq, Int.reduceNeg, Int.reduceAdd, Int.reduceSub] <;> ((repeat' apply And.intro) <;> first | exact VLe.refl _ | (apply vle_int; omega) | (apply vle_int; simp; done) | exact VLe.own _ _ | exact VLe.nilown _ | exact VLe.norm _))) (HB_pad [] [7] rfl).symm, ks.length, ks.length + 1, n1, y1, outs1, G1, l.map eF, cs, ks, _, ⟨rfl, by omega, by omega⟩, rfl, ⟨hb1, hrow, by rw [← List.map_take, htk], by rw [← List.map_drop]⟩, ⟨hy1, hyb1, by omega, by omega, by omega⟩, by rw [hdr]; exact ⟨hd1, hd2, hd3⟩, rfl⟩ ?_
    rintro k st ⟨i, j, n', y', outs', G', es, cs', kept, b7, ⟨rfl, hij, hj⟩, rfl, ⟨hb', hr', htake, hdrop⟩, ⟨hy', hyb', ho', hn1', hn2'⟩, ⟨hp1, hp2, hp3⟩, rfl⟩
    have hel := hr'.len
    (repeat (first | with_reducible refine W.seq ?_ | with_reducible refine W.block ?_ | ((first | with_reducible refine W.reg ?_ | with_reducible refine W.skip ?_ | with_reducible refine W.exit ?_ | with_reducible refine W.ret ?_ | with_reducible refine W.ifc ?_); simp -dsimp (disch := first | omega | (simp only [go_sem]; omega)) only [go_sem, ↓reduceIte, Nat.reduceEqDiff, Nat.reduceAdd, Nat.reduceSub, Nat.reduceMul, Nat.reduceLeDiff, Nat.reduceLT, Nat.reduceBEq, reduceCtorEq, Int.reduceToNat, Int.reduceLT, Int.reduceLE, Int.reduceEq, Int.reduceNeg, Int.reduceAdd, Int.reduceSub])))
    refine wG_dec (fun h1 => ?_) (fun h1 => ?_)
    · have hj' : j < l.length := by omega
      have hdj : l.drop j = l[j] :: l.drop (j + 1) := List.drop_eq_getElem_cons hj'
      have hej : es[j]'(by omega) = eF l[j] := by
        have h2 : es.drop j = es[j]'(by omega) :: es.drop (j + 1) := List.drop_eq_getElem_cons (by omega)
        rw [h2, hdj, List.map_cons] at hdrop
        exact (List.cons.inj hdrop).1
      have hdrop' : es.drop (j + 1) = (l.drop (j + 1)).map eF := by
        have h2 : es.drop j = es[j]'(by omega) :: es.drop (j + 1) := List.drop_eq_getElem_cons (by omega)
        rw [h2, hdj, List.map_cons] at hdrop
        exact (List.cons.inj hdrop).2
      have hidj : vCells true 3 (G'.c b) (j * 3) = some (.d (eF l[j])) := by
        rw [hb', hr'.idx (by omega), hej]; simp [eF, D.cells]
      (repeat (first | with_reducible refine W.seq ?_ | with_reducible refine W.block ?_ | ((first | with_reducible refine W.reg ?_ | with_reducible refine W.skip ?_ | with_reducible refine W.exit ?_ | with_reducible refine W.ret ?_ | with_reducible refine W.ifc ?_); simp -dsimp (disch := first | omega | (simp only [go_sem]; omega)) only [go_sem, ↓reduceIte, Nat.reduceEqDiff, Nat.reduceAdd, Nat.reduceSub, Nat.reduceMul, Nat.reduceLeDiff, Nat.reduceLT, Nat.reduceBEq, reduceCtorEq, Int.reduceToNat, Int.reduceLT, Int.reduceLE, Int.reduceEq, Int.reduceNeg, Int.reduceAdd, Int.reduceSub, hidj, Int.toNat_natCast])))
      apply wC_cap (Rec2_ok H a (HB [(7, _)] :: pre) σ0 l[j] n' y' outs' G' hy' (by omega) (by omega))
      focus (simp -dsimp (disch := first | omega | (simp only [go_sem]; omega)) only [go_sem, ↓reduceIte, Nat.reduceEqDiff, Nat.reduceAdd, Nat.reduceSub, Nat.reduceMul, Nat.reduceLeDiff, Nat.reduceLT, Nat.reduceBEq, reduceCtorEq, Int.reduceToNat, Int.reduceLT, Int.reduceLE, Int.reduceEq, Int.reduceNeg, Int.reduceAdd, Int.reduceSub] <;> rfl)
      focus (simp -dsimp (disch := first | omega | (simp only [go_sem]; omega)) only [go_sem, ↓reduceIte, Nat.reduceEqDiff, Nat.reduceAdd, Nat.reduceSub, Nat.reduceMul, Nat.reduceLeDiff, Nat.reduceLT, Nat.reduceBEq, reduceCtorEq, Int.reduceToNat, Int.reduceLT, Int.reduceLE, Int.reduceEq, Int.reduceNeg, Int.reduceAdd, Int.reduceSub] <;> rfl)
      rintro r lv G2 (⟨he, rfl, y2, rfl, hy2, hto⟩ | ⟨he, rfl, rfl, rfl⟩)
      · refine ⟨HB [(7, _)], pre ++ Hrec H (n' + 1) a y2 :: σ0, rfl, ?_⟩
        have hpl : pull n' (l.drop j) = ((pull (n' + 1) (l.drop (j + 1))).1, (pull (n' + 1) (l.drop (j + 1))).2.1, l[j] :: (pull (n' + 1) (l.drop (j + 1))).2.2) := by rw [hdj, pull, if_pos he]
        rw [hpl] at hp1 hp2 hp3
        simp -dsimp (disch := first | omega | (simp only [go_sem]; omega)) only [go_sem, ↓reduceIte, Nat.reduceEqDiff, Nat.reduceAdd, Nat.reduceSub, Nat.reduceMul, Nat.reduceLeDiff, Nat.reduceLT, Nat.reduceBEq, reduceCtorEq, Int.reduceToNat, Int.reduceLT, Int.reduceLE, Int.reduceEq, Int.reduceNeg, Int.reduceAdd, Int.reduceSub]
        (repeat (first | with_reducible refine W.seq ?_ | with_reducible refine W.block ?_ | ((first | with_reducible refine W.reg ?_ | with_reducible refine W.skip ?_ | with_reducible refine W.exit ?_ | with_reducible refine W.ret ?_ | with_reducible refine W.ifc ?_); simp -dsimp (disch := first | omega | (simp only [go_sem]; omega)) only [go_sem, ↓reduceIte, Nat.reduceEqDiff, Nat.reduceAdd, Nat.reduceSub, Nat.reduceMul, Nat.reduceLeDiff, Nat.reduceLT, Nat.reduceBEq, reduceCtorEq, Int.reduceToNat, Int.reduceLT, Int.reduceLE, Int.reduceEq, Int.reduceNeg, Int.reduceAdd, Int.reduceSub])))
        refine ⟨_, _, ?_, st_leB (by (simp -dsimp (disch := first | omega | (simp only [go_sem]; omega)) only [go_sem, ↓reduceIte, Nat.reduceEqDiff, Nat.reduceAdd, Nat.reduceSub, Nat.reduceMul, Nat.reduceLeDiff, Nat.reduceLT, Nat.reduceBEq, reduceCtorEq, Int.reduceToNat, Int.reduceLT, Int.reduceLE, Int.reduceEq, Int.reduceNeg, Int.reduceAdd, Int.reduceSub] <;> ((repeat' apply And.intro) <;> first | exact VLe.refl _ | (apply vle_int; omega) | (apply vle_int; simp; done) | exact VLe.own _ _ | exact VLe.nilown _ | exact VLe.norm _))) rfl, kept.length, j + 1, n' + 1, y2, outs' ++ [l[j]], G2, es, cs', kept, _, ⟨rfl, by omega, by omega⟩, rfl, ⟨hto.fr b _ hb' hyb', hr', htake, hdrop'⟩, ⟨hy2, hto.sep b _ hb' hyb', by simp; omega, by omega, by omega⟩, ⟨hp1, hp2, by rw [hp3]; simp⟩, rfl⟩
        omega
      · refine ⟨HB [(7, _)], pre ++ Hrec H n' a y' :: σ0, rfl, ?_⟩
        simp -dsimp (disch := first | omega | (simp only [go_sem]; omega)) only [go_sem, ↓reduceIte, Nat.reduceEqDiff, Nat.reduceAdd, Nat.reduceSub, Nat.reduceMul, Nat.reduceLeDiff, Nat.reduceLT, Nat.reduceBEq, reduceCtorEq, Int.reduceToNat, Int.reduceLT, Int.reduceLE, Int.reduceEq, Int.reduceNeg, Int.reduceAdd, Int.reduceSub]
        (repeat (first | with_reducible refine W.seq ?_ | with_reducible refine W.block ?_ | ((first | with_reducible refine W.reg ?_ | with_reducible refine W.skip ?_ | with_reducible refine W.exit ?_ | with_reducible refine W.ret ?_ | with_reducible refine W.ifc ?_); simp -dsimp (disch := first | omega | (simp only [go_sem]; omega)) only [go_sem, ↓reduceIte, Nat.reduceEqDiff, Nat.reduceAdd, Nat.reduceSub, Nat.reduceMul, Nat.reduceLeDiff, Nat.reduceLT, Nat.reduceBEq, reduceCtorEq, Int.reduceToNat, Int.reduceLT, Int.reduceLE, Int.reduceEq, Int.reduceNeg, Int.reduceAdd, Int.reduceSub])))
        refine wG_dec (fun h2 => ?_) (fun h2 => ?_)
        · have hpl : pull n' (l.drop j) = ((pull n' (l.drop (j + 1))).1, l[j] :: (pull n' (l.drop (j + 1))).2.1, (pull n' (l.drop (j + 1))).2.2) := by rw [hdj, pull, if_neg he, if_neg h2]
          rw [hpl] at hp1 hp2 hp3
          have hfit := hr'.fits (i := kept.length) (by omega)
          (repeat (first | with_reducible refine W.seq ?_ | with_reducible refine W.block ?_ | ((first | with_reducible refine W.reg ?_ | with_reducible refine W.skip ?_ | with_reducible refine W.exit ?_ | with_reducible refine W.ret ?_ | with_reducible refine W.ifc ?_); simp -dsimp (disch := first | omega | (simp only [go_sem]; omega)) only [go_sem, ↓reduceIte, Nat.reduceEqDiff, Nat.reduceAdd, Nat.reduceSub, Nat.reduceMul, Nat.reduceLeDiff, Nat.reduceLT, Nat.reduceBEq, reduceCtorEq, Int.reduceToNat, Int.reduceLT, Int.reduceLE, Int.reduceEq, Int.reduceNeg, Int.reduceAdd, Int.reduceSub, hb', Int.toNat_natCast])))
          refine wP_mk hfit ?_
          simp -dsimp (disch := first | omega | (simp only [go_sem]; omega)) only [go_sem, ↓reduceIte, Nat.reduceEqDiff, Nat.reduceAdd, Nat.reduceSub, Nat.reduceMul, Nat.reduceLeDiff, Nat.reduceLT, Nat.reduceBEq, reduceCtorEq, Int.reduceToNat, Int.reduceLT, Int.reduceLE, Int.reduceEq, Int.reduceNeg, Int.reduceAdd, Int.reduceSub]
          (repeat (first | with_reducible refine W.seq ?_ | with_reducible refine W.block ?_ | ((first | with_reducible refine W.reg ?_ | with_reducible refine W.skip ?_ | with_reducible refine W.exit ?_ | with_reducible refine W.ret ?_ | with_reducible refine W.ifc ?_); simp -dsimp (disch := first | omega | (simp only [go_sem]; omega)) only [go_sem, ↓reduceIte, Nat.reduceEqDiff, Nat.reduceAdd, Nat.reduceSub, Nat.reduceMul, Nat.reduceLeDiff, Nat.reduceLT, Nat.reduceBEq, reduceCtorEq, Int.reduceToNat, Int.reduceLT, Int.reduceLE, Int.reduceEq, Int.reduceNeg, Int.reduceAdd, Int.reduceSub])))
          have hs3 : sizeOk 3 (eF l[j]) = true := rfl
          have hset := hr'.set (i := kept.length) (by omega) hs3
          have hti : (es.set kept.length (eF l[j])).take (kept.length + 1) = (kept ++ [l[j]]).map eF := by
            rw [List.take_set, List.take_succ_eq_append_getElem (by omega), htake, List.set_append_right _ _ (by simp)]
            simp
          have hdi : (es.set kept.length (eF l[j])).drop (j + 1) = (l.drop (j + 1)).map eF := by
            rw [List.drop_set_of_lt (by omega)]; exact hdrop'
          refine ⟨_, _, ?_, st_leB (by (simp -dsimp (disch := first | omega | (simp only [go_sem]; omega)) only [go_sem, ↓reduceIte, Nat.reduceEqDiff, Nat.reduceAdd, Nat.reduceSub, Nat.reduceMul, Nat.reduceLeDiff, Nat.reduceLT, Nat.reduceBEq, reduceCtorEq, Int.reduceToNat, Int.reduceLT, Int.reduceLE, Int.reduceEq, Int.reduceNeg, Int.reduceAdd, Int.reduceSub] <;> ((repeat' apply And.intro) <;> first | exact VLe.refl _ | (apply vle_int; omega) | (apply vle_int; simp; done) | exact VLe.own _ _ | exact VLe.nilown _ | exact VLe.norm _))) rfl, kept.length + 1, j + 1, n', y', outs', G2.set b (some (over cs' (eF l[j]).cells (kept.length * 3))), _, _, kept ++ [l[j]], _, ⟨by simp, by omega, by omega⟩, rfl, ⟨gset_same _ _ _, hset, hti, hdi⟩, ⟨hy'.set hyb', hyb', by omega, by omega, by omega⟩, ⟨hp1, by rw [hp2]; simp, hp3⟩, rfl⟩
          omega
        · have h3 : l[j].seq < n' := by omega
          have hpl : pull n' (l.drop j) = pull n' (l.drop (j + 1)) := by rw [hdj, pull, if_neg he, if_pos h3]
          rw [hpl] at hp1 hp2 hp3
          (repeat (first | with_reducible refine W.seq ?_ | with_reducible refine W.block ?_ | ((first | with_reducible refine W.reg ?_ | with_reducible refine W.skip ?_ | with_reducible refine W.exit ?_ | with_reducible refine W.ret ?_ | with_reducible refine W.ifc ?_); simp -dsimp (disch := first | omega | (simp only [go_sem]; omega)) only [go_sem, ↓reduceIte, Nat.reduceEqDiff, Nat.reduceAdd, Nat.reduceSub, Nat.reduceMul, Nat.reduceLeDiff, Nat.reduceLT, Nat.reduceBEq, reduceCtorEq, Int.reduceToNat, Int.reduceLT, Int.reduceLE, Int.reduceEq, Int.reduceNeg, Int.reduceAdd, Int.reduceSub])))
          refine ⟨_, _, ?_, st_leB (by (simp -dsimp (disch := first | omega | (simp only [go_sem]; omega)) only [go_sem, ↓reduceIte, Nat.reduceEqDiff, Nat.reduceAdd, Nat.reduceSub, Nat.reduceMul, Nat.reduceLeDiff, Nat.reduceLT, Nat.reduceBEq, reduceCtorEq, Int.reduceToNat, Int.reduceLT, Int.reduceLE, Int.reduceEq, Int.reduceNeg, Int.reduceAdd, Int.reduceSub] <;> ((repeat' apply And.intro) <;> first | exact VLe.refl _ | (apply vle_int; omega) | (apply vle_int; simp; done) | exact VLe.own _ _ | exact VLe.nilown _ | exact VLe.norm _))) rfl, kept.length, j + 1, n', y', outs', G2, es, cs', kept, _, ⟨rfl, by omega, by omega⟩, rfl, ⟨hb', hr', htake, hdrop'⟩, ⟨hy', hyb', by omega, by omega, by omega⟩, ⟨hp1, hp2, hp3⟩, rfl⟩
          omega
    · obtain rfl : j = l.length := by omega
      rw [List.drop_length, pull] at hp1 hp2 hp3
      rw [List.append_nil] at hp2 hp3
      have e1 : (cap = kept.length) = False := by simp; omega
      (repeat (first | with_reducible refine W.seq ?_ | with_reducible refine W.block ?_ | ((first | with_reducible refine W.reg ?_ | with_reducible refine W.skip ?_ | with_reducible refine W.exit ?_ | with_reducible refine W.ret ?_ | with_reducible refine W.ifc ?_); simp -dsimp (disch := first | omega | (simp only [go_sem]; omega)) only [go_sem, ↓reduceIte, Nat.reduceEqDiff, Nat.reduceAdd, Nat.reduceSub, Nat.reduceMul, Nat.reduceLeDiff, Nat.reduceLT, Nat.reduceBEq, reduceCtorEq, Int.reduceToNat, Int.reduceLT, Int.reduceLE, Int.reduceEq, Int.reduceNeg, Int.reduceAdd, Int.reduceSub, e1, Int.toNat_natCast])))
      refine wGd_mk (gdD_clr hb' (by have := hr'.ncs; omega) (by omega)) ?_
      simp -dsimp (disch := first | omega | (simp only [go_sem]; omega)) only [go_sem, ↓reduceIte, Nat.reduceEqDiff, Nat.reduceAdd, Nat.reduceSub, Nat.reduceMul, Nat.reduceLeDiff, Nat.reduceLT, Nat.reduceBEq, reduceCtorEq, Int.reduceToNat, Int.reduceLT, Int.reduceLE, Int.reduceEq, Int.reduceNeg, Int.reduceAdd, Int.reduceSub]
      (repeat (first | with_reducible refine W.seq ?_ | with_reducible refine W.block ?_ | ((first | with_reducible refine W.reg ?_ | with_reducible refine W.skip ?_ | with_reducible refine W.exit ?_ | with_reducible refine W.ret ?_ | with_reducible refine W.ifc ?_); simp -dsimp (disch := first | omega | (simp only [go_sem]; omega)) only [go_sem, ↓reduceIte, Nat.reduceEqDiff, Nat.reduceAdd, Nat.reduceSub, Nat.reduceMul, Nat.reduceLeDiff, Nat.reduceLT, Nat.reduceBEq, reduceCtorEq, Int.reduceToNat, Int.reduceLT, Int.reduceLE, Int.reduceEq, Int.reduceNeg, Int.reduceAdd, Int.reduceSub, e1, Int.toNat_natCast, ite_self, Nat.sub_zero])))
      have hroom : kept.length * 3 + ((List.replicate (l.length - kept.length) [D.bool false, D.int IntKind.i64 0, D.str []]).flatten).length ≤ cs'.length := by
        rw [clr_len]; have := hr'.ncs; simp only [List.length_cons, List.length_nil]; omega
      have hrow2 := row_beyond (hr'.take (m := kept.length) (c := cap) (by omega) (by omega) (Nat.le_refl _)) (Nat.le_refl _) hroom
      rw [htake] at hrow2
      refine Fin.eq rfl ⟨_, y', rfl, by rw [hp1], ?_, ?_, ?_⟩
      · rw [hp2]
        exact GV.mk (gset_same _ _ _) hrow2
      · rw [hp3]
        exact hy'.set hyb'
      · intro b2 o k c o' k' c' e
        cases e
        exact hyb' _ _ _
end Go.Proofs.Ytedmmfbebecobaa
