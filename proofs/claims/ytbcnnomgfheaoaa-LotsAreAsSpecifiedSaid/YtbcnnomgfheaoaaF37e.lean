/-
 Layer 37 (chunk), continued: what a valid lot is, by the specification.
 Conditions: of each contract as it says.
-/
import Derived.Test.YtbcnnomgfheaoaaF37d
namespace Go.Proofs.Ytbcnnomgfheaoaa
open Go Go.E2 C37
set_option linter.unusedSimpArgs false
theorem power40_ok : CallP Try.prog f_quietusref37_power [.int .i64 40] (· = .d (.int .i64 1099511627776)) := power_ok 40 (by omega) (by omega)
open Classical in
theorem refValid_ok (l : Lt) (hl : smallL l) : CallP Try.prog f_quietusref37_Valid [eL l] (· = .d (.bool (decide (validL l)))) := by
 refine callP_of_W fol quietusref37_Valid_cp ?_
 have hl1 := hl.1
 have hl2 := hl.2.1
 have hfar : far = 1099511627776 := rfl
 simp -dsimp (disch := first | omega | (simp only [go_sem]; omega)) only [go_sem, seval, Nat.reduceEqDiff, Nat.reduceLeDiff]
 (repeat' (first | with_reducible refine W.seq ?_ | with_reducible refine W.block ?_ | ((first | with_reducible refine W.reg ?_ | with_reducible refine W.skip ?_ | with_reducible refine W.exit ?_ | with_reducible refine W.ret ?_ | with_reducible refine W.ifc ?_ | (apply wC_P (power40_ok); (focus (simp -dsimp (disch := first | omega | (simp only [go_sem]; omega)) only [go_sem, seval, Nat.reduceEqDiff, Nat.reduceLeDiff] <;> rfl)); rintro _ rfl) | (apply wC_P (chunks_ok l hl); (focus (simp -dsimp (disch := first | omega | (simp only [go_sem]; omega)) only [go_sem, seval, Nat.reduceEqDiff, Nat.reduceLeDiff] <;> rfl)); rintro _ rfl) | ((first | with_reducible refine wG_decE (fun _ hG => ?_) (fun _ hG => ?_) | with_reducible refine wG_decFE (fun _ hG => ?_) (fun _ hG => ?_)) <;> (try simp -dsimp only [hG, decide_true, decide_false, not_true_eq_false, not_false_eq_true]) <;> clear hG)) <;> (try simp -dsimp (disch := first | omega | (simp only [go_sem]; omega)) only [go_sem, seval, Nat.reduceEqDiff, Nat.reduceLeDiff])) | simp -dsimp (disch := first | omega | (simp only [go_sem]; omega)) only [go_sem, seval, Nat.reduceEqDiff, Nat.reduceLeDiff]))
 all_goals try (refine Fin.p rfl (bF fun h => ?_); have := h.1; omega)
 · rename_i hch
   exact Fin.p rfl (bF fun h => hch ⟨h.2.1, h.2.2.1⟩)
 · rename_i hch
   obtain ⟨hA, hU⟩ := Classical.byContradiction hch
   have hpw := pairA hA
   refine W.loop (fun m st => ∃ k b, k ≤ l.obs.length ∧ m = l.obs.length - k ∧ (∀ j, j < k → okO l j) ∧
    st = (E [(1, .ptr 0 1 1 0), (3, .d (.int .i64 1099511627776)), (5, .d (.int .i64 k))], HB [(1, ⟨1, some [.int .i64 l.next, .list (l.cks.map eC), .list (l.obs.map eB)]⟩), (6, b)], [], noGh))
    ⟨_, _, st_leB (by (simp -dsimp (disch := first | omega | (simp only [go_sem]; omega)) only [go_sem, seval, Nat.reduceEqDiff, Nat.reduceLeDiff] <;> ((repeat' apply And.intro) <;> first | exact VLe.refl _ | (apply vle_int; omega) | (apply vle_int; simp; done) | exact VLe.own _ _ | exact VLe.nilown _ | exact VLe.norm _))) (HB_pad [(1, _)] [6] rfl).symm, 0, _, by omega, rfl, fun _ h => by omega, rfl⟩ ?_
   rintro m st ⟨k, b, hk, rfl, hlo, rfl⟩
   (repeat (first | with_reducible refine W.seq ?_ | with_reducible refine W.block ?_ | ((first | with_reducible refine W.reg ?_ | with_reducible refine W.skip ?_ | with_reducible refine W.exit ?_ | with_reducible refine W.ret ?_ | with_reducible refine W.ifc ?_); simp -dsimp (disch := first | omega | (simp only [go_sem]; omega)) only [go_sem, seval, Nat.reduceEqDiff, Nat.reduceLeDiff])))
   refine wG_dec (fun h1 => ?_) (fun h1 => ?_)
   · have hk' : k < l.obs.length := by omega
     have hO := okO_get hk'
     have hch := hl.2.2 _ (List.getElem_mem hk')
     have e3 : ((k : Int) - 1).toNat = k - 1 := by omega
     have fail : ¬ okO l k → ¬ validL l := fun h v => h (v.2.2.2 k)
     (repeat' (first | with_reducible refine W.seq ?_ | with_reducible refine W.block ?_ | ((first | with_reducible refine W.reg ?_ | with_reducible refine W.skip ?_ | with_reducible refine W.exit ?_ | with_reducible refine W.ret ?_ | with_reducible refine W.ifc ?_ | ((first | with_reducible refine wG_decE (fun _ hG => ?_) (fun _ hG => ?_) | with_reducible refine wG_decFE (fun _ hG => ?_) (fun _ hG => ?_)) <;> (try simp -dsimp only [hG, decide_true, decide_false, not_true_eq_false, not_false_eq_true]) <;> clear hG)) <;> (try simp -dsimp (disch := first | omega | (simp only [go_sem]; omega)) only [go_sem, seval, Nat.reduceEqDiff, Nat.reduceLeDiff])) | simp -dsimp (disch := first | omega | (simp only [go_sem]; omega)) only [go_sem, seval, Nat.reduceEqDiff, Nat.reduceLeDiff]))
     all_goals try (exact Fin.p rfl (bF (fail fun h => by have := hO.1 h; omega)))
     all_goals try (refine Fin.p rfl (bF (fail fun h => ?_)); have h3 := (hO.1 h).2.2.1 (by omega); simp only [e3] at *; omega)
     all_goals
      have hid : 1 ≤ l.obs[k].id ∧ l.obs[k].id ≤ far ∧ (∀ h : 0 < k, l.obs[k - 1].id < l.obs[k].id) ∧ l.obs[k].cls.length ≤ 65536 := by
       refine ⟨by omega, by omega, fun h0 => ?_, by omega⟩
       clear fail hO hlo
       simp only [e3] at *; omega
      refine W.loop (fun m st => ∃ i n, i ≤ l.obs[k].chunks.length ∧ m = l.obs[k].chunks.length - i ∧ (∀ j (hj : j < l.obs[k].chunks.length), j < i → ∃ c ∈ l.cks, c.id = l.obs[k].chunks[j] ∧ c.cls = l.obs[k].cls) ∧ n = (textOf l.cks (l.obs[k].chunks.take i)).length ∧ n ≤ 65536 ∧
       st = (E [(1, .ptr 0 1 1 0), (3, .d (.int .i64 1099511627776)), (5, .d (.int .i64 k)), (6, .ptr 0 6 (b.g + 1) 0), (7, .d (.int .i64 (n : Nat))), (8, .d (.int .i64 i))],
        HB [(1, ⟨1, some [.int .i64 l.next, .list (l.cks.map eC), .list (l.obs.map eB)]⟩), (6, ⟨b.g + 1, some [.int .i64 l.obs[k].id, .str l.obs[k].cls, .list (l.obs[k].chunks.map eI)]⟩)], [], noGh))
       ⟨_, _, st_le (l' := [(1, _), (3, _), (5, _), (6, _), (7, .d (.int .i64 (0 : Nat))), (8, _)]) (by (simp -dsimp (disch := first | omega | (simp only [go_sem]; omega)) only [go_sem, seval, Nat.reduceEqDiff, Nat.reduceLeDiff] <;> ((repeat' apply And.intro) <;> first | exact VLe.refl _ | (apply vle_int; omega) | (apply vle_int; simp; done) | exact VLe.own _ _ | exact VLe.nilown _ | exact VLe.norm _))), 0, 0, by omega, rfl, fun _ _ h => by omega, rfl, by omega, rfl⟩ ?_
      rintro m st ⟨i, n, hi, rfl, hd, hn, hsz, rfl⟩
      (repeat (first | with_reducible refine W.seq ?_ | with_reducible refine W.block ?_ | ((first | with_reducible refine W.reg ?_ | with_reducible refine W.skip ?_ | with_reducible refine W.exit ?_ | with_reducible refine W.ret ?_ | with_reducible refine W.ifc ?_); simp -dsimp (disch := first | omega | (simp only [go_sem]; omega)) only [go_sem, seval, Nat.reduceEqDiff, Nat.reduceLeDiff])))
      refine wG_dec (fun h2 => ?_) (fun h2 => ?_)
      · have hi' : i < l.obs[k].chunks.length := by omega
        have hts := textOf_succ (cks := l.cks) hi'
        have hle := textOf_take_le l.cks l.obs[k].chunks (i + 1)
        (repeat (first | with_reducible refine W.seq ?_ | with_reducible refine W.block ?_ | ((first | with_reducible refine W.reg ?_ | with_reducible refine W.skip ?_ | with_reducible refine W.exit ?_ | with_reducible refine W.ret ?_ | with_reducible refine W.ifc ?_); simp -dsimp (disch := first | omega | (simp only [go_sem]; omega)) only [go_sem, seval, Nat.reduceEqDiff, Nat.reduceLeDiff])))
        apply wC_p (index_ok l l.obs[k].chunks[i] (by omega))
        focus (simp -dsimp (disch := first | omega | (simp only [go_sem]; omega)) only [go_sem, seval, Nat.reduceEqDiff, Nat.reduceLeDiff] <;> fail)
        focus (simp -dsimp (disch := first | omega | (simp only [go_sem]; omega)) only [go_sem, seval, Nat.reduceEqDiff, Nat.reduceLeDiff] <;> rfl)
        rintro _ rfl
        rcases fstI_cases l.cks (fun c => decide (c.id = l.obs[k].chunks[i])) with ⟨e, -, -, hn⟩ | ⟨c, hc, e, -, hf, hp⟩
        · rw [e]
          simp -dsimp (disch := first | omega | (simp only [go_sem]; omega)) only [go_sem, seval, Nat.reduceEqDiff, Nat.reduceLeDiff]
          (repeat (first | with_reducible refine W.seq ?_ | with_reducible refine W.block ?_ | ((first | with_reducible refine W.reg ?_ | with_reducible refine W.skip ?_ | with_reducible refine W.exit ?_ | with_reducible refine W.ret ?_ | with_reducible refine W.ifc ?_); simp -dsimp (disch := first | omega | (simp only [go_sem]; omega)) only [go_sem, seval, Nat.reduceEqDiff, Nat.reduceLeDiff])))
          refine Fin.p rfl (bF (fail fun h => ?_))
          obtain ⟨c, hc, h3, h4⟩ := (hO.1 h).2.2.2.2.1 _ (List.getElem_mem hi')
          have := hn c hc
          simp [h3] at this
        · rw [e]
          have hcid : l.cks[c].id = l.obs[k].chunks[i] := by simpa using hp
          have hby : bytesOf l.cks l.obs[k].chunks[i] = l.cks[c].bytes := by unfold bytesOf; rw [hf]; rfl
          rw [hby] at hts
          have htl := congrArg List.length hts
          rw [List.length_append] at htl
          have hcb : l.cks[c].bytes.length ≤ 4096 := ((okA_get hc).1 (hA c)).2.2.2.2.1
          simp -dsimp (disch := first | omega | (simp only [go_sem]; omega)) only [go_sem, seval, Nat.reduceEqDiff, Nat.reduceLeDiff]
          (repeat' (first | with_reducible refine W.seq ?_ | with_reducible refine W.block ?_ | ((first | with_reducible refine W.reg ?_ | with_reducible refine W.skip ?_ | with_reducible refine W.exit ?_ | with_reducible refine W.ret ?_ | with_reducible refine W.ifc ?_ | ((first | with_reducible refine wG_decE (fun _ hG => ?_) (fun _ hG => ?_) | with_reducible refine wG_decFE (fun _ hG => ?_) (fun _ hG => ?_)) <;> (try simp -dsimp only [hG, decide_true, decide_false, not_true_eq_false, not_false_eq_true]) <;> clear hG)) <;> (try simp -dsimp (disch := first | omega | (simp only [go_sem]; omega)) only [go_sem, seval, Nat.reduceEqDiff, Nat.reduceLeDiff])) | simp -dsimp (disch := first | omega | (simp only [go_sem]; omega)) only [go_sem, seval, Nat.reduceEqDiff, Nat.reduceLeDiff]))
          all_goals try (exfalso; omega)
          · refine Fin.p rfl (bF (fail fun h => ?_))
            obtain ⟨d, hd, h3, h4⟩ := (hO.1 h).2.2.2.2.1 _ (List.getElem_mem hi')
            have := pair_inj (f := Ck.id) hpw hd (List.getElem_mem hc) (by rw [h3, hcid])
            subst this
            contradiction
          · refine Fin.p rfl (bF (fail fun h => ?_))
            have := (hO.1 h).2.2.2.2.2
            omega
          · rename_i hcl hsz2
            refine ⟨_, _, ?_, st_le (by (simp -dsimp (disch := first | omega | (simp only [go_sem]; omega)) only [go_sem, seval, Nat.reduceEqDiff, Nat.reduceLeDiff] <;> ((repeat' apply And.intro) <;> first | exact VLe.refl _ | (apply vle_int; omega) | (apply vle_int; simp; done) | exact VLe.own _ _ | exact VLe.nilown _ | exact VLe.norm _))), i + 1, _, ?_, rfl, fun j hj hlt => ?_, rfl, by omega, rfl⟩
            · omega
            · omega
            · by_cases ej : j = i
              · subst ej; exact ⟨_, List.getElem_mem hc, hcid, by simpa using hcl⟩
              · exact hd j hj (by omega)
      · obtain rfl : i = l.obs[k].chunks.length := by omega
        rw [List.take_length] at hn
        rw [hn] at hsz
        (repeat (first | with_reducible refine W.seq ?_ | with_reducible refine W.block ?_ | ((first | with_reducible refine W.reg ?_ | with_reducible refine W.skip ?_ | with_reducible refine W.exit ?_ | with_reducible refine W.ret ?_ | with_reducible refine W.ifc ?_); simp -dsimp (disch := first | omega | (simp only [go_sem]; omega)) only [go_sem, seval, Nat.reduceEqDiff, Nat.reduceLeDiff])))
        refine ⟨_, _, ?_, st_leB (by (simp -dsimp (disch := first | omega | (simp only [go_sem]; omega)) only [go_sem, seval, Nat.reduceEqDiff, Nat.reduceLeDiff] <;> ((repeat' apply And.intro) <;> first | exact VLe.refl _ | (apply vle_int; omega) | (apply vle_int; simp; done) | exact VLe.own _ _ | exact VLe.nilown _ | exact VLe.norm _))) rfl, k + 1, _, ?_, rfl, fun j hlt => ?_, rfl⟩
        · omega
        · omega
        · by_cases e : j = k
          · subst e
            refine hO.2 ⟨hid.1, hid.2.1, hid.2.2.1, hid.2.2.2, fun a ha => ?_, hsz⟩
            obtain ⟨p, hp, rfl⟩ := List.getElem_of_mem ha
            exact hd p hp hp
          · exact hlo j (by omega)
   · obtain rfl : k = l.obs.length := by omega
     (repeat (first | with_reducible refine W.seq ?_ | with_reducible refine W.block ?_ | ((first | with_reducible refine W.reg ?_ | with_reducible refine W.skip ?_ | with_reducible refine W.exit ?_ | with_reducible refine W.ret ?_ | with_reducible refine W.ifc ?_); simp -dsimp (disch := first | omega | (simp only [go_sem]; omega)) only [go_sem, seval, Nat.reduceEqDiff, Nat.reduceLeDiff])))
     refine Fin.p rfl (bT ⟨by omega, hA, hU, fun k => ?_⟩)
     rcases Nat.lt_or_ge k l.obs.length with h | h
     · exact hlo k h
     · exact okO_out h
end Go.Proofs.Ytbcnnomgfheaoaa
