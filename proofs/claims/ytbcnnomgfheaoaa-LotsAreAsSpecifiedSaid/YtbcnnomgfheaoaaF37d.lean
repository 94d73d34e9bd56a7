/-
 Layer 37 (chunk), continued: what a valid lot is, by the specification.
 Conditions: of each contract as it says.
-/
import Derived.Test.YtbcnnomgfheaoaaF37c
namespace Go.Proofs.Ytbcnnomgfheaoaa
open Go Go.E2 C37
set_option linter.unusedSimpArgs false
theorem uses_ok (l : Lt) (id : Int) (hl : smallL l) : CallP Try.prog f_quietusref37_uses [eL l, .int .i64 id] (· = .d (.int .i64 (usesOf l.obs id))) := by
 refine callP_of_W fol quietusref37_uses_cp ?_
 have hl2 := hl.2.1
 simp -dsimp (disch := first | omega | (simp only [go_sem]; omega)) only [go_sem, seval, Nat.reduceEqDiff, Nat.reduceLeDiff]
 (repeat (first | with_reducible refine W.seq ?_ | with_reducible refine W.block ?_ | ((first | with_reducible refine W.reg ?_ | with_reducible refine W.skip ?_ | with_reducible refine W.exit ?_ | with_reducible refine W.ret ?_ | with_reducible refine W.ifc ?_); simp -dsimp (disch := first | omega | (simp only [go_sem]; omega)) only [go_sem, seval, Nat.reduceEqDiff, Nat.reduceLeDiff])))
 refine W.loop (fun m st => ∃ k, k ≤ l.obs.length ∧ m = l.obs.length - k ∧
  st = (E [(1, .d (.int .i64 id)), (2, .ptr 0 2 1 0), (5, .d (.int .i64 (usesOf (l.obs.take k) id))), (6, .d (.int .i64 k))], HB [(2, ⟨1, some [.int .i64 l.next, .list (l.cks.map eC), .list (l.obs.map eB)]⟩)], [], noGh))
  ⟨_, _, st_le (by (simp -dsimp (disch := first | omega | (simp only [go_sem]; omega)) only [go_sem, seval, Nat.reduceEqDiff, Nat.reduceLeDiff, usesOf] <;> ((repeat' apply And.intro) <;> first | exact VLe.refl _ | (apply vle_int; omega) | (apply vle_int; simp; done) | exact VLe.own _ _ | exact VLe.nilown _ | exact VLe.norm _))), 0, by omega, rfl, rfl⟩ ?_
 rintro m st ⟨k, hk, rfl, rfl⟩
 (repeat (first | with_reducible refine W.seq ?_ | with_reducible refine W.block ?_ | ((first | with_reducible refine W.reg ?_ | with_reducible refine W.skip ?_ | with_reducible refine W.exit ?_ | with_reducible refine W.ret ?_ | with_reducible refine W.ifc ?_); simp -dsimp (disch := first | omega | (simp only [go_sem]; omega)) only [go_sem, seval, Nat.reduceEqDiff, Nat.reduceLeDiff])))
 refine wG_dec (fun h1 => ?_) (fun h1 => ?_)
 · have hk' : k < l.obs.length := by omega
   have hs := usesOf_succ hk' id
   have hc := hl.2.2 _ (List.getElem_mem hk')
   have hu := usesOf_le hl id k
   (repeat (first | with_reducible refine W.seq ?_ | with_reducible refine W.block ?_ | ((first | with_reducible refine W.reg ?_ | with_reducible refine W.skip ?_ | with_reducible refine W.exit ?_ | with_reducible refine W.ret ?_ | with_reducible refine W.ifc ?_); simp -dsimp (disch := first | omega | (simp only [go_sem]; omega)) only [go_sem, seval, Nat.reduceEqDiff, Nat.reduceLeDiff])))
   refine W.loop (fun m st => ∃ i n, i ≤ l.obs[k].chunks.length ∧ m = l.obs[k].chunks.length - i ∧ n = usesOf (l.obs.take k) id + (l.obs[k].chunks.take i).count id ∧
    st = (E [(1, .d (.int .i64 id)), (2, .ptr 0 2 1 0), (5, .d (.int .i64 (n : Nat))), (6, .d (.int .i64 k)), (7, .d (.int .i64 i))], HB [(2, ⟨1, some [.int .i64 l.next, .list (l.cks.map eC), .list (l.obs.map eB)]⟩)], [], noGh))
    ⟨_, _, st_le (by (simp -dsimp (disch := first | omega | (simp only [go_sem]; omega)) only [go_sem, seval, Nat.reduceEqDiff, Nat.reduceLeDiff] <;> ((repeat' apply And.intro) <;> first | exact VLe.refl _ | (apply vle_int; omega) | (apply vle_int; simp; done) | exact VLe.own _ _ | exact VLe.nilown _ | exact VLe.norm _))), 0, _, by omega, rfl, by rw [List.take_zero, List.count_nil, Nat.add_zero], rfl⟩ ?_
   rintro m st ⟨i, n, hi, rfl, hn, rfl⟩
   (repeat (first | with_reducible refine W.seq ?_ | with_reducible refine W.block ?_ | ((first | with_reducible refine W.reg ?_ | with_reducible refine W.skip ?_ | with_reducible refine W.exit ?_ | with_reducible refine W.ret ?_ | with_reducible refine W.ifc ?_); simp -dsimp (disch := first | omega | (simp only [go_sem]; omega)) only [go_sem, seval, Nat.reduceEqDiff, Nat.reduceLeDiff])))
   refine wG_dec (fun h2 => ?_) (fun h2 => ?_)
   · have hi' : i < l.obs[k].chunks.length := by omega
     have hcs := count_succ hi' id
     have hcl : (l.obs[k].chunks.take i).count id ≤ i := Nat.le_trans List.count_le_length (List.length_take_le _ _)
     (repeat' (first | with_reducible refine W.seq ?_ | with_reducible refine W.block ?_ | ((first | with_reducible refine W.reg ?_ | with_reducible refine W.skip ?_ | with_reducible refine W.exit ?_ | with_reducible refine W.ret ?_ | with_reducible refine W.ifc ?_ | ((first | with_reducible refine wG_decE (fun _ hG => ?_) (fun _ hG => ?_) | with_reducible refine wG_decFE (fun _ hG => ?_) (fun _ hG => ?_)) <;> (try simp -dsimp only [hG, decide_true, decide_false, not_true_eq_false, not_false_eq_true]) <;> clear hG)) <;> (try simp -dsimp (disch := first | omega | (simp only [go_sem]; omega)) only [go_sem, seval, Nat.reduceEqDiff, Nat.reduceLeDiff])) | simp -dsimp (disch := first | omega | (simp only [go_sem]; omega)) only [go_sem, seval, Nat.reduceEqDiff, Nat.reduceLeDiff]))
     · rename_i he
       rw [if_pos he] at hcs
       refine ⟨_, _, ?_, st_le (by (simp -dsimp (disch := first | omega | (simp only [go_sem]; omega)) only [go_sem, seval, Nat.reduceEqDiff, Nat.reduceLeDiff] <;> ((repeat' apply And.intro) <;> first | exact VLe.refl _ | (apply vle_int; omega) | (apply vle_int; simp; done) | exact VLe.own _ _ | exact VLe.nilown _ | exact VLe.norm _))), i + 1, n + 1, ?_, rfl, ?_, rfl⟩
       · omega
       · omega
       · omega
     · rename_i he
       rw [if_neg he] at hcs
       refine ⟨_, _, ?_, st_le (by (simp -dsimp (disch := first | omega | (simp only [go_sem]; omega)) only [go_sem, seval, Nat.reduceEqDiff, Nat.reduceLeDiff] <;> ((repeat' apply And.intro) <;> first | exact VLe.refl _ | (apply vle_int; omega) | (apply vle_int; simp; done) | exact VLe.own _ _ | exact VLe.nilown _ | exact VLe.norm _))), i + 1, n, ?_, rfl, ?_, rfl⟩
       · omega
       · omega
       · omega
   · obtain rfl : i = l.obs[k].chunks.length := by omega
     rw [List.take_length] at hn
     rw [← hs] at hn
     subst hn
     (repeat (first | with_reducible refine W.seq ?_ | with_reducible refine W.block ?_ | ((first | with_reducible refine W.reg ?_ | with_reducible refine W.skip ?_ | with_reducible refine W.exit ?_ | with_reducible refine W.ret ?_ | with_reducible refine W.ifc ?_); simp -dsimp (disch := first | omega | (simp only [go_sem]; omega)) only [go_sem, seval, Nat.reduceEqDiff, Nat.reduceLeDiff])))
     refine ⟨_, _, ?_, st_le (by (simp -dsimp (disch := first | omega | (simp only [go_sem]; omega)) only [go_sem, seval, Nat.reduceEqDiff, Nat.reduceLeDiff] <;> ((repeat' apply And.intro) <;> first | exact VLe.refl _ | (apply vle_int; omega) | (apply vle_int; simp; done) | exact VLe.own _ _ | exact VLe.nilown _ | exact VLe.norm _))), k + 1, by omega, rfl, rfl⟩
     omega
 · obtain rfl : k = l.obs.length := by omega
   (repeat (first | with_reducible refine W.seq ?_ | with_reducible refine W.block ?_ | ((first | with_reducible refine W.reg ?_ | with_reducible refine W.skip ?_ | with_reducible refine W.exit ?_ | with_reducible refine W.ret ?_ | with_reducible refine W.ifc ?_); simp -dsimp (disch := first | omega | (simp only [go_sem]; omega)) only [go_sem, seval, Nat.reduceEqDiff, Nat.reduceLeDiff])))
   exact Fin.p rfl (by rw [List.take_length])
open Classical in
theorem chunks_ok (l : Lt) (hl : smallL l) : CallP Try.prog f_quietusref37_chunks [eL l] (· = .d (.bool (decide ((∀ k, okA l k) ∧ ∀ k, okU l k)))) := by
 refine callP_of_W fol quietusref37_chunks_cp ?_
 have hl1 := hl.1
 simp -dsimp (disch := first | omega | (simp only [go_sem]; omega)) only [go_sem, seval, Nat.reduceEqDiff, Nat.reduceLeDiff]
 (repeat (first | with_reducible refine W.seq ?_ | with_reducible refine W.block ?_ | ((first | with_reducible refine W.reg ?_ | with_reducible refine W.skip ?_ | with_reducible refine W.exit ?_ | with_reducible refine W.ret ?_ | with_reducible refine W.ifc ?_); simp -dsimp (disch := first | omega | (simp only [go_sem]; omega)) only [go_sem, seval, Nat.reduceEqDiff, Nat.reduceLeDiff])))
 refine W.loop (fun m st => ∃ k b, k ≤ l.cks.length ∧ m = l.cks.length - k ∧ (∀ j, j < k → okA l j ∧ okU l j) ∧
  st = (E [(1, .ptr 0 1 1 0), (3, .d (.int .i64 k))], HB [(1, ⟨1, some [.int .i64 l.next, .list (l.cks.map eC), .list (l.obs.map eB)]⟩), (4, b)], [], noGh))
  ⟨_, _, st_leB (by (simp -dsimp (disch := first | omega | (simp only [go_sem]; omega)) only [go_sem, seval, Nat.reduceEqDiff, Nat.reduceLeDiff] <;> ((repeat' apply And.intro) <;> first | exact VLe.refl _ | (apply vle_int; omega) | (apply vle_int; simp; done) | exact VLe.own _ _ | exact VLe.nilown _ | exact VLe.norm _))) (HB_pad [(1, _)] [4] rfl).symm, 0, _, by omega, rfl, fun _ h => by omega, rfl⟩ ?_
 rintro m st ⟨k, b, hk, rfl, hlo, rfl⟩
 (repeat (first | with_reducible refine W.seq ?_ | with_reducible refine W.block ?_ | ((first | with_reducible refine W.reg ?_ | with_reducible refine W.skip ?_ | with_reducible refine W.exit ?_ | with_reducible refine W.ret ?_ | with_reducible refine W.ifc ?_); simp -dsimp (disch := first | omega | (simp only [go_sem]; omega)) only [go_sem, seval, Nat.reduceEqDiff, Nat.reduceLeDiff])))
 refine wG_dec (fun h1 => ?_) (fun h1 => ?_)
 · have hk' : k < l.cks.length := by omega
   have hA := okA_get hk'
   have hU := okU_get hk'
   have hu := usesOf_all hl l.cks[k].id
   have e3 : ((k : Int) - 1).toNat = k - 1 := by omega
   have fail : ¬ okA l k ∨ ¬ okU l k → ¬ ((∀ k, okA l k) ∧ ∀ k, okU l k) := fun h ⟨a, b⟩ => by rcases h with h | h <;> exact h (by first | exact a k | exact b k)
   by_cases hprev : ∃ _ : 0 < k, ¬ l.cks[k - 1].id < l.cks[k].id
   · obtain ⟨h0, hp⟩ := hprev
     (repeat' (first | with_reducible refine W.seq ?_ | with_reducible refine W.block ?_ | ((first | with_reducible refine W.reg ?_ | with_reducible refine W.skip ?_ | with_reducible refine W.exit ?_ | with_reducible refine W.ret ?_ | with_reducible refine W.ifc ?_ | ((first | with_reducible refine wG_decE (fun _ hG => ?_) (fun _ hG => ?_) | with_reducible refine wG_decFE (fun _ hG => ?_) (fun _ hG => ?_)) <;> (try simp -dsimp only [hG, decide_true, decide_false, not_true_eq_false, not_false_eq_true]) <;> clear hG)) <;> (try simp -dsimp (disch := first | omega | (simp only [go_sem]; omega)) only [go_sem, seval, Nat.reduceEqDiff, Nat.reduceLeDiff])) | simp -dsimp (disch := first | omega | (simp only [go_sem]; omega)) only [go_sem, seval, Nat.reduceEqDiff, Nat.reduceLeDiff]))
     all_goals first
      | (exact Fin.p rfl (bF (fail (.inl fun h => by have := hA.1 h; first | omega | (have := this.2.2.1 h0; omega)))))
      | (exfalso; omega)
      | (exfalso; rename_i hx; exact hx (by omega))
      | (exfalso; clear fail hA hU hlo; simp only [e3] at *; omega)
   · have hp : ∀ h : 0 < k, l.cks[k - 1].id < l.cks[k].id := fun h => Classical.byContradiction fun hn => hprev ⟨h, hn⟩
     have e4 : ∀ h0 : 0 < k, (l.cks[((k : Int) - 1).toNat]'(by omega)).id = l.cks[k - 1].id := fun _ => by simp only [e3]
     (repeat' (first | with_reducible refine W.seq ?_ | with_reducible refine W.block ?_ | ((first | with_reducible refine W.reg ?_ | with_reducible refine W.skip ?_ | with_reducible refine W.exit ?_ | with_reducible refine W.ret ?_ | with_reducible refine W.ifc ?_ | ((first | with_reducible refine wG_decE (fun _ hG => ?_) (fun _ hG => ?_) | with_reducible refine wG_decFE (fun _ hG => ?_) (fun _ hG => ?_)) <;> (try simp -dsimp only [hG, decide_true, decide_false, not_true_eq_false, not_false_eq_true]) <;> clear hG)) <;> (try simp -dsimp (disch := first | omega | (simp only [go_sem]; omega)) only [go_sem, seval, Nat.reduceEqDiff, Nat.reduceLeDiff])) | simp -dsimp (disch := first | omega | (simp only [go_sem]; omega)) only [go_sem, seval, Nat.reduceEqDiff, Nat.reduceLeDiff]))
     all_goals try (exact Fin.p rfl (bF (fail (.inl fun h => by have := hA.1 h; omega))))
     all_goals try (exfalso; have := hp (by omega); have := e4 (by omega); omega)
     all_goals
      refine W.loop (fun m st => ∃ i, i ≤ k ∧ m = k - i ∧ (∀ j (hj : j < k), j < i → ¬ (l.cks[j].cls = l.cks[k].cls ∧ l.cks[j].bytes = l.cks[k].bytes)) ∧
       st = (E [(1, .ptr 0 1 1 0), (3, .d (.int .i64 k)), (4, .ptr 0 4 (b.g + 1) 0), (5, .d (.int .i64 i))], HB [(1, ⟨1, some [.int .i64 l.next, .list (l.cks.map eC), .list (l.obs.map eB)]⟩), (4, ⟨b.g + 1, some [.int .i64 l.cks[k].id, .str l.cks[k].cls, .str l.cks[k].bytes, .int .i64 l.cks[k].uses]⟩)], [], noGh))
       ⟨_, _, st_le (by (simp -dsimp (disch := first | omega | (simp only [go_sem]; omega)) only [go_sem, seval, Nat.reduceEqDiff, Nat.reduceLeDiff] <;> ((repeat' apply And.intro) <;> first | exact VLe.refl _ | (apply vle_int; omega) | (apply vle_int; simp; done) | exact VLe.own _ _ | exact VLe.nilown _ | exact VLe.norm _))), 0, by omega, rfl, fun _ _ h => by omega, rfl⟩ ?_
      rintro m st ⟨i, hi, rfl, hd, rfl⟩
      (repeat (first | with_reducible refine W.seq ?_ | with_reducible refine W.block ?_ | ((first | with_reducible refine W.reg ?_ | with_reducible refine W.skip ?_ | with_reducible refine W.exit ?_ | with_reducible refine W.ret ?_ | with_reducible refine W.ifc ?_); simp -dsimp (disch := first | omega | (simp only [go_sem]; omega)) only [go_sem, seval, Nat.reduceEqDiff, Nat.reduceLeDiff])))
      refine wG_dec (fun h2 => ?_) (fun h2 => ?_)
      · have hi' : i < k := by omega
        have hi2 : i < l.cks.length := by omega
        (repeat' (first | with_reducible refine W.seq ?_ | with_reducible refine W.block ?_ | ((first | with_reducible refine W.reg ?_ | with_reducible refine W.skip ?_ | with_reducible refine W.exit ?_ | with_reducible refine W.ret ?_ | with_reducible refine W.ifc ?_ | ((first | with_reducible refine wG_decE (fun _ hG => ?_) (fun _ hG => ?_) | with_reducible refine wG_decFE (fun _ hG => ?_) (fun _ hG => ?_)) <;> (try simp -dsimp only [hG, decide_true, decide_false, not_true_eq_false, not_false_eq_true]) <;> clear hG)) <;> (try simp -dsimp (disch := first | omega | (simp only [go_sem]; omega)) only [go_sem, seval, Nat.reduceEqDiff, Nat.reduceLeDiff])) | simp -dsimp (disch := first | omega | (simp only [go_sem]; omega)) only [go_sem, seval, Nat.reduceEqDiff, Nat.reduceLeDiff]))
        · rename_i e1 e2
          exact Fin.p rfl (bF (fail (.inl fun h => (hA.1 h).2.2.2.2.2.2.1 i hi' ⟨e1, e2⟩)))
        all_goals
         refine ⟨_, _, ?_, st_le (by (simp -dsimp (disch := first | omega | (simp only [go_sem]; omega)) only [go_sem, seval, Nat.reduceEqDiff, Nat.reduceLeDiff] <;> ((repeat' apply And.intro) <;> first | exact VLe.refl _ | (apply vle_int; omega) | (apply vle_int; simp; done) | exact VLe.own _ _ | exact VLe.nilown _ | exact VLe.norm _))), i + 1, ?_, rfl, fun j hj hlt => ?_, rfl⟩
         · omega
         · omega
         · by_cases e : j = i
           · subst e; intro h; simp_all
           · exact hd j hj (by omega)
      · obtain rfl : i = k := by omega
        (repeat' (first | with_reducible refine W.seq ?_ | with_reducible refine W.block ?_ | ((first | with_reducible refine W.reg ?_ | with_reducible refine W.skip ?_ | with_reducible refine W.exit ?_ | with_reducible refine W.ret ?_ | with_reducible refine W.ifc ?_ | (apply wC_P (uses_ok l l.cks[i].id hl); (focus (simp -dsimp (disch := first | omega | (simp only [go_sem]; omega)) only [go_sem, seval, Nat.reduceEqDiff, Nat.reduceLeDiff] <;> rfl)); rintro _ rfl) | ((first | with_reducible refine wG_decE (fun _ hG => ?_) (fun _ hG => ?_) | with_reducible refine wG_decFE (fun _ hG => ?_) (fun _ hG => ?_)) <;> (try simp -dsimp only [hG, decide_true, decide_false, not_true_eq_false, not_false_eq_true]) <;> clear hG)) <;> (try simp -dsimp (disch := first | omega | (simp only [go_sem]; omega)) only [go_sem, seval, Nat.reduceEqDiff, Nat.reduceLeDiff])) | simp -dsimp (disch := first | omega | (simp only [go_sem]; omega)) only [go_sem, seval, Nat.reduceEqDiff, Nat.reduceLeDiff]))
        all_goals first
         | (exact Fin.p rfl (bF (fail (.inl fun h => by have := hA.1 h; omega))))
         | (exact Fin.p rfl (bF (fail (.inr fun h => by have := hU.1 h; omega))))
         | (refine ⟨_, _, ?_, st_leB (by (simp -dsimp (disch := first | omega | (simp only [go_sem]; omega)) only [go_sem, seval, Nat.reduceEqDiff, Nat.reduceLeDiff] <;> ((repeat' apply And.intro) <;> first | exact VLe.refl _ | (apply vle_int; omega) | (apply vle_int; simp; done) | exact VLe.own _ _ | exact VLe.nilown _ | exact VLe.norm _))) rfl, i + 1, _, ?_, rfl, fun j hlt => ?_, rfl⟩
            · omega
            · omega
            · by_cases e : j = i
              · subst e
                refine ⟨hA.2 ⟨by omega, by omega, hp, by omega, by omega, by omega, fun a ha => hd a ha ha, by omega⟩, hU.2 (by omega)⟩
              · exact hlo j (by omega))
 · obtain rfl : k = l.cks.length := by omega
   (repeat (first | with_reducible refine W.seq ?_ | with_reducible refine W.block ?_ | ((first | with_reducible refine W.reg ?_ | with_reducible refine W.skip ?_ | with_reducible refine W.exit ?_ | with_reducible refine W.ret ?_ | with_reducible refine W.ifc ?_); simp -dsimp (disch := first | omega | (simp only [go_sem]; omega)) only [go_sem, seval, Nat.reduceEqDiff, Nat.reduceLeDiff])))
   refine Fin.p rfl (bT ⟨fun k => ?_, fun k => ?_⟩)
   · rcases Nat.lt_or_ge k l.cks.length with h | h
     · exact (hlo k h).1
     · exact okA_out h
   · rcases Nat.lt_or_ge k l.cks.length with h | h
     · exact (hlo k h).2
     · exact okU_out h
end Go.Proofs.Ytbcnnomgfheaoaa
