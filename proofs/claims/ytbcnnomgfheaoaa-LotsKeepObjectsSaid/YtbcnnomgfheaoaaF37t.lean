/-
 Layer 37 (chunk), continued: comparing lots.
 Conditions: of each contract as it says.
-/
import Derived.Test.YtbcnnomgfheaoaaF37s
namespace Go.Proofs.Ytbcnnomgfheaoaa
open Go Go.E2 C37
set_option linter.unusedSimpArgs false
set_option maxHeartbeats 2000000
theorem Same_ok (a b : Lt) (ha : a.cks.length ≤ 100000 ∧ a.obs.length ≤ 100000 ∧ ∀ o ∈ a.obs, o.chunks.length ≤ 100000) (hb : b.cks.length ≤ 100000 ∧ b.obs.length ≤ 100000 ∧ ∀ o ∈ b.obs, o.chunks.length ≤ 100000) :
 CallP Try.prog f_quietusref37_Same [eL a, eL b] (· = .d (.bool (decide (a = b)))) := by
 refine callP_of_W fol quietusref37_Same_cp ?_
 obtain ⟨ha1, ha2, ha3⟩ := ha
 obtain ⟨hb1, hb2, hb3⟩ := hb
 simp -dsimp (disch := first | omega | (simp only [go_sem]; omega)) only [go_sem, seval, Nat.reduceEqDiff, Nat.reduceLeDiff]
 (repeat' (first | with_reducible refine W.seq ?_ | with_reducible refine W.block ?_ | ((first | with_reducible refine W.reg ?_ | with_reducible refine W.skip ?_ | with_reducible refine W.exit ?_ | with_reducible refine W.ret ?_ | with_reducible refine W.ifc ?_ | ((first | with_reducible refine wG_decE (fun _ hG => ?_) (fun _ hG => ?_) | with_reducible refine wG_decFE (fun _ hG => ?_) (fun _ hG => ?_)) <;> (try simp -dsimp only [hG, decide_true, decide_false, not_true_eq_false, not_false_eq_true]) <;> clear hG)) <;> (try simp -dsimp (disch := first | omega | (simp only [go_sem]; omega)) only [go_sem, seval, Nat.reduceEqDiff, Nat.reduceLeDiff])) | simp -dsimp (disch := first | omega | (simp only [go_sem]; omega)) only [go_sem, seval, Nat.reduceEqDiff, Nat.reduceLeDiff]))
 all_goals try (refine Fin.p rfl (bF fun e => ?_); subst e; simp at *; done)
 have hnx : a.next = b.next := by omega
 have hl1 : a.cks.length = b.cks.length := by omega
 have hl2 : a.obs.length = b.obs.length := by omega
 refine W.loop (fun n st => ∃ k, k ≤ a.cks.length ∧ n = a.cks.length - k ∧ (∀ j (h1 : j < a.cks.length) (h2 : j < b.cks.length), j < k → a.cks[j] = b.cks[j]) ∧
  st = (E [(2, .ptr 0 2 1 0), (3, .ptr 0 3 1 0), (5, .d (.int .i64 k))], HB [(2, ⟨1, some [.int .i64 a.next, .list (a.cks.map eC), .list (a.obs.map eB)]⟩), (3, ⟨1, some [.int .i64 b.next, .list (b.cks.map eC), .list (b.obs.map eB)]⟩)], [], noGh))
  ⟨_, _, st_le (by (simp -dsimp (disch := first | omega | (simp only [go_sem]; omega)) only [go_sem, seval, Nat.reduceEqDiff, Nat.reduceLeDiff] <;> ((repeat' apply And.intro) <;> first | exact VLe.refl _ | (apply vle_int; omega) | (apply vle_int; simp; done) | exact VLe.own _ _ | exact VLe.nilown _ | exact VLe.norm _))), 0, by omega, rfl, fun _ _ _ h => by omega, rfl⟩ ?_
 rintro n st ⟨k, hk, rfl, hlo, rfl⟩
 (repeat (first | with_reducible refine W.seq ?_ | with_reducible refine W.block ?_ | ((first | with_reducible refine W.reg ?_ | with_reducible refine W.skip ?_ | with_reducible refine W.exit ?_ | with_reducible refine W.ret ?_ | with_reducible refine W.ifc ?_); simp -dsimp (disch := first | omega | (simp only [go_sem]; omega)) only [go_sem, seval, Nat.reduceEqDiff, Nat.reduceLeDiff])))
 refine wG_dec (fun h1 => ?_) (fun h1 => ?_)
 · have hk' : k < a.cks.length := by omega
   have hk2 : k < b.cks.length := by omega
   (repeat' (first | with_reducible refine W.seq ?_ | with_reducible refine W.block ?_ | ((first | with_reducible refine W.reg ?_ | with_reducible refine W.skip ?_ | with_reducible refine W.exit ?_ | with_reducible refine W.ret ?_ | with_reducible refine W.ifc ?_ | ((first | with_reducible refine wG_decE (fun _ hG => ?_) (fun _ hG => ?_) | with_reducible refine wG_decFE (fun _ hG => ?_) (fun _ hG => ?_)) <;> (try simp -dsimp only [hG, decide_true, decide_false, not_true_eq_false, not_false_eq_true]) <;> clear hG)) <;> (try simp -dsimp (disch := first | omega | (simp only [go_sem]; omega)) only [go_sem, seval, Nat.reduceEqDiff, Nat.reduceLeDiff])) | simp -dsimp (disch := first | omega | (simp only [go_sem]; omega)) only [go_sem, seval, Nat.reduceEqDiff, Nat.reduceLeDiff]))
   · refine Fin.p rfl (bF fun e => ?_)
     subst e
     simp at *
   · have he : a.cks[k] = b.cks[k] := by
      rcases hx : a.cks[k] with ⟨x1, x2, x3, x4⟩
      rcases hy : b.cks[k] with ⟨y1, y2, y3, y4⟩
      simp_all
     refine ⟨_, _, ?_, st_le (by (simp -dsimp (disch := first | omega | (simp only [go_sem]; omega)) only [go_sem, seval, Nat.reduceEqDiff, Nat.reduceLeDiff] <;> ((repeat' apply And.intro) <;> first | exact VLe.refl _ | (apply vle_int; omega) | (apply vle_int; simp; done) | exact VLe.own _ _ | exact VLe.nilown _ | exact VLe.norm _))), k + 1, ?_, rfl, fun j hj hj2 hlt => ?_, rfl⟩
     · omega
     · omega
     · by_cases e : j = k
       · subst e; exact he
       · exact hlo j hj hj2 (by omega)
 · obtain rfl : k = a.cks.length := by omega
   have hc : a.cks = b.cks := list_ext_up hl1 fun j h1 h2 => hlo j h1 h2 h1
   (repeat (first | with_reducible refine W.seq ?_ | with_reducible refine W.block ?_ | ((first | with_reducible refine W.reg ?_ | with_reducible refine W.skip ?_ | with_reducible refine W.exit ?_ | with_reducible refine W.ret ?_ | with_reducible refine W.ifc ?_); simp -dsimp (disch := first | omega | (simp only [go_sem]; omega)) only [go_sem, seval, Nat.reduceEqDiff, Nat.reduceLeDiff])))
   refine W.loop (fun n st => ∃ k, k ≤ a.obs.length ∧ n = a.obs.length - k ∧ (∀ j (h1 : j < a.obs.length) (h2 : j < b.obs.length), j < k → a.obs[j] = b.obs[j]) ∧
    st = (E [(2, .ptr 0 2 1 0), (3, .ptr 0 3 1 0), (6, .d (.int .i64 k))], HB [(2, ⟨1, some [.int .i64 a.next, .list (a.cks.map eC), .list (a.obs.map eB)]⟩), (3, ⟨1, some [.int .i64 b.next, .list (b.cks.map eC), .list (b.obs.map eB)]⟩)], [], noGh))
    ⟨_, _, st_le (by (simp -dsimp (disch := first | omega | (simp only [go_sem]; omega)) only [go_sem, seval, Nat.reduceEqDiff, Nat.reduceLeDiff] <;> ((repeat' apply And.intro) <;> first | exact VLe.refl _ | (apply vle_int; omega) | (apply vle_int; simp; done) | exact VLe.own _ _ | exact VLe.nilown _ | exact VLe.norm _))), 0, by omega, rfl, fun _ _ _ h => by omega, rfl⟩ ?_
   rintro n st ⟨k, hk, rfl, hlo2, rfl⟩
   (repeat (first | with_reducible refine W.seq ?_ | with_reducible refine W.block ?_ | ((first | with_reducible refine W.reg ?_ | with_reducible refine W.skip ?_ | with_reducible refine W.exit ?_ | with_reducible refine W.ret ?_ | with_reducible refine W.ifc ?_); simp -dsimp (disch := first | omega | (simp only [go_sem]; omega)) only [go_sem, seval, Nat.reduceEqDiff, Nat.reduceLeDiff])))
   refine wG_dec (fun h3 => ?_) (fun h3 => ?_)
   · have hk' : k < a.obs.length := by omega
     have hk2 : k < b.obs.length := by omega
     (repeat' (first | with_reducible refine W.seq ?_ | with_reducible refine W.block ?_ | ((first | with_reducible refine W.reg ?_ | with_reducible refine W.skip ?_ | with_reducible refine W.exit ?_ | with_reducible refine W.ret ?_ | with_reducible refine W.ifc ?_ | (apply wC_P (SameList_ok a.obs[k].chunks b.obs[k].chunks (ha3 _ (List.getElem_mem hk')) (hb3 _ (List.getElem_mem hk2))); (focus (simp -dsimp (disch := first | omega | (simp only [go_sem]; omega)) only [go_sem, seval, Nat.reduceEqDiff, Nat.reduceLeDiff] <;> rfl)); rintro _ rfl) | ((first | with_reducible refine wG_decE (fun _ hG => ?_) (fun _ hG => ?_) | with_reducible refine wG_decFE (fun _ hG => ?_) (fun _ hG => ?_)) <;> (try simp -dsimp only [hG, decide_true, decide_false, not_true_eq_false, not_false_eq_true]) <;> clear hG)) <;> (try simp -dsimp (disch := first | omega | (simp only [go_sem]; omega)) only [go_sem, seval, Nat.reduceEqDiff, Nat.reduceLeDiff])) | simp -dsimp (disch := first | omega | (simp only [go_sem]; omega)) only [go_sem, seval, Nat.reduceEqDiff, Nat.reduceLeDiff]))
     all_goals first
      | (refine Fin.p rfl (bF fun e => ?_)
         subst e
         simp at *
         done)
      | (have he : a.obs[k] = b.obs[k] := by
          rcases hx : a.obs[k] with ⟨x1, x2, x3⟩
          rcases hy : b.obs[k] with ⟨y1, y2, y3⟩
          simp_all
         refine ⟨_, _, ?_, st_le (by (simp -dsimp (disch := first | omega | (simp only [go_sem]; omega)) only [go_sem, seval, Nat.reduceEqDiff, Nat.reduceLeDiff] <;> ((repeat' apply And.intro) <;> first | exact VLe.refl _ | (apply vle_int; omega) | (apply vle_int; simp; done) | exact VLe.own _ _ | exact VLe.nilown _ | exact VLe.norm _))), k + 1, ?_, rfl, fun j hj hj2 hlt => ?_, rfl⟩
         · omega
         · omega
         · by_cases e : j = k
           · subst e; exact he
           · exact hlo2 j hj hj2 (by omega))
   · obtain rfl : k = a.obs.length := by omega
     have ho : a.obs = b.obs := list_ext_up hl2 fun j h1 h2 => hlo2 j h1 h2 h1
     (repeat (first | with_reducible refine W.seq ?_ | with_reducible refine W.block ?_ | ((first | with_reducible refine W.reg ?_ | with_reducible refine W.skip ?_ | with_reducible refine W.exit ?_ | with_reducible refine W.ret ?_ | with_reducible refine W.ifc ?_); simp -dsimp (disch := first | omega | (simp only [go_sem]; omega)) only [go_sem, seval, Nat.reduceEqDiff, Nat.reduceLeDiff])))
     refine Fin.p rfl (bT ?_)
     cases a; cases b
     simp_all
theorem same_ok (a : Lt) (ha : a.cks.length ≤ 100000 ∧ a.obs.length ≤ 100000 ∧ ∀ o ∈ a.obs, o.chunks.length ≤ 100000) : CallP Try.prog f_quietusref37_Same [eL a, eL a] (· = .d (.bool true)) := by
 have h := Same_ok a a ha ha
 rw [decide_eq_true rfl] at h
 exact h
theorem sameI_ok (a : List Int) (ha : a.length ≤ 100000) : CallP Try.prog f_quietusref37_SameList [.list (a.map eI), .list (a.map eI)] (· = .d (.bool true)) := by
 have h := SameList_ok a a ha ha
 rw [decide_eq_true rfl] at h
 exact h
end Go.Proofs.Ytbcnnomgfheaoaa
