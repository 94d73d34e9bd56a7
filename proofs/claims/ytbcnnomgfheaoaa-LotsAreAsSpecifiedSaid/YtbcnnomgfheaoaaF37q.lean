/-
 Layer 37 (chunk), continued: the specification's parts that change a lot.
 Conditions: of each contract as it says.
-/
import Derived.Test.YtbcnnomgfheaoaaF37p
namespace Go.Proofs.Ytbcnnomgfheaoaa
open Go Go.E2 C37
set_option linter.unusedSimpArgs false
set_option maxHeartbeats 2000000
def eCh (l : Lt) (gone : List Int) (e : Int) : D := .agg [.int .i64 l.next, .list (l.cks.map eC), .list (l.obs.map eB), .list (gone.map eI), .int .i64 e]
theorem filter_snoc (id : Int) {l : List Ob} {k : Nat} (hk : k < l.length) : (l.take (k + 1)).filter (fun o => decide (o.id ≠ id)) = if l[k].id ≠ id then (l.take k).filter (fun o => decide (o.id ≠ id)) ++ [l[k]] else (l.take k).filter (fun o => decide (o.id ≠ id)) := by
 rw [List.take_succ_eq_append_getElem hk, List.filter_append]
 by_cases h : l[k].id = id <;> simp [h]
theorem refWithout_ok (l : Lt) (id : Int) (hl : smallL l) : CallP Try.prog f_quietusref37_without [eL l, .int .i64 id] (· = .d (eCh (without l id).1 (without l id).2 0)) := by
 refine CallP.of_deep (callT_of_W fol quietusref37_without_cp ?_)
 have hl1 := hl.1
 have hl2 := hl.2.1
 obtain ⟨ob2, hob2⟩ : ∃ ob2, ob2 = l.obs.filter fun o => decide (o.id ≠ id) := ⟨_, rfl⟩
 have hw : without l id = (⟨l.next, keepC ob2 l.cks, ob2⟩, goneC ob2 l.cks) := by rw [hob2]; rfl
 rw [hw]
 simp -dsimp (disch := first | omega | (simp only [go_sem]; omega)) only [go_sem, seval, Nat.reduceEqDiff, Nat.reduceLeDiff]
 (repeat (first | with_reducible refine W.seq ?_ | with_reducible refine W.block ?_ | ((first | with_reducible refine W.reg ?_ | with_reducible refine W.skip ?_ | with_reducible refine W.exit ?_ | with_reducible refine W.ret ?_ | with_reducible refine W.ifc ?_); simp -dsimp (disch := first | omega | (simp only [go_sem]; omega)) only [go_sem, seval, Nat.reduceEqDiff, Nat.reduceLeDiff])))
 refine W.loop (fun m st => ∃ k G y, k ≤ l.obs.length ∧ m = l.obs.length - k ∧ GV 3 G y (((l.obs.take k).filter fun o => decide (o.id ≠ id)).map eB) ∧
  st = (E [(1, .d (.int .i64 id)), (2, .ptr 0 2 1 0), (4, .ptr 0 4 1 0), (5, .ptr 0 5 1 0), (6, .d (.int .i64 k))],
   HB [(2, ⟨1, some [.int .i64 l.next, .list (l.cks.map eC), .list (l.obs.map eB)]⟩), (4, ⟨1, some [.int .i64 0, .nilS, .nilS, .nilS, .int .i64 0]⟩), (5, ⟨1, some [.int .i64 l.next, .nilS, y]⟩)], [], G))
  ⟨_, _, st_le (l' := [(1, .d (.int .i64 id)), (2, .ptr 0 2 1 0), (4, .ptr 0 4 1 0), (5, .ptr 0 5 1 0), (6, .d (.int .i64 (0 : Nat)))]) (by (simp -dsimp (disch := first | omega | (simp only [go_sem]; omega)) only [go_sem, seval, Nat.reduceEqDiff, Nat.reduceLeDiff] <;> ((repeat' apply And.intro) <;> first | exact VLe.refl _ | (apply vle_int; omega) | (apply vle_int; simp; done) | exact VLe.own _ _ | exact VLe.nilown _ | exact VLe.norm _))), 0, _, .nilS, by omega, rfl, .nil, rfl⟩ ?_
 rintro m st ⟨k, G, y, hk, rfl, hy, rfl⟩
 (repeat (first | with_reducible refine W.seq ?_ | with_reducible refine W.block ?_ | ((first | with_reducible refine W.reg ?_ | with_reducible refine W.skip ?_ | with_reducible refine W.exit ?_ | with_reducible refine W.ret ?_ | with_reducible refine W.ifc ?_); simp -dsimp (disch := first | omega | (simp only [go_sem]; omega)) only [go_sem, seval, Nat.reduceEqDiff, Nat.reduceLeDiff])))
 refine wG_dec (fun h1 => ?_) (fun h1 => ?_)
 · have hk' : k < l.obs.length := by omega
   have hfs := filter_snoc id hk'
   have hfl : ((l.obs.take k).filter fun o => decide (o.id ≠ id)).length ≤ k := Nat.le_trans (List.length_filter_le _ _) (List.length_take_le _ _)
   (repeat (first | with_reducible refine W.seq ?_ | with_reducible refine W.block ?_ | ((first | with_reducible refine W.reg ?_ | with_reducible refine W.skip ?_ | with_reducible refine W.exit ?_ | with_reducible refine W.ret ?_ | with_reducible refine W.ifc ?_); simp -dsimp (disch := first | omega | (simp only [go_sem]; omega)) only [go_sem, seval, Nat.reduceEqDiff, Nat.reduceLeDiff])))
   refine wG_dec (fun h2 => ?_) (fun h2 => ?_)
   · rw [if_pos h2] at hfs
     (repeat (first | with_reducible refine W.seq ?_ | with_reducible refine W.block ?_ | ((first | with_reducible refine W.reg ?_ | with_reducible refine W.skip ?_ | with_reducible refine W.exit ?_ | with_reducible refine W.ret ?_ | with_reducible refine W.ifc ?_); simp -dsimp (disch := first | omega | (simp only [go_sem]; omega)) only [go_sem, seval, Nat.reduceEqDiff, Nat.reduceLeDiff])))
     refine appV_GV2 (es2 := [eB l.obs[k]]) hy (viewC_list (es := [eB l.obs[k]]) (by simp -dsimp (disch := first | omega | (simp only [go_sem]; omega)) only [go_sem, seval, Nat.reduceEqDiff, Nat.reduceLeDiff])) rfl (by simp -dsimp (disch := first | omega | (simp only [go_sem]; omega)) only [go_sem, seval, Nat.reduceEqDiff, Nat.reduceLeDiff]) rfl (by rw [List.length_map]; show (((l.obs.take k).filter fun o => decide (o.id ≠ id)).length + 1) * 48 ≤ mostBytes; rw [mostBytes_eq]; omega) fun y2 G2 hg hto => ?_
     have hys : sizeOk 1 y2 = true := by rcases hg.shape with rfl | ⟨_, _, _, rfl⟩ <;> rfl
     have hyc : y2.cells = [y2] := by rcases hg.shape with rfl | ⟨_, _, _, rfl⟩ <;> rfl
     simp -dsimp (disch := first | omega | (simp only [go_sem]; omega)) only [go_sem, seval, Nat.reduceEqDiff, Nat.reduceLeDiff, ↓hys, ↓hyc]
     (repeat (first | with_reducible refine W.seq ?_ | with_reducible refine W.block ?_ | ((first | with_reducible refine W.reg ?_ | with_reducible refine W.skip ?_ | with_reducible refine W.exit ?_ | with_reducible refine W.ret ?_ | with_reducible refine W.ifc ?_); simp -dsimp (disch := first | omega | (simp only [go_sem]; omega)) only [go_sem, seval, Nat.reduceEqDiff, Nat.reduceLeDiff, ↓hys, ↓hyc])))
     refine ⟨_, _, ?_, st_leB (by (simp -dsimp (disch := first | omega | (simp only [go_sem]; omega)) only [go_sem, seval, Nat.reduceEqDiff, Nat.reduceLeDiff] <;> ((repeat' apply And.intro) <;> first | exact VLe.refl _ | (apply vle_int; omega) | (apply vle_int; simp; done) | exact VLe.own _ _ | exact VLe.nilown _ | exact VLe.norm _))) rfl, k + 1, _, y2, by omega, rfl, by rw [hfs, List.map_append]; exact hg, rfl⟩
     omega
   · rw [if_neg h2] at hfs
     (repeat (first | with_reducible refine W.seq ?_ | with_reducible refine W.block ?_ | ((first | with_reducible refine W.reg ?_ | with_reducible refine W.skip ?_ | with_reducible refine W.exit ?_ | with_reducible refine W.ret ?_ | with_reducible refine W.ifc ?_); simp -dsimp (disch := first | omega | (simp only [go_sem]; omega)) only [go_sem, seval, Nat.reduceEqDiff, Nat.reduceLeDiff])))
     refine ⟨_, _, ?_, st_leB (by (simp -dsimp (disch := first | omega | (simp only [go_sem]; omega)) only [go_sem, seval, Nat.reduceEqDiff, Nat.reduceLeDiff] <;> ((repeat' apply And.intro) <;> first | exact VLe.refl _ | (apply vle_int; omega) | (apply vle_int; simp; done) | exact VLe.own _ _ | exact VLe.nilown _ | exact VLe.norm _))) rfl, k + 1, _, y, by omega, rfl, by rw [hfs]; exact hy, rfl⟩
     omega
 · obtain rfl : k = l.obs.length := by omega
   rw [List.take_length, ← hob2] at hy
   have hob2l : ob2.length ≤ 2000 := by rw [hob2]; exact Nat.le_trans (List.length_filter_le _ _) hl2
   have hob2c : ∀ o ∈ ob2, o.chunks.length ≤ 100000 := fun o ho => hl.2.2 o (by rw [hob2] at ho; exact (List.mem_filter.1 ho).1)
   (repeat (first | with_reducible refine W.seq ?_ | with_reducible refine W.block ?_ | ((first | with_reducible refine W.reg ?_ | with_reducible refine W.skip ?_ | with_reducible refine W.exit ?_ | with_reducible refine W.ret ?_ | with_reducible refine W.ifc ?_); simp -dsimp (disch := first | omega | (simp only [go_sem]; omega)) only [go_sem, seval, Nat.reduceEqDiff, Nat.reduceLeDiff])))
   refine W.loop (fun m st => ∃ k b9 G x gone, k ≤ l.cks.length ∧ m = l.cks.length - k ∧ GV 4 G x ((keepC ob2 (l.cks.take k)).map eC) ∧ GV 3 G y (ob2.map eB) ∧ Apart x y ∧ gone = (goneC ob2 (l.cks.take k)).map eI ∧ gone.length ≤ k ∧
    st = (E [(2, .ptr 0 2 1 0), (4, .ptr 0 4 1 0), (5, .ptr 0 5 1 0), (7, .own 1 gone), (8, .d (.int .i64 k))],
     HB [(2, ⟨1, some [.int .i64 l.next, .list (l.cks.map eC), .list (l.obs.map eB)]⟩), (4, ⟨1, some [.int .i64 0, .nilS, .nilS, .nilS, .int .i64 0]⟩), (5, ⟨1, some [.int .i64 l.next, x, y]⟩), (9, b9)], [], G))
    ⟨_, _, st_leB (l' := [(2, .ptr 0 2 1 0), (4, .ptr 0 4 1 0), (5, .ptr 0 5 1 0), (7, .own 1 []), (8, .d (.int .i64 (0 : Nat)))]) (by (simp -dsimp (disch := first | omega | (simp only [go_sem]; omega)) only [go_sem, seval, Nat.reduceEqDiff, Nat.reduceLeDiff] <;> ((repeat' apply And.intro) <;> first | exact VLe.refl _ | (apply vle_int; omega) | (apply vle_int; simp; done) | exact VLe.own _ _ | exact VLe.nilown _ | exact VLe.norm _))) (HB_pad [(2, _), (4, _), (5, _)] [9] rfl).symm, 0, _, _, .nilS, [], by omega, rfl, .nil, hy, Apart.nil _, rfl, Nat.le_refl 0, rfl⟩ ?_
   rintro m st ⟨k, b9, G, x, gone, hk, rfl, hx, hy, hxy, hgone, hgl, rfl⟩
   (repeat (first | with_reducible refine W.seq ?_ | with_reducible refine W.block ?_ | ((first | with_reducible refine W.reg ?_ | with_reducible refine W.skip ?_ | with_reducible refine W.exit ?_ | with_reducible refine W.ret ?_ | with_reducible refine W.ifc ?_); simp -dsimp (disch := first | omega | (simp only [go_sem]; omega)) only [go_sem, seval, Nat.reduceEqDiff, Nat.reduceLeDiff])))
   refine wG_dec (fun h1 => ?_) (fun h1 => ?_)
   · have hk' : k < l.cks.length := by omega
     have hks := keepC_snoc (obs := ob2) hk'
     have hgs := goneC_snoc (obs := ob2) hk'
     have hkl := keepC_len ob2 (l.cks.take k)
     rw [List.length_take_of_le hk] at hkl
     (repeat (first | with_reducible refine W.seq ?_ | with_reducible refine W.block ?_ | ((first | with_reducible refine W.reg ?_ | with_reducible refine W.skip ?_ | with_reducible refine W.exit ?_ | with_reducible refine W.ret ?_ | with_reducible refine W.ifc ?_); simp -dsimp (disch := first | omega | (simp only [go_sem]; omega)) only [go_sem, seval, Nat.reduceEqDiff, Nat.reduceLeDiff])))
     apply wC_lendR (uses_ok ⟨l.next, keepC ob2 (l.cks.take k), ob2⟩ l.cks[k].id ⟨by simp only; omega, hob2l, hob2c⟩)
     focus (simp -dsimp (disch := first | omega | (simp only [go_sem]; omega)) only [go_sem, seval, Nat.reduceEqDiff, Nat.reduceLeDiff] <;> fail)
     focus (simp -dsimp (disch := first | omega | (simp only [go_sem]; omega)) only [go_sem, seval, Nat.reduceEqDiff, Nat.reduceLeDiff] <;> rfl)
     · exact DRs.cons (DRs.agg (DRs.cons (.refl _) (DRs.cons hx.dr (DRs.cons hy.dr DRs.nil)))) (DRs.cons (.refl _) DRs.nil)
     · rintro _ rfl; rfl
     rintro _ rfl
     simp -dsimp (disch := first | omega | (simp only [go_sem]; omega)) only [go_sem, seval, Nat.reduceEqDiff, Nat.reduceLeDiff]
     (repeat (first | with_reducible refine W.seq ?_ | with_reducible refine W.block ?_ | ((first | with_reducible refine W.reg ?_ | with_reducible refine W.skip ?_ | with_reducible refine W.exit ?_ | with_reducible refine W.ret ?_ | with_reducible refine W.ifc ?_); simp -dsimp (disch := first | omega | (simp only [go_sem]; omega)) only [go_sem, seval, Nat.reduceEqDiff, Nat.reduceLeDiff])))
     refine wG_dec (fun h3 => ?_) (fun h3 => ?_)
     · (repeat (first | with_reducible refine W.seq ?_ | with_reducible refine W.block ?_ | ((first | with_reducible refine W.reg ?_ | with_reducible refine W.skip ?_ | with_reducible refine W.exit ?_ | with_reducible refine W.ret ?_ | with_reducible refine W.ifc ?_); simp -dsimp (disch := first | omega | (simp only [go_sem]; omega)) only [go_sem, seval, Nat.reduceEqDiff, Nat.reduceLeDiff])))
       refine appV_GV2 (es2 := [eC { l.cks[k] with uses := (usesOf ob2 l.cks[k].id : Int) }]) hx (viewC_list (es := [eC { l.cks[k] with uses := (usesOf ob2 l.cks[k].id : Int) }]) (by simp -dsimp (disch := first | omega | (simp only [go_sem]; omega)) only [go_sem, seval, Nat.reduceEqDiff, Nat.reduceLeDiff])) rfl (by simp -dsimp (disch := first | omega | (simp only [go_sem]; omega)) only [go_sem, seval, Nat.reduceEqDiff, Nat.reduceLeDiff]) rfl (by rw [List.length_map]; show ((keepC ob2 (l.cks.take k)).length + 1) * 48 ≤ mostBytes; rw [mostBytes_eq]; omega) fun x4 G5 hg hto5 => ?_
       rw [if_pos (by omega)] at hks hgs
       have hy5 := hy.keep hto5 (fun b o k c o' k' c' e1 e2 => hxy _ _ _ _ _ _ _ e2 e1)
       have hxs4 : sizeOk 1 x4 = true := by rcases hg.shape with rfl | ⟨_, _, _, rfl⟩ <;> rfl
       have hxc4 : x4.cells = [x4] := by rcases hg.shape with rfl | ⟨_, _, _, rfl⟩ <;> rfl
       simp -dsimp (disch := first | omega | (simp only [go_sem]; omega)) only [go_sem, seval, Nat.reduceEqDiff, Nat.reduceLeDiff, ↓hxs4, ↓hxc4]
       (repeat (first | with_reducible refine W.seq ?_ | with_reducible refine W.block ?_ | ((first | with_reducible refine W.reg ?_ | with_reducible refine W.skip ?_ | with_reducible refine W.exit ?_ | with_reducible refine W.ret ?_ | with_reducible refine W.ifc ?_); simp -dsimp (disch := first | omega | (simp only [go_sem]; omega)) only [go_sem, seval, Nat.reduceEqDiff, Nat.reduceLeDiff, ↓hxs4, ↓hxc4])))
       refine ⟨_, _, ?_, st_leB (by (simp -dsimp (disch := first | omega | (simp only [go_sem]; omega)) only [go_sem, seval, Nat.reduceEqDiff, Nat.reduceLeDiff] <;> ((repeat' apply And.intro) <;> first | exact VLe.refl _ | (apply vle_int; omega) | (apply vle_int; simp; done) | exact VLe.own _ _ | exact VLe.nilown _ | exact VLe.norm _))) rfl, k + 1, _, _, x4, gone, by omega, rfl, ?_, hy5.1, fun b o k c o' k' c' e1 e2 => hy5.2 _ _ _ _ _ _ _ e2 e1, by rw [hgs]; exact hgone, by omega, rfl⟩
       · omega
       · rw [hks, List.map_append]; exact hg
     · rw [if_neg (by omega)] at hks hgs
       (repeat (first | with_reducible refine W.seq ?_ | with_reducible refine W.block ?_ | ((first | with_reducible refine W.reg ?_ | with_reducible refine W.skip ?_ | with_reducible refine W.exit ?_ | with_reducible refine W.ret ?_ | with_reducible refine W.ifc ?_); simp -dsimp (disch := first | omega | (simp only [go_sem]; omega)) only [go_sem, seval, Nat.reduceEqDiff, Nat.reduceLeDiff])))
       refine ⟨_, _, ?_, st_leB (by (simp -dsimp (disch := first | omega | (simp only [go_sem]; omega)) only [go_sem, seval, Nat.reduceEqDiff, Nat.reduceLeDiff] <;> ((repeat' apply And.intro) <;> first | exact VLe.refl _ | (apply vle_int; omega) | (apply vle_int; simp; done) | exact VLe.own _ _ | exact VLe.nilown _ | exact VLe.norm _))) rfl, k + 1, _, _, x, gone ++ [eI l.cks[k].id], by omega, rfl, by rw [hks]; exact hx, hy, hxy, by rw [hgs, hgone, List.map_append]; rfl, by simp; omega, rfl⟩
       omega
   · obtain rfl : k = l.cks.length := by omega
     rw [List.take_length] at hx hgone
     subst hgone
     have hx1 : x.one = true := by rcases hx.shape with rfl | ⟨_, _, _, rfl⟩ <;> rfl
     have hy1 : y.one = true := by rcases hy.shape with rfl | ⟨_, _, _, rfl⟩ <;> rfl
     rcases hx.shape with rfl | ⟨bx, nx, cx, rfl⟩ <;> rcases hy.shape with rfl | ⟨byy, ny, cy, rfl⟩
     all_goals
      (repeat (first | with_reducible refine W.seq ?_ | with_reducible refine W.block ?_ | ((first | with_reducible refine W.reg ?_ | with_reducible refine W.skip ?_ | with_reducible refine W.exit ?_ | with_reducible refine W.ret ?_ | with_reducible refine W.ifc ?_); simp -dsimp (disch := first | omega | (simp only [go_sem]; omega)) only [go_sem, seval, Nat.reduceEqDiff, Nat.reduceLeDiff])))
      refine Fin.eq rfl ⟨rfl, _, .d _ _ (DRs.agg (DRs.cons (.refl _) (DRs.cons hx.dr (DRs.cons hy.dr (DRs.cons (.refl _) (DRs.cons (.refl _) DRs.nil)))))), rfl⟩
end Go.Proofs.Ytbcnnomgfheaoaa
