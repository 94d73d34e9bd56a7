/-
 Layer 37 (chunk), continued: copies.
 Conditions: of each contract as it says.
-/
import Derived.Test.YtbcnnomgfheaoaaF37i
namespace Go.Proofs.Ytbcnnomgfheaoaa
open Go Go.E2 C37
set_option linter.unusedSimpArgs false
set_option maxHeartbeats 1000000
theorem CloneI_ok (l : List Int) (hl : l.length ≤ 100000) : CallP Try.prog f_slices_Clone_int_int [.list (l.map eI)] (· = .d (.list (l.map eI))) := by
 refine callP_of_W fol slices_Clone_int_int_cp ?_
 simp -dsimp (disch := first | omega | (simp only [go_sem]; omega)) only [go_sem, seval, Nat.reduceEqDiff, Nat.reduceLeDiff]
 (repeat (first | with_reducible refine W.seq ?_ | with_reducible refine W.block ?_ | ((first | with_reducible refine W.reg ?_ | with_reducible refine W.skip ?_ | with_reducible refine W.exit ?_ | with_reducible refine W.ret ?_ | with_reducible refine W.ifc ?_); simp -dsimp (disch := first | omega | (simp only [go_sem]; omega)) only [go_sem, seval, Nat.reduceEqDiff, Nat.reduceLeDiff])))
 refine wI_list fun t ht => ?_
 simp -dsimp (disch := first | omega | (simp only [go_sem]; omega)) only [go_sem, seval, Nat.reduceEqDiff, Nat.reduceLeDiff]
 (repeat (first | with_reducible refine W.seq ?_ | with_reducible refine W.block ?_ | ((first | with_reducible refine W.reg ?_ | with_reducible refine W.skip ?_ | with_reducible refine W.exit ?_ | with_reducible refine W.ret ?_ | with_reducible refine W.ifc ?_); simp -dsimp (disch := first | omega | (simp only [go_sem]; omega)) only [go_sem, seval, Nat.reduceEqDiff, Nat.reduceLeDiff])))
 refine wG_t (fun h => ?_) (fun h => ?_)
 · have he : l = [] := by
    refine Classical.byContradiction fun hn => ?_
    rw [ht (by simpa using hn)] at h; cases h
   subst he
   (repeat (first | with_reducible refine W.seq ?_ | with_reducible refine W.block ?_ | ((first | with_reducible refine W.reg ?_ | with_reducible refine W.skip ?_ | with_reducible refine W.exit ?_ | with_reducible refine W.ret ?_ | with_reducible refine W.ifc ?_); simp -dsimp (disch := first | omega | (simp only [go_sem]; omega)) only [go_sem, seval, Nat.reduceEqDiff, Nat.reduceLeDiff])))
   exact Fin.n rfl rfl
 · (repeat (first | with_reducible refine W.seq ?_ | with_reducible refine W.block ?_ | ((first | with_reducible refine W.reg ?_ | with_reducible refine W.skip ?_ | with_reducible refine W.exit ?_ | with_reducible refine W.ret ?_ | with_reducible refine W.ifc ?_); simp -dsimp (disch := first | omega | (simp only [go_sem]; omega)) only [go_sem, seval, Nat.reduceEqDiff, Nat.reduceLeDiff])))
   exact Fin.n rfl (by simp -dsimp (disch := first | omega | (simp only [go_sem]; omega)) only [go_sem, seval, Nat.reduceEqDiff, Nat.reduceLeDiff, normL_of (f := eI) (fun _ => rfl)])
def Keeps (G G' : Gh) : Prop := (∀ b c, G.c b = some c → G'.c b = some c) ∧ G'.m = G.m
theorem clone_ok (l : Lt) (hl : smallL l) (σ : List Hp) (G : Gh) : CallT Try.prog f_chunk_clone ([eL l].map .d) σ G fun r σ' G' => σ' = σ ∧ ∃ x y, r = .d (.agg [.int .i64 l.next, x, y]) ∧ GV 4 G' x (l.cks.map eC) ∧ GV 3 G' y (l.obs.map eB) ∧
 (∀ b o k c o' k' c', x = .gs b o k c → y ≠ .gs b o' k' c') ∧ Keeps G G' := by
 refine callT_of_W fol chunk_clone_cp ?_
 have hl1 := hl.1
 have hl2 := hl.2.1
 simp -dsimp (disch := first | omega | (simp only [go_sem]; omega)) only [go_sem, seval, Nat.reduceEqDiff, Nat.reduceLeDiff]
 (repeat (first | with_reducible refine W.seq ?_ | with_reducible refine W.block ?_ | ((first | with_reducible refine W.reg ?_ | with_reducible refine W.skip ?_ | with_reducible refine W.exit ?_ | with_reducible refine W.ret ?_ | with_reducible refine W.ifc ?_); simp -dsimp (disch := first | omega | (simp only [go_sem]; omega)) only [go_sem, seval, Nat.reduceEqDiff, Nat.reduceLeDiff])))
 refine wP_mk (by omega) ?_
 refine wNew_mk fun bx hbx => ?_
 simp -dsimp (disch := first | omega | (simp only [go_sem]; omega)) only [go_sem, seval, Nat.reduceEqDiff, Nat.reduceLeDiff]
 (repeat (first | with_reducible refine W.seq ?_ | with_reducible refine W.block ?_ | ((first | with_reducible refine W.reg ?_ | with_reducible refine W.skip ?_ | with_reducible refine W.exit ?_ | with_reducible refine W.ret ?_ | with_reducible refine W.ifc ?_); simp -dsimp (disch := first | omega | (simp only [go_sem]; omega)) only [go_sem, seval, Nat.reduceEqDiff, Nat.reduceLeDiff])))
 have hr0 : Row 4 l.cks.length l.cks.length (List.replicate l.cks.length (.agg [.int .i64 0, .str [], .str [], .int .i64 0])) (rep l.cks.length [.int .i64 0, .str [], .str [], .int .i64 0]) := by
  rw [rep_flat]
  exact ⟨by simp, by simp [sizeOk, D.cells, D.one], Nat.le_refl _, by rw [flat_length (sz := 4) (by simp [sizeOk, D.cells, D.one])]; simp, List.take_of_length_le (by rw [flat_length (sz := 4) (by simp [sizeOk, D.cells, D.one])]; simp)⟩
 have hr1 := hr0.copyv (i := 0) (m := l.cks.length) (len := l.cks.length) (ys := l.cks.map eC) (eC_all _) (by simp) (by omega) (Nat.le_refl _)
 refine wCp_mk (gset_same _ _ _) (viewC_list (eC_all l.cks)) (by rw [Nat.zero_add]; exact hr0.ncs) ?_
 have e1 : List.take 0 (List.replicate l.cks.length (D.agg [.int .i64 0, .str [], .str [], .int .i64 0])) ++ l.cks.map eC ++ List.drop (0 + l.cks.length) (List.replicate l.cks.length (D.agg [.int .i64 0, .str [], .str [], .int .i64 0])) = l.cks.map eC := by simp
 rw [e1] at hr1
 simp only [List.length_map] at hr1 ⊢
 rw [Nat.zero_mul] at hr1
 revert hr1
 generalize over _ _ 0 = cs1
 intro hr1
 have hk0 : ∀ c v, G.c c = some v → ((G.set bx (some (rep l.cks.length [.int .i64 0, .str [], .str [], .int .i64 0]))).set bx (some cs1)).c c = some v := fun c v hc => by
  have : c ≠ bx := by rintro rfl; rw [hbx] at hc; cases hc
  rw [set_off this, set_off this]; exact hc
 have hkx : ((G.set bx (some (rep l.cks.length [.int .i64 0, .str [], .str [], .int .i64 0]))).set bx (some cs1)).c bx = some cs1 := gset_same _ _ _
 have hkm : ((G.set bx (some (rep l.cks.length [.int .i64 0, .str [], .str [], .int .i64 0]))).set bx (some cs1)).m = G.m := rfl
 revert hk0 hkx hkm
 generalize (G.set bx _).set bx (some cs1) = G1
 intro hk0 hkx hkm
 simp -dsimp (disch := first | omega | (simp only [go_sem]; omega)) only [go_sem, seval, Nat.reduceEqDiff, Nat.reduceLeDiff]
 (repeat (first | with_reducible refine W.seq ?_ | with_reducible refine W.block ?_ | ((first | with_reducible refine W.reg ?_ | with_reducible refine W.skip ?_ | with_reducible refine W.exit ?_ | with_reducible refine W.ret ?_ | with_reducible refine W.ifc ?_); simp -dsimp (disch := first | omega | (simp only [go_sem]; omega)) only [go_sem, seval, Nat.reduceEqDiff, Nat.reduceLeDiff])))
 refine W.loop (fun m st => ∃ k b5 y G2, k ≤ l.obs.length ∧ m = l.obs.length - k ∧ GV 3 G2 y ((l.obs.take k).map eB) ∧ GTo .nilS y G1 G2 ∧
  st = (E [(2, .ptr 0 2 1 0), (3, .ptr 0 3 1 0), (19, .d (.list (l.obs.map eB))), (20, .d (.int .i64 l.obs.length)), (21, .d (.int .i64 k))],
   HB [(1, ⟨1, some [.int .i64 l.next, .list (l.cks.map eC), .list (l.obs.map eB)]⟩), (2, ⟨1, some [.int .i64 0, .nilS, .nilS]⟩), (3, ⟨1, some [.int .i64 l.next, .gs bx 0 l.cks.length l.cks.length, y]⟩), (5, b5)], σ, G2))
  ⟨_, _, st_leB (by (simp -dsimp (disch := first | omega | (simp only [go_sem]; omega)) only [go_sem, seval, Nat.reduceEqDiff, Nat.reduceLeDiff] <;> ((repeat' apply And.intro) <;> first | exact VLe.refl _ | (apply vle_int; omega) | (apply vle_int; simp; done) | exact VLe.own _ _ | exact VLe.nilown _ | exact VLe.norm _))) (HB_pad [(1, _), (2, _), (3, _)] [5] rfl).symm, 0, _, .nilS, G1, by omega, rfl, .nil, GTo.refl _ _, rfl⟩ ?_
 rintro m st ⟨k, b5, y, G2, hk, rfl, hy, hto0, rfl⟩
 (repeat (first | with_reducible refine W.seq ?_ | with_reducible refine W.block ?_ | ((first | with_reducible refine W.reg ?_ | with_reducible refine W.skip ?_ | with_reducible refine W.exit ?_ | with_reducible refine W.ret ?_ | with_reducible refine W.ifc ?_); simp -dsimp (disch := first | omega | (simp only [go_sem]; omega)) only [go_sem, seval, Nat.reduceEqDiff, Nat.reduceLeDiff])))
 refine wG_dec (fun h1 => ?_) (fun h1 => ?_)
 · have hk' : k < l.obs.length := by omega
   have hch := hl.2.2 _ (List.getElem_mem hk')
   (repeat (first | with_reducible refine W.seq ?_ | with_reducible refine W.block ?_ | ((first | with_reducible refine W.reg ?_ | with_reducible refine W.skip ?_ | with_reducible refine W.exit ?_ | with_reducible refine W.ret ?_ | with_reducible refine W.ifc ?_); simp -dsimp (disch := first | omega | (simp only [go_sem]; omega)) only [go_sem, seval, Nat.reduceEqDiff, Nat.reduceLeDiff])))
   apply wC_p (CloneI_ok l.obs[k].chunks hch)
   focus (simp -dsimp (disch := first | omega | (simp only [go_sem]; omega)) only [go_sem, seval, Nat.reduceEqDiff, Nat.reduceLeDiff] <;> fail)
   focus (simp -dsimp (disch := first | omega | (simp only [go_sem]; omega)) only [go_sem, seval, Nat.reduceEqDiff, Nat.reduceLeDiff] <;> rfl)
   rintro _ rfl
   simp -dsimp (disch := first | omega | (simp only [go_sem]; omega)) only [go_sem, seval, Nat.reduceEqDiff, Nat.reduceLeDiff]
   (repeat (first | with_reducible refine W.seq ?_ | with_reducible refine W.block ?_ | ((first | with_reducible refine W.reg ?_ | with_reducible refine W.skip ?_ | with_reducible refine W.exit ?_ | with_reducible refine W.ret ?_ | with_reducible refine W.ifc ?_); simp -dsimp (disch := first | omega | (simp only [go_sem]; omega)) only [go_sem, seval, Nat.reduceEqDiff, Nat.reduceLeDiff])))
   refine appV_GV2 (es2 := [eB l.obs[k]]) hy (viewC_list (es := [eB l.obs[k]]) (by simp -dsimp (disch := first | omega | (simp only [go_sem]; omega)) only [go_sem, seval, Nat.reduceEqDiff, Nat.reduceLeDiff])) rfl (by simp -dsimp (disch := first | omega | (simp only [go_sem]; omega)) only [go_sem, seval, Nat.reduceEqDiff, Nat.reduceLeDiff]) rfl (by rw [List.length_map, List.length_take_of_le hk]; show (k + 1) * 48 ≤ mostBytes; rw [mostBytes_eq]; omega) fun y' G3 hg hto => ?_
   have e2 : (l.obs.take k).map eB ++ [eB l.obs[k]] = (l.obs.take (k + 1)).map eB := by rw [List.take_succ_eq_append_getElem hk', List.map_append]; rfl
   rw [e2] at hg
   simp -dsimp (disch := first | omega | (simp only [go_sem]; omega)) only [go_sem, seval, Nat.reduceEqDiff, Nat.reduceLeDiff]
   rcases hg.shape with rfl | ⟨b', n', cap', rfl⟩
   all_goals
    simp -dsimp (disch := first | omega | (simp only [go_sem]; omega)) only [go_sem, seval, Nat.reduceEqDiff, Nat.reduceLeDiff]
    (repeat (first | with_reducible refine W.seq ?_ | with_reducible refine W.block ?_ | ((first | with_reducible refine W.reg ?_ | with_reducible refine W.skip ?_ | with_reducible refine W.exit ?_ | with_reducible refine W.ret ?_ | with_reducible refine W.ifc ?_); simp -dsimp (disch := first | omega | (simp only [go_sem]; omega)) only [go_sem, seval, Nat.reduceEqDiff, Nat.reduceLeDiff])))
    refine ⟨_, _, ?_, st_leB (by (simp -dsimp (disch := first | omega | (simp only [go_sem]; omega)) only [go_sem, seval, Nat.reduceEqDiff, Nat.reduceLeDiff] <;> ((repeat' apply And.intro) <;> first | exact VLe.refl _ | (apply vle_int; omega) | (apply vle_int; simp; done) | exact VLe.own _ _ | exact VLe.nilown _ | exact VLe.norm _))) rfl, k + 1, _, _, G3, by omega, rfl, hg, hto0.trans hto, rfl⟩
    omega
 · obtain rfl : k = l.obs.length := by omega
   rw [List.take_length] at hy
   have hnil : ∀ c o n k, D.nilS ≠ .gs c o n k := fun _ _ _ _ e => by cases e
   have hyx := hto0.sep bx _ hkx (hnil _)
   have hkx2 := hto0.fr bx _ hkx (hnil _)
   rcases hy.shape with rfl | ⟨b', n', cap', rfl⟩
   all_goals
    (repeat (first | with_reducible refine W.seq ?_ | with_reducible refine W.block ?_ | ((first | with_reducible refine W.reg ?_ | with_reducible refine W.skip ?_ | with_reducible refine W.exit ?_ | with_reducible refine W.ret ?_ | with_reducible refine W.ifc ?_); simp -dsimp (disch := first | omega | (simp only [go_sem]; omega)) only [go_sem, seval, Nat.reduceEqDiff, Nat.reduceLeDiff])))
    refine Fin.eq rfl ⟨rfl, _, _, rfl, .mk hkx2 hr1, hy, ?_, fun c v hc => hto0.fr c v (hk0 c v hc) (hnil _), hto0.m.trans hkm⟩
    rintro b o k c o' k' c' e
    cases e
    exact hyx _ _ _
end Go.Proofs.Ytbcnnomgfheaoaa
