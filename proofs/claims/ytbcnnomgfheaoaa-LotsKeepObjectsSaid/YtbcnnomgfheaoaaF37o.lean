/-
 Layer 37 (chunk), continued: an object is taken away.
 Conditions: of each contract as it says.
-/
import Derived.Test.YtbcnnomgfheaoaaF37n
import Derived.Test.YtbcnnomgfheaoaaS37
namespace Go.Proofs.Ytbcnnomgfheaoaa
open Go Go.E2 C37
set_option linter.unusedSimpArgs false
set_option maxHeartbeats 2000000
theorem zero_row {G : Gh} {x y : D} {es : List D} (hx : GV 4 G x es) (hxy : Apart x y) : ∃ x0, vSlH 4 (some x) (some 0) (some 0) = some (.d x0) ∧ GV 4 G x0 [] ∧ (x0.cells = [x0] ∧ sizeOk 1 x0 = true) ∧ Apart x0 y := by
 cases hx with
 | nil => exact ⟨.nilS, by simp -dsimp (disch := first | omega | (simp only [go_sem]; omega)) only [go_sem, seval, Nat.reduceEqDiff, Nat.reduceLeDiff], .nil, ⟨rfl, rfl⟩, Apart.nil _⟩
 | row b cap es cs hb hrow =>
  have h0 : (if cap = (0 : Int).toNat then 0 else 0 + (0 : Int).toNat * 4) = 0 := by split <;> rfl
  refine ⟨.gs b 0 0 cap, by rw [vSlH_gs _ _ _ _ _ _ _ (by omega) (by omega) (by omega), h0]; rfl, GV.mk hb (hrow.take (Nat.zero_le _) (Nat.zero_le _) (Nat.le_refl _)), ⟨rfl, rfl⟩, fun b' o k c o' k' c' e => ?_⟩
  cases e; exact fun e => hxy _ _ _ _ _ _ _ rfl e
theorem remove_ok (l : Lt) (hv : validL l) (hl : smallL l) (k : Nat) (hk : k < l.obs.length) (σ : List Hp) (G : Gh) :
 CallT Try.prog f_chunk_remove ([eL l, .int .i64 k].map .d) σ G fun r σ' G' => σ' = σ ∧ ∃ x y, r = .tup [.agg [.int .i64 l.next, x, y], .list ((without l l.obs[k].id).2.map eI)] ∧
  GV 4 G' x ((without l l.obs[k].id).1.cks.map eC) ∧ GV 3 G' y ((without l l.obs[k].id).1.obs.map eB) ∧ Apart x y := by
 refine callT_of_W fol chunk_remove_cp ?_
 have hl1 := hl.1
 have hl2 := hl.2.1
 have hch := hl.2.2 _ (List.getElem_mem hk)
 rw [without_eq (pairO hv.2.2.2) hk]
 simp -dsimp (disch := first | omega | (simp only [go_sem]; omega)) only [go_sem, seval, Nat.reduceEqDiff, Nat.reduceLeDiff]
 (repeat (first | with_reducible refine W.seq ?_ | with_reducible refine W.block ?_ | ((first | with_reducible refine W.reg ?_ | with_reducible refine W.skip ?_ | with_reducible refine W.exit ?_ | with_reducible refine W.ret ?_ | with_reducible refine W.ifc ?_); simp -dsimp (disch := first | omega | (simp only [go_sem]; omega)) only [go_sem, seval, Nat.reduceEqDiff, Nat.reduceLeDiff])))
 apply wC_g (clone_ok l hl _ _)
 focus (simp -dsimp (disch := first | omega | (simp only [go_sem]; omega)) only [go_sem, seval, Nat.reduceEqDiff, Nat.reduceLeDiff] <;> fail)
 focus (simp -dsimp (disch := first | omega | (simp only [go_sem]; omega)) only [go_sem, seval, Nat.reduceEqDiff, Nat.reduceLeDiff] <;> rfl)
 rintro _ G1 ⟨x, y, rfl, hx, hy, hxy, hkp⟩
 have hxs : sizeOk 3 (.agg [.int .i64 l.next, x, y]) = true := by rcases hx.shape with rfl | ⟨_, _, _, rfl⟩ <;> rcases hy.shape with rfl | ⟨_, _, _, rfl⟩ <;> rfl
 simp -dsimp (disch := first | omega | (simp only [go_sem]; omega)) only [go_sem, seval, Nat.reduceEqDiff, Nat.reduceLeDiff, ↓hxs]
 (repeat (first | with_reducible refine W.seq ?_ | with_reducible refine W.block ?_ | ((first | with_reducible refine W.reg ?_ | with_reducible refine W.skip ?_ | with_reducible refine W.exit ?_ | with_reducible refine W.ret ?_ | with_reducible refine W.ifc ?_); simp -dsimp (disch := first | omega | (simp only [go_sem]; omega)) only [go_sem, seval, Nat.reduceEqDiff, Nat.reduceLeDiff, ↓hxs])))
 refine wNewM_mk fun r hr => ?_
 simp -dsimp (disch := first | omega | (simp only [go_sem]; omega)) only [go_sem, seval, Nat.reduceEqDiff, Nat.reduceLeDiff]
 (repeat (first | with_reducible refine W.seq ?_ | with_reducible refine W.block ?_ | ((first | with_reducible refine W.reg ?_ | with_reducible refine W.skip ?_ | with_reducible refine W.exit ?_ | with_reducible refine W.ret ?_ | with_reducible refine W.ifc ?_); simp -dsimp (disch := first | omega | (simp only [go_sem]; omega)) only [go_sem, seval, Nat.reduceEqDiff, Nat.reduceLeDiff])))
 refine W.loop (fun m st => ∃ j G2 mm, j ≤ l.obs[k].chunks.length ∧ m = l.obs[k].chunks.length - j ∧ GV 4 G2 x (l.cks.map eC) ∧ GV 3 G2 y (l.obs.map eB) ∧ MapL [.i] eI eI G2 r mm ∧ (∀ a, (mget mm a).getD 0 = ((l.obs[k].chunks.take j).count a : Nat)) ∧
  st = (E [(1, .d (.int .i64 k)), (2, .ptr 0 2 1 0), (4, .ptr 0 4 1 0), (6, .ptr 0 6 1 0), (7, .d (.mref r)), (21, .d (.list (l.obs[k].chunks.map eI))), (22, .d (.int .i64 l.obs[k].chunks.length)), (23, .d (.int .i64 j))],
   HB [(2, ⟨1, some [.int .i64 l.next, .list (l.cks.map eC), .list (l.obs.map eB)]⟩), (4, ⟨1, some [.int .i64 0, .nilS, .nilS]⟩), (6, ⟨1, some [.int .i64 l.next, x, y]⟩)], σ, G2))
  ⟨_, _, st_le (l' := [(1, .d (.int .i64 k)), (2, .ptr 0 2 1 0), (4, .ptr 0 4 1 0), (6, .ptr 0 6 1 0), (7, .d (.mref r)), (21, .d (.list (l.obs[k].chunks.map eI))), (22, .d (.int .i64 l.obs[k].chunks.length)), (23, .d (.int .i64 (0 : Nat)))]) (by (simp -dsimp (disch := first | omega | (simp only [go_sem]; omega)) only [go_sem, seval, Nat.reduceEqDiff, Nat.reduceLeDiff] <;> ((repeat' apply And.intro) <;> first | exact VLe.refl _ | (apply vle_int; omega) | (apply vle_int; simp; done) | exact VLe.own _ _ | exact VLe.nilown _ | exact VLe.norm _))), 0, _, [], by omega, rfl, hx.setM, hy.setM, MapL.new (keyE_int _), fun a => by simp [mget], rfl⟩ ?_
 rintro m st ⟨j, G2, mm, hj, rfl, hx, hy, hm, hf, rfl⟩
 (repeat (first | with_reducible refine W.seq ?_ | with_reducible refine W.block ?_ | ((first | with_reducible refine W.reg ?_ | with_reducible refine W.skip ?_ | with_reducible refine W.exit ?_ | with_reducible refine W.ret ?_ | with_reducible refine W.ifc ?_); simp -dsimp (disch := first | omega | (simp only [go_sem]; omega)) only [go_sem, seval, Nat.reduceEqDiff, Nat.reduceLeDiff])))
 refine wG_dec (fun h1 => ?_) (fun h1 => ?_)
 · have hj' : j < l.obs[k].chunks.length := by omega
   have hlook := hm.look (.int .i64 0) l.obs[k].chunks[j]
   have hgd : ((mget mm l.obs[k].chunks[j]).map eI).getD (.int .i64 0) = .int .i64 ((l.obs[k].chunks.take j).count l.obs[k].chunks[j] : Nat) := by
    rw [← hf]; cases mget mm l.obs[k].chunks[j] <;> rfl
   rw [hgd] at hlook
   simp only [eI] at hlook
   have hc : (l.obs[k].chunks.take j).count l.obs[k].chunks[j] ≤ j := Nat.le_trans List.count_le_length (List.length_take_le _ _)
   (repeat (first | with_reducible refine W.seq ?_ | with_reducible refine W.block ?_ | ((first | with_reducible refine W.reg ?_ | with_reducible refine W.skip ?_ | with_reducible refine W.exit ?_ | with_reducible refine W.ret ?_ | with_reducible refine W.ifc ?_); simp -dsimp (disch := first | omega | (simp only [go_sem]; omega)) only [go_sem, seval, Nat.reduceEqDiff, Nat.reduceLeDiff, hlook])))
   refine wGd_put (emb := eI) (vf := eI) hm l.obs[k].chunks[j] _ fun M hM => ?_
   simp -dsimp (disch := first | omega | (simp only [go_sem]; omega)) only [go_sem, seval, Nat.reduceEqDiff, Nat.reduceLeDiff]
   (repeat (first | with_reducible refine W.seq ?_ | with_reducible refine W.block ?_ | ((first | with_reducible refine W.reg ?_ | with_reducible refine W.skip ?_ | with_reducible refine W.exit ?_ | with_reducible refine W.ret ?_ | with_reducible refine W.ifc ?_); simp -dsimp (disch := first | omega | (simp only [go_sem]; omega)) only [go_sem, seval, Nat.reduceEqDiff, Nat.reduceLeDiff])))
   refine ⟨_, _, ?_, st_le (by (simp -dsimp (disch := first | omega | (simp only [go_sem]; omega)) only [go_sem, seval, Nat.reduceEqDiff, Nat.reduceLeDiff] <;> ((repeat' apply And.intro) <;> first | exact VLe.refl _ | (apply vle_int; omega) | (apply vle_int; simp; done) | exact VLe.own _ _ | exact VLe.nilown _ | exact VLe.norm _))), j + 1, _, _, by omega, rfl, hx.setM, hy.setM, hM, fun a => ?_, rfl⟩
   · omega
   · rw [mget_put, count_succ hj']
     by_cases e : a = l.obs[k].chunks[j]
     · subst e; simp
     · rw [if_neg e, if_neg (fun h => e h.symm), hf]; simp
 · obtain rfl : j = l.obs[k].chunks.length := by omega
   simp only [List.take_length] at hf
   (repeat (first | with_reducible refine W.seq ?_ | with_reducible refine W.block ?_ | ((first | with_reducible refine W.reg ?_ | with_reducible refine W.skip ?_ | with_reducible refine W.exit ?_ | with_reducible refine W.ret ?_ | with_reducible refine W.ifc ?_); simp -dsimp (disch := first | omega | (simp only [go_sem]; omega)) only [go_sem, seval, Nat.reduceEqDiff, Nat.reduceLeDiff])))
   apply wC_g (Delete_ok (i := k) (by rw [List.length_map]; exact hk) (by rw [List.length_map]; omega) _ hy)
   focus (simp -dsimp (disch := first | omega | (simp only [go_sem]; omega)) only [go_sem, seval, Nat.reduceEqDiff, Nat.reduceLeDiff] <;> fail)
   focus (simp -dsimp (disch := first | omega | (simp only [go_sem]; omega)) only [go_sem, seval, Nat.reduceEqDiff, Nat.reduceLeDiff] <;> rfl)
   rintro _ G3 ⟨y2, rfl, hy2, hto⟩
   have hx2 := hx.keep hto (fun b o k c o' k' c' e1 e2 => hxy _ _ _ _ _ _ _ e1 e2)
   have her : (l.obs.map eB).eraseIdx k = (l.obs.eraseIdx k).map eB := by simp only [List.eraseIdx_eq_take_drop_succ, List.map_append, List.map_take, List.map_drop]
   rw [her] at hy2
   have hys : sizeOk 1 y2 = true := by rcases hy2.shape with rfl | ⟨_, _, _, rfl⟩ <;> rfl
   have hyc : y2.cells = [y2] := by rcases hy2.shape with rfl | ⟨_, _, _, rfl⟩ <;> rfl
   obtain ⟨x0, hx0, hx00, hx0s, hx0a⟩ := zero_row hx2.1 hx2.2
   simp -dsimp (disch := first | omega | (simp only [go_sem]; omega)) only [go_sem, seval, Nat.reduceEqDiff, Nat.reduceLeDiff, ↓hys, ↓hyc]
   (repeat (first | with_reducible refine W.seq ?_ | with_reducible refine W.block ?_ | ((first | with_reducible refine W.reg ?_ | with_reducible refine W.skip ?_ | with_reducible refine W.exit ?_ | with_reducible refine W.ret ?_ | with_reducible refine W.ifc ?_); simp -dsimp (disch := first | omega | (simp only [go_sem]; omega)) only [go_sem, seval, Nat.reduceEqDiff, Nat.reduceLeDiff, ↓hys, ↓hyc, hx0, ↓hx0s.1, ↓hx0s.2])))
   refine W.loop (fun m st => ∃ i b12 G4 x3 gone, i ≤ l.cks.length ∧ m = l.cks.length - i ∧ GV 4 G4 x3 ((keepC (l.obs.eraseIdx k) (l.cks.take i)).map eC) ∧ GV 3 G4 y2 ((l.obs.eraseIdx k).map eB) ∧ Apart x3 y2 ∧ MapL [.i] eI eI G4 r mm ∧ gone = (goneC (l.obs.eraseIdx k) (l.cks.take i)).map eI ∧ gone.length ≤ i ∧
    st = (E [(4, .ptr 0 4 1 0), (6, .ptr 0 6 1 0), (7, .d (.mref r)), (10, .own 1 gone), (44, .d (.list (l.cks.map eC))), (45, .d (.int .i64 l.cks.length)), (46, .d (.int .i64 i))],
     HB [(2, ⟨1, some [.int .i64 l.next, .list (l.cks.map eC), .list (l.obs.map eB)]⟩), (4, ⟨1, some [.int .i64 0, .nilS, .nilS]⟩), (6, ⟨1, some [.int .i64 l.next, x3, y2]⟩), (12, b12)], σ, G4))
    ⟨_, _, st_leB (l' := [(4, .ptr 0 4 1 0), (6, .ptr 0 6 1 0), (7, .d (.mref r)), (10, .own 1 []), (44, .d (.list (l.cks.map eC))), (45, .d (.int .i64 l.cks.length)), (46, .d (.int .i64 (0 : Nat)))]) (by (simp -dsimp (disch := first | omega | (simp only [go_sem]; omega)) only [go_sem, seval, Nat.reduceEqDiff, Nat.reduceLeDiff] <;> ((repeat' apply And.intro) <;> first | exact VLe.refl _ | (apply vle_int; omega) | (apply vle_int; simp; done) | exact VLe.own _ _ | exact VLe.nilown _ | exact VLe.norm _))) (HB_pad [(2, _), (4, _), (6, _)] [12] rfl).symm, 0, _, _, x0, [], by omega, rfl, hx00, hy2, hx0a, hm.of (by rw [hto.m]), rfl, Nat.le_refl 0, rfl⟩ ?_
   rintro m st ⟨i, b12, G4, x3, gone, hi, rfl, hx3, hy3, hxy3, hm4, hgone, hgl, rfl⟩
   (repeat (first | with_reducible refine W.seq ?_ | with_reducible refine W.block ?_ | ((first | with_reducible refine W.reg ?_ | with_reducible refine W.skip ?_ | with_reducible refine W.exit ?_ | with_reducible refine W.ret ?_ | with_reducible refine W.ifc ?_); simp -dsimp (disch := first | omega | (simp only [go_sem]; omega)) only [go_sem, seval, Nat.reduceEqDiff, Nat.reduceLeDiff])))
   refine wG_dec (fun h2 => ?_) (fun h2 => ?_)
   · have hi' : i < l.cks.length := by omega
     have hks := keepC_snoc (obs := l.obs.eraseIdx k) hi'
     have hgs := goneC_snoc (obs := l.obs.eraseIdx k) hi'
     have hkl := keepC_len (l.obs.eraseIdx k) (l.cks.take i)
     rw [List.length_take_of_le hi] at hkl
     have hue := usesOf_erase hk l.cks[i].id
     have hu := (okU_get hi').1 (hv.2.2.1 i)
     have hub := usesOf_all hl l.cks[i].id
     have hlook := hm4.look (.int .i64 0) l.cks[i].id
     have hgd : ((mget mm l.cks[i].id).map eI).getD (.int .i64 0) = .int .i64 (l.obs[k].chunks.count l.cks[i].id : Nat) := by
      rw [← hf]; cases mget mm l.cks[i].id <;> rfl
     rw [hgd] at hlook
     simp only [eI] at hlook
     have hnew : l.cks[i].uses - ((l.obs[k].chunks.count l.cks[i].id : Nat) : Int) = (usesOf (l.obs.eraseIdx k) l.cks[i].id : Nat) := by omega
     (repeat (first | with_reducible refine W.seq ?_ | with_reducible refine W.block ?_ | ((first | with_reducible refine W.reg ?_ | with_reducible refine W.skip ?_ | with_reducible refine W.exit ?_ | with_reducible refine W.ret ?_ | with_reducible refine W.ifc ?_); simp -dsimp (disch := first | omega | (simp only [go_sem]; omega)) only [go_sem, seval, Nat.reduceEqDiff, Nat.reduceLeDiff, hlook, hnew])))
     refine wG_dec (fun h3 => ?_) (fun h3 => ?_)
     · (repeat (first | with_reducible refine W.seq ?_ | with_reducible refine W.block ?_ | ((first | with_reducible refine W.reg ?_ | with_reducible refine W.skip ?_ | with_reducible refine W.exit ?_ | with_reducible refine W.ret ?_ | with_reducible refine W.ifc ?_); simp -dsimp (disch := first | omega | (simp only [go_sem]; omega)) only [go_sem, seval, Nat.reduceEqDiff, Nat.reduceLeDiff])))
       refine appV_GV2 (es2 := [eC { l.cks[i] with uses := (usesOf (l.obs.eraseIdx k) l.cks[i].id : Int) }]) hx3 (viewC_list (es := [eC { l.cks[i] with uses := (usesOf (l.obs.eraseIdx k) l.cks[i].id : Int) }]) (by simp -dsimp (disch := first | omega | (simp only [go_sem]; omega)) only [go_sem, seval, Nat.reduceEqDiff, Nat.reduceLeDiff])) rfl (by simp -dsimp (disch := first | omega | (simp only [go_sem]; omega)) only [go_sem, seval, Nat.reduceEqDiff, Nat.reduceLeDiff]) rfl (by rw [List.length_map]; show ((keepC (l.obs.eraseIdx k) (l.cks.take i)).length + 1) * 48 ≤ mostBytes; rw [mostBytes_eq]; omega) fun x4 G5 hg hto5 => ?_
       rw [if_pos (by omega)] at hks hgs
       have hy5 := hy3.keep hto5 (fun b o k c o' k' c' e1 e2 => hxy3 _ _ _ _ _ _ _ e2 e1)
       have hxs4 : sizeOk 1 x4 = true := by rcases hg.shape with rfl | ⟨_, _, _, rfl⟩ <;> rfl
       have hxc4 : x4.cells = [x4] := by rcases hg.shape with rfl | ⟨_, _, _, rfl⟩ <;> rfl
       simp -dsimp (disch := first | omega | (simp only [go_sem]; omega)) only [go_sem, seval, Nat.reduceEqDiff, Nat.reduceLeDiff, ↓hxs4, ↓hxc4]
       (repeat (first | with_reducible refine W.seq ?_ | with_reducible refine W.block ?_ | ((first | with_reducible refine W.reg ?_ | with_reducible refine W.skip ?_ | with_reducible refine W.exit ?_ | with_reducible refine W.ret ?_ | with_reducible refine W.ifc ?_); simp -dsimp (disch := first | omega | (simp only [go_sem]; omega)) only [go_sem, seval, Nat.reduceEqDiff, Nat.reduceLeDiff, ↓hxs4, ↓hxc4])))
       refine ⟨_, _, ?_, st_leB (by (simp -dsimp (disch := first | omega | (simp only [go_sem]; omega)) only [go_sem, seval, Nat.reduceEqDiff, Nat.reduceLeDiff] <;> ((repeat' apply And.intro) <;> first | exact VLe.refl _ | (apply vle_int; omega) | (apply vle_int; simp; done) | exact VLe.own _ _ | exact VLe.nilown _ | exact VLe.norm _))) rfl, i + 1, _, _, x4, gone, by omega, rfl, ?_, hy5.1, fun b o k c o' k' c' e1 e2 => hy5.2 _ _ _ _ _ _ _ e2 e1, hm4.of (by rw [hto5.m]), by rw [hgs]; exact hgone, by omega, rfl⟩
       · omega
       · rw [hks, List.map_append]; exact hg
     · rw [if_neg (by omega)] at hks hgs
       (repeat (first | with_reducible refine W.seq ?_ | with_reducible refine W.block ?_ | ((first | with_reducible refine W.reg ?_ | with_reducible refine W.skip ?_ | with_reducible refine W.exit ?_ | with_reducible refine W.ret ?_ | with_reducible refine W.ifc ?_); simp -dsimp (disch := first | omega | (simp only [go_sem]; omega)) only [go_sem, seval, Nat.reduceEqDiff, Nat.reduceLeDiff])))
       refine ⟨_, _, ?_, st_leB (by (simp -dsimp (disch := first | omega | (simp only [go_sem]; omega)) only [go_sem, seval, Nat.reduceEqDiff, Nat.reduceLeDiff] <;> ((repeat' apply And.intro) <;> first | exact VLe.refl _ | (apply vle_int; omega) | (apply vle_int; simp; done) | exact VLe.own _ _ | exact VLe.nilown _ | exact VLe.norm _))) rfl, i + 1, _, _, x3, gone ++ [eI l.cks[i].id], by omega, rfl, by rw [hks]; exact hx3, hy3, hxy3, hm4, by rw [hgs, hgone, List.map_append]; rfl, by simp; omega, rfl⟩
       omega
   · obtain rfl : i = l.cks.length := by omega
     rw [List.take_length] at hx3 hgone
     subst hgone
     have hxs3 : sizeOk 3 (.agg [.int .i64 l.next, x3, y2]) = true := by rcases hx3.shape with rfl | ⟨_, _, _, rfl⟩ <;> rcases hy3.shape with rfl | ⟨_, _, _, rfl⟩ <;> rfl
     (repeat (first | with_reducible refine W.seq ?_ | with_reducible refine W.block ?_ | ((first | with_reducible refine W.reg ?_ | with_reducible refine W.skip ?_ | with_reducible refine W.exit ?_ | with_reducible refine W.ret ?_ | with_reducible refine W.ifc ?_); simp -dsimp (disch := first | omega | (simp only [go_sem]; omega)) only [go_sem, seval, Nat.reduceEqDiff, Nat.reduceLeDiff, ↓hxs3])))
     exact Fin.eq rfl ⟨rfl, x3, y2, rfl, hx3, hy3, hxy3⟩
end Go.Proofs.Ytbcnnomgfheaoaa
