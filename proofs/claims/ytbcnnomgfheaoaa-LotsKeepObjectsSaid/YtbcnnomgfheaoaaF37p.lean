/-
 Layer 37 (chunk), continued: Put, Drop and Move.
 Conditions: of each contract as it says.
-/
import Derived.Test.YtbcnnomgfheaoaaF37o
import Derived.Test.YtbcnnomgfheaoaaF37h
namespace Go.Proofs.Ytbcnnomgfheaoaa
open Go Go.E2 C37
set_option linter.unusedSimpArgs false
set_option maxHeartbeats 2000000
theorem cutN_len (c : Ct) (s : Str) : ∀ n k f, (cutN c s n k f).length ≤ n
 | 0, _, _ => Nat.le_refl _
 | n + 1, k, f => by
   have h1 := cutN_len c s n (k + 1) (k + 1)
   have h2 := cutN_len c s n (k + 1) f
   simp only [cutN]; split <;> simp <;> omega
theorem uses_bound {l : Lt} (hv : validL l) (hl : smallL l) : ∀ c ∈ l.cks, 0 ≤ c.uses ∧ c.uses ≤ 1000000000 := fun c hc => by
 obtain ⟨j, hj, rfl⟩ := List.getElem_of_mem hc
 have := (okU_get hj).1 (hv.2.2.1 j)
 have := usesOf_all hl l.cks[j].id
 omega
theorem dr_zero (G : Nat → Option (List D)) : DR G (.agg [.int .i64 0, .nilS, .nilS]) (eL ⟨0, [], []⟩) := DRs.agg (DRs.cons (.refl _) (DRs.cons .nil (DRs.cons .nil DRs.nil)))
theorem dra2 {G : Nat → Option (List D)} {a b : D} (n : Int) (h : DR G a b) : DRA G (.tup [a, .int .i64 n]) (.tup [b, .int .i64 n]) := .tup _ _ (DRs.cons h (DRs.cons (.refl _) DRs.nil))
theorem dra3 {G : Nat → Option (List D)} {a b x y : D} (n : Int) (h : DR G a b) (h2 : DR G x y) : DRA G (.tup [a, x, .int .i64 n]) (.tup [b, y, .int .i64 n]) := .tup _ _ (DRs.cons h (DRs.cons h2 (DRs.cons (.refl _) DRs.nil)))
theorem dr_lot {G : Nat → Option (List D)} {o : D} {l : Lt} (h : DR G o (eL l)) : ∃ a b c, o = .agg [a, b, c] ∧ sizeOk 3 (.agg [a, b, c]) = true := by
 unfold eL at h
 cases h with
 | refl => exact ⟨_, _, _, rfl, rfl⟩
 | agg xs _ hl h =>
  match xs, hl, h with
  | [a, b, c], _, h =>
   refine ⟨a, b, c, rfl, ?_⟩
   have h1 := (h 0 a _ rfl rfl).one
   have h2 := (h 1 b _ rfl rfl).one
   have h3 := (h 2 c _ rfl rfl).one
   have e1 : a.one = true := by rw [← h1]; rfl
   have e2 : b.one = true := by rw [← h2]; rfl
   have e3 : c.one = true := by rw [← h3]; rfl
   simp [sizeOk, D.cells, e1, e2, e3]
open Classical in
theorem Put_ok (l : Lt) (c : Ct) (id : Int) (cls data : Str) (hl : smallL l) : CallP Try.prog f_chunk_Put [eL l, eT c, .int .i64 id, .str cls, .str data] (· = .tup [eL (putR l c id cls data).1, .int .i64 (putR l c id cls data).2]) := by
 refine CallP.of_deep (callT_of_W fol chunk_Put_cp ?_)
 have hl1 := hl.1
 have hl2 := hl.2.1
 have hfar : far = 1099511627776 := rfl
 by_cases hv : validL l
 · have hpo := pairO hv.2.2.2
   by_cases hc : (cutR c data).2 = 0
   · by_cases hid : id < 1 ∨ id > far ∨ cls.length > 65536
     · have hR : putR l c id cls data = (⟨0, [], []⟩, 1) := by
        unfold putR; rw [if_pos hv, if_neg (by simp [hc]), if_pos hid]
       rw [hR]
       simp -dsimp (disch := first | omega | (simp only [go_sem]; omega)) only [go_sem, seval, Nat.reduceEqDiff, Nat.reduceLeDiff]
       (repeat' (first | with_reducible refine W.seq ?_ | with_reducible refine W.block ?_ | ((first | with_reducible refine W.reg ?_ | with_reducible refine W.skip ?_ | with_reducible refine W.exit ?_ | with_reducible refine W.ret ?_ | with_reducible refine W.ifc ?_ | (apply wC_P (Valid_ok l hl); (focus (simp -dsimp (disch := first | omega | (simp only [go_sem]; omega)) only [go_sem, seval, Nat.reduceEqDiff, Nat.reduceLeDiff, hv] <;> rfl)); rintro _ rfl; try simp -dsimp (disch := first | omega | (simp only [go_sem]; omega)) only [go_sem, seval, Nat.reduceEqDiff, Nat.reduceLeDiff, hv]) | (apply wC_P (Cut_ok c data); (focus (simp -dsimp (disch := first | omega | (simp only [go_sem]; omega)) only [go_sem, seval, Nat.reduceEqDiff, Nat.reduceLeDiff, hc] <;> rfl)); rintro _ rfl; try simp -dsimp (disch := first | omega | (simp only [go_sem]; omega)) only [go_sem, seval, Nat.reduceEqDiff, Nat.reduceLeDiff, hc]) | ((first | with_reducible refine wG_decE (fun _ hG => ?_) (fun _ hG => ?_) | with_reducible refine wG_decFE (fun _ hG => ?_) (fun _ hG => ?_)) <;> (try simp -dsimp only [hG, decide_true, decide_false, not_true_eq_false, not_false_eq_true]) <;> clear hG)) <;> (try simp -dsimp (disch := first | omega | (simp only [go_sem]; omega)) only [go_sem, seval, Nat.reduceEqDiff, Nat.reduceLeDiff, hv, hc])) | simp -dsimp (disch := first | omega | (simp only [go_sem]; omega)) only [go_sem, seval, Nat.reduceEqDiff, Nat.reduceLeDiff, hv, hc]))
       all_goals first | (exfalso; omega) | exact Fin.eq rfl ⟨rfl, _, dra2 _ (dr_zero _), rfl⟩
     · by_cases hk : known id l.obs
       · have hR : putR l c id cls data = (⟨0, [], []⟩, 9) := by
          unfold putR; rw [if_pos hv, if_neg (by simp [hc]), if_neg hid, if_pos hk]
         rw [hR]
         simp -dsimp (disch := first | omega | (simp only [go_sem]; omega)) only [go_sem, seval, Nat.reduceEqDiff, Nat.reduceLeDiff]
         (repeat' (first | with_reducible refine W.seq ?_ | with_reducible refine W.block ?_ | ((first | with_reducible refine W.reg ?_ | with_reducible refine W.skip ?_ | with_reducible refine W.exit ?_ | with_reducible refine W.ret ?_ | with_reducible refine W.ifc ?_ | (apply wC_P (Valid_ok l hl); (focus (simp -dsimp (disch := first | omega | (simp only [go_sem]; omega)) only [go_sem, seval, Nat.reduceEqDiff, Nat.reduceLeDiff, hv] <;> rfl)); rintro _ rfl; try simp -dsimp (disch := first | omega | (simp only [go_sem]; omega)) only [go_sem, seval, Nat.reduceEqDiff, Nat.reduceLeDiff, hv]) | (apply wC_P (Cut_ok c data); (focus (simp -dsimp (disch := first | omega | (simp only [go_sem]; omega)) only [go_sem, seval, Nat.reduceEqDiff, Nat.reduceLeDiff, hc] <;> rfl)); rintro _ rfl; try simp -dsimp (disch := first | omega | (simp only [go_sem]; omega)) only [go_sem, seval, Nat.reduceEqDiff, Nat.reduceLeDiff, hc]) | (apply wC_P (object_ok l id (by omega) hpo); (focus (simp -dsimp (disch := first | omega | (simp only [go_sem]; omega)) only [go_sem, seval, Nat.reduceEqDiff, Nat.reduceLeDiff, hk] <;> rfl)); rintro _ rfl; try simp -dsimp (disch := first | omega | (simp only [go_sem]; omega)) only [go_sem, seval, Nat.reduceEqDiff, Nat.reduceLeDiff, hk]) | ((first | with_reducible refine wG_decE (fun _ hG => ?_) (fun _ hG => ?_) | with_reducible refine wG_decFE (fun _ hG => ?_) (fun _ hG => ?_)) <;> (try simp -dsimp only [hG, decide_true, decide_false, not_true_eq_false, not_false_eq_true]) <;> clear hG)) <;> (try simp -dsimp (disch := first | omega | (simp only [go_sem]; omega)) only [go_sem, seval, Nat.reduceEqDiff, Nat.reduceLeDiff, hv, hc, hk])) | simp -dsimp (disch := first | omega | (simp only [go_sem]; omega)) only [go_sem, seval, Nat.reduceEqDiff, Nat.reduceLeDiff, hv, hc, hk]))
         all_goals first | (exfalso; omega) | exact Fin.eq rfl ⟨rfl, _, dra2 _ (dr_zero _), rfl⟩
       · have hR : putR l c id cls data = addL l id cls (cutR c data).1 := by
          unfold putR; rw [if_pos hv, if_neg (by simp [hc]), if_neg hid, if_neg hk]
         rw [hR]
         have hpre : AddPre l id cls (cutR c data).1 := by
          refine ⟨⟨hl1, hl2, ?_⟩, nameD_of hv.2.1, hpo, hk, ⟨by have := hv.1; omega, by have := hv.1; omega⟩, uses_bound hv hl⟩
          unfold cutR
          split
          · split
            · exact Nat.zero_le _
            · have := cutN_len c data data.length 0 0; unfold cutL; simp only; omega
          · exact Nat.zero_le _
         simp -dsimp (disch := first | omega | (simp only [go_sem]; omega)) only [go_sem, seval, Nat.reduceEqDiff, Nat.reduceLeDiff]
         (repeat' (first | with_reducible refine W.seq ?_ | with_reducible refine W.block ?_ | ((first | with_reducible refine W.reg ?_ | with_reducible refine W.skip ?_ | with_reducible refine W.exit ?_ | with_reducible refine W.ret ?_ | with_reducible refine W.ifc ?_ | (apply wC_P (Valid_ok l hl); (focus (simp -dsimp (disch := first | omega | (simp only [go_sem]; omega)) only [go_sem, seval, Nat.reduceEqDiff, Nat.reduceLeDiff, hv] <;> rfl)); rintro _ rfl; try simp -dsimp (disch := first | omega | (simp only [go_sem]; omega)) only [go_sem, seval, Nat.reduceEqDiff, Nat.reduceLeDiff, hv]) | (apply wC_P (Cut_ok c data); (focus (simp -dsimp (disch := first | omega | (simp only [go_sem]; omega)) only [go_sem, seval, Nat.reduceEqDiff, Nat.reduceLeDiff, hc] <;> rfl)); rintro _ rfl; try simp -dsimp (disch := first | omega | (simp only [go_sem]; omega)) only [go_sem, seval, Nat.reduceEqDiff, Nat.reduceLeDiff, hc]) | (apply wC_P (object_ok l id (by omega) hpo); (focus (simp -dsimp (disch := first | omega | (simp only [go_sem]; omega)) only [go_sem, seval, Nat.reduceEqDiff, Nat.reduceLeDiff, hk] <;> rfl)); rintro _ rfl; try simp -dsimp (disch := first | omega | (simp only [go_sem]; omega)) only [go_sem, seval, Nat.reduceEqDiff, Nat.reduceLeDiff, hk]) | ((first | with_reducible refine wG_decE (fun _ hG => ?_) (fun _ hG => ?_) | with_reducible refine wG_decFE (fun _ hG => ?_) (fun _ hG => ?_)) <;> (try simp -dsimp only [hG, decide_true, decide_false, not_true_eq_false, not_false_eq_true]) <;> clear hG)) <;> (try simp -dsimp (disch := first | omega | (simp only [go_sem]; omega)) only [go_sem, seval, Nat.reduceEqDiff, Nat.reduceLeDiff, hv, hc, hk])) | simp -dsimp (disch := first | omega | (simp only [go_sem]; omega)) only [go_sem, seval, Nat.reduceEqDiff, Nat.reduceLeDiff, hv, hc, hk]))
         all_goals try (exfalso; omega)
         all_goals
          apply wC_g (clone_ok l hl _ _)
          focus (simp -dsimp (disch := first | omega | (simp only [go_sem]; omega)) only [go_sem, seval, Nat.reduceEqDiff, Nat.reduceLeDiff] <;> fail)
          focus (simp -dsimp (disch := first | omega | (simp only [go_sem]; omega)) only [go_sem, seval, Nat.reduceEqDiff, Nat.reduceLeDiff] <;> rfl)
          rintro _ G1 ⟨x, y, rfl, hx, hy, hxy, hkp⟩
          simp -dsimp (disch := first | omega | (simp only [go_sem]; omega)) only [go_sem, seval, Nat.reduceEqDiff, Nat.reduceLeDiff]
          (repeat (first | with_reducible refine W.seq ?_ | with_reducible refine W.block ?_ | ((first | with_reducible refine W.reg ?_ | with_reducible refine W.skip ?_ | with_reducible refine W.exit ?_ | with_reducible refine W.ret ?_ | with_reducible refine W.ifc ?_); simp -dsimp (disch := first | omega | (simp only [go_sem]; omega)) only [go_sem, seval, Nat.reduceEqDiff, Nat.reduceLeDiff])))
          apply wC_g (add_ok l id cls (cutR c data).1 hpre x y _ hx hy hxy _)
          focus (simp -dsimp (disch := first | omega | (simp only [go_sem]; omega)) only [go_sem, seval, Nat.reduceEqDiff, Nat.reduceLeDiff] <;> fail)
          focus (simp -dsimp (disch := first | omega | (simp only [go_sem]; omega)) only [go_sem, seval, Nat.reduceEqDiff, Nat.reduceLeDiff] <;> rfl)
          rintro _ G2 ⟨o, rfl, hdr⟩
          obtain ⟨a, b, c', rfl, hso⟩ := dr_lot hdr
          simp -dsimp (disch := first | omega | (simp only [go_sem]; omega)) only [go_sem, seval, Nat.reduceEqDiff, Nat.reduceLeDiff, ↓hso]
          (repeat (first | with_reducible refine W.seq ?_ | with_reducible refine W.block ?_ | ((first | with_reducible refine W.reg ?_ | with_reducible refine W.skip ?_ | with_reducible refine W.exit ?_ | with_reducible refine W.ret ?_ | with_reducible refine W.ifc ?_); simp -dsimp (disch := first | omega | (simp only [go_sem]; omega)) only [go_sem, seval, Nat.reduceEqDiff, Nat.reduceLeDiff, ↓hso])))
          exact Fin.eq rfl ⟨rfl, _, dra2 _ hdr, rfl⟩
   · have hR : putR l c id cls data = (⟨0, [], []⟩, (cutR c data).2) := by
      unfold putR; rw [if_pos hv, if_pos hc]
     rw [hR]
     simp -dsimp (disch := first | omega | (simp only [go_sem]; omega)) only [go_sem, seval, Nat.reduceEqDiff, Nat.reduceLeDiff]
     (repeat' (first | with_reducible refine W.seq ?_ | with_reducible refine W.block ?_ | ((first | with_reducible refine W.reg ?_ | with_reducible refine W.skip ?_ | with_reducible refine W.exit ?_ | with_reducible refine W.ret ?_ | with_reducible refine W.ifc ?_ | (apply wC_P (Valid_ok l hl); (focus (simp -dsimp (disch := first | omega | (simp only [go_sem]; omega)) only [go_sem, seval, Nat.reduceEqDiff, Nat.reduceLeDiff, hv] <;> rfl)); rintro _ rfl; try simp -dsimp (disch := first | omega | (simp only [go_sem]; omega)) only [go_sem, seval, Nat.reduceEqDiff, Nat.reduceLeDiff, hv]) | (apply wC_P (Cut_ok c data); (focus (simp -dsimp (disch := first | omega | (simp only [go_sem]; omega)) only [go_sem, seval, Nat.reduceEqDiff, Nat.reduceLeDiff, hc] <;> rfl)); rintro _ rfl; try simp -dsimp (disch := first | omega | (simp only [go_sem]; omega)) only [go_sem, seval, Nat.reduceEqDiff, Nat.reduceLeDiff, hc]) | ((first | with_reducible refine wG_decE (fun _ hG => ?_) (fun _ hG => ?_) | with_reducible refine wG_decFE (fun _ hG => ?_) (fun _ hG => ?_)) <;> (try simp -dsimp only [hG, decide_true, decide_false, not_true_eq_false, not_false_eq_true]) <;> clear hG)) <;> (try simp -dsimp (disch := first | omega | (simp only [go_sem]; omega)) only [go_sem, seval, Nat.reduceEqDiff, Nat.reduceLeDiff, hv, hc])) | simp -dsimp (disch := first | omega | (simp only [go_sem]; omega)) only [go_sem, seval, Nat.reduceEqDiff, Nat.reduceLeDiff, hv, hc]))
     all_goals first | (exfalso; omega) | exact Fin.eq rfl ⟨rfl, _, dra2 _ (dr_zero _), rfl⟩
 · have hR : putR l c id cls data = (⟨0, [], []⟩, 1) := by
    unfold putR; rw [if_neg hv]
   rw [hR]
   simp -dsimp (disch := first | omega | (simp only [go_sem]; omega)) only [go_sem, seval, Nat.reduceEqDiff, Nat.reduceLeDiff]
   (repeat' (first | with_reducible refine W.seq ?_ | with_reducible refine W.block ?_ | ((first | with_reducible refine W.reg ?_ | with_reducible refine W.skip ?_ | with_reducible refine W.exit ?_ | with_reducible refine W.ret ?_ | with_reducible refine W.ifc ?_ | (apply wC_P (Valid_ok l hl); (focus (simp -dsimp (disch := first | omega | (simp only [go_sem]; omega)) only [go_sem, seval, Nat.reduceEqDiff, Nat.reduceLeDiff, hv] <;> rfl)); rintro _ rfl; try simp -dsimp (disch := first | omega | (simp only [go_sem]; omega)) only [go_sem, seval, Nat.reduceEqDiff, Nat.reduceLeDiff, hv]) | ((first | with_reducible refine wG_decE (fun _ hG => ?_) (fun _ hG => ?_) | with_reducible refine wG_decFE (fun _ hG => ?_) (fun _ hG => ?_)) <;> (try simp -dsimp only [hG, decide_true, decide_false, not_true_eq_false, not_false_eq_true]) <;> clear hG)) <;> (try simp -dsimp (disch := first | omega | (simp only [go_sem]; omega)) only [go_sem, seval, Nat.reduceEqDiff, Nat.reduceLeDiff, hv])) | simp -dsimp (disch := first | omega | (simp only [go_sem]; omega)) only [go_sem, seval, Nat.reduceEqDiff, Nat.reduceLeDiff, hv]))
   exact Fin.eq rfl ⟨rfl, _, dra2 _ (dr_zero _), rfl⟩
open Classical in
theorem Drop_ok (l : Lt) (id : Int) (hl : smallL l) : CallP Try.prog f_chunk_Drop [eL l, .int .i64 id] (· = .tup [eL (dropR l id).1, .list ((dropR l id).2.1.map eI), .int .i64 (dropR l id).2.2]) := by
 refine CallP.of_deep (callT_of_W fol chunk_Drop_cp ?_)
 have hl1 := hl.1
 have hl2 := hl.2.1
 by_cases hv : validL l
 · have hpo := pairO hv.2.2.2
   by_cases hk : known id l.obs
   · obtain ⟨hp, hid, hf⟩ := place_known hpo hk
     have hR : dropR l id = ((without l id).1, (without l id).2, 0) := by
      unfold dropR objOf; rw [if_pos hv, hf]
     rw [hR]
     simp -dsimp (disch := first | omega | (simp only [go_sem]; omega)) only [go_sem, seval, Nat.reduceEqDiff, Nat.reduceLeDiff]
     (repeat' (first | with_reducible refine W.seq ?_ | with_reducible refine W.block ?_ | ((first | with_reducible refine W.reg ?_ | with_reducible refine W.skip ?_ | with_reducible refine W.exit ?_ | with_reducible refine W.ret ?_ | with_reducible refine W.ifc ?_ | (apply wC_P (Valid_ok l hl); (focus (simp -dsimp (disch := first | omega | (simp only [go_sem]; omega)) only [go_sem, seval, Nat.reduceEqDiff, Nat.reduceLeDiff, hv] <;> rfl)); rintro _ rfl; try simp -dsimp (disch := first | omega | (simp only [go_sem]; omega)) only [go_sem, seval, Nat.reduceEqDiff, Nat.reduceLeDiff, hv]) | (apply wC_P (object_ok l id (by omega) hpo); (focus (simp -dsimp (disch := first | omega | (simp only [go_sem]; omega)) only [go_sem, seval, Nat.reduceEqDiff, Nat.reduceLeDiff, hk] <;> rfl)); rintro _ rfl; try simp -dsimp (disch := first | omega | (simp only [go_sem]; omega)) only [go_sem, seval, Nat.reduceEqDiff, Nat.reduceLeDiff, hk]) | ((first | with_reducible refine wG_decE (fun _ hG => ?_) (fun _ hG => ?_) | with_reducible refine wG_decFE (fun _ hG => ?_) (fun _ hG => ?_)) <;> (try simp -dsimp only [hG, decide_true, decide_false, not_true_eq_false, not_false_eq_true]) <;> clear hG)) <;> (try simp -dsimp (disch := first | omega | (simp only [go_sem]; omega)) only [go_sem, seval, Nat.reduceEqDiff, Nat.reduceLeDiff, hv, hk])) | simp -dsimp (disch := first | omega | (simp only [go_sem]; omega)) only [go_sem, seval, Nat.reduceEqDiff, Nat.reduceLeDiff, hv, hk]))
     apply wC_g (remove_ok l hv hl (place id l.obs) hp _ _)
     focus (simp -dsimp (disch := first | omega | (simp only [go_sem]; omega)) only [go_sem, seval, Nat.reduceEqDiff, Nat.reduceLeDiff] <;> fail)
     focus (simp -dsimp (disch := first | omega | (simp only [go_sem]; omega)) only [go_sem, seval, Nat.reduceEqDiff, Nat.reduceLeDiff] <;> rfl)
     rw [hid]
     rintro _ G2 ⟨x, y, rfl, hx, hy, hxy⟩
     have hso : sizeOk 3 (.agg [.int .i64 l.next, x, y]) = true := by rcases hx.shape with rfl | ⟨_, _, _, rfl⟩ <;> rcases hy.shape with rfl | ⟨_, _, _, rfl⟩ <;> rfl
     simp -dsimp (disch := first | omega | (simp only [go_sem]; omega)) only [go_sem, seval, Nat.reduceEqDiff, Nat.reduceLeDiff, ↓hso]
     (repeat (first | with_reducible refine W.seq ?_ | with_reducible refine W.block ?_ | ((first | with_reducible refine W.reg ?_ | with_reducible refine W.skip ?_ | with_reducible refine W.exit ?_ | with_reducible refine W.ret ?_ | with_reducible refine W.ifc ?_); simp -dsimp (disch := first | omega | (simp only [go_sem]; omega)) only [go_sem, seval, Nat.reduceEqDiff, Nat.reduceLeDiff, ↓hso])))
     exact Fin.eq rfl ⟨rfl, _, dra3 _ (DRs.agg (DRs.cons (.refl _) (DRs.cons hx.dr (DRs.cons hy.dr DRs.nil)))) (.refl _), rfl⟩
   · have hf := find_unknown hk
     have hR : dropR l id = (⟨0, [], []⟩, [], 8) := by
      unfold dropR objOf; rw [if_pos hv, hf]
     rw [hR]
     simp -dsimp (disch := first | omega | (simp only [go_sem]; omega)) only [go_sem, seval, Nat.reduceEqDiff, Nat.reduceLeDiff]
     (repeat' (first | with_reducible refine W.seq ?_ | with_reducible refine W.block ?_ | ((first | with_reducible refine W.reg ?_ | with_reducible refine W.skip ?_ | with_reducible refine W.exit ?_ | with_reducible refine W.ret ?_ | with_reducible refine W.ifc ?_ | (apply wC_P (Valid_ok l hl); (focus (simp -dsimp (disch := first | omega | (simp only [go_sem]; omega)) only [go_sem, seval, Nat.reduceEqDiff, Nat.reduceLeDiff, hv] <;> rfl)); rintro _ rfl; try simp -dsimp (disch := first | omega | (simp only [go_sem]; omega)) only [go_sem, seval, Nat.reduceEqDiff, Nat.reduceLeDiff, hv]) | (apply wC_P (object_ok l id (by omega) hpo); (focus (simp -dsimp (disch := first | omega | (simp only [go_sem]; omega)) only [go_sem, seval, Nat.reduceEqDiff, Nat.reduceLeDiff, hk] <;> rfl)); rintro _ rfl; try simp -dsimp (disch := first | omega | (simp only [go_sem]; omega)) only [go_sem, seval, Nat.reduceEqDiff, Nat.reduceLeDiff, hk]) | ((first | with_reducible refine wG_decE (fun _ hG => ?_) (fun _ hG => ?_) | with_reducible refine wG_decFE (fun _ hG => ?_) (fun _ hG => ?_)) <;> (try simp -dsimp only [hG, decide_true, decide_false, not_true_eq_false, not_false_eq_true]) <;> clear hG)) <;> (try simp -dsimp (disch := first | omega | (simp only [go_sem]; omega)) only [go_sem, seval, Nat.reduceEqDiff, Nat.reduceLeDiff, hv, hk])) | simp -dsimp (disch := first | omega | (simp only [go_sem]; omega)) only [go_sem, seval, Nat.reduceEqDiff, Nat.reduceLeDiff, hv, hk]))
     exact Fin.eq rfl ⟨rfl, _, dra3 _ (dr_zero _) .nil, rfl⟩
 · have hR : dropR l id = (⟨0, [], []⟩, [], 1) := by
    unfold dropR; rw [if_neg hv]
   rw [hR]
   simp -dsimp (disch := first | omega | (simp only [go_sem]; omega)) only [go_sem, seval, Nat.reduceEqDiff, Nat.reduceLeDiff]
   (repeat' (first | with_reducible refine W.seq ?_ | with_reducible refine W.block ?_ | ((first | with_reducible refine W.reg ?_ | with_reducible refine W.skip ?_ | with_reducible refine W.exit ?_ | with_reducible refine W.ret ?_ | with_reducible refine W.ifc ?_ | (apply wC_P (Valid_ok l hl); (focus (simp -dsimp (disch := first | omega | (simp only [go_sem]; omega)) only [go_sem, seval, Nat.reduceEqDiff, Nat.reduceLeDiff, hv] <;> rfl)); rintro _ rfl; try simp -dsimp (disch := first | omega | (simp only [go_sem]; omega)) only [go_sem, seval, Nat.reduceEqDiff, Nat.reduceLeDiff, hv]) | ((first | with_reducible refine wG_decE (fun _ hG => ?_) (fun _ hG => ?_) | with_reducible refine wG_decFE (fun _ hG => ?_) (fun _ hG => ?_)) <;> (try simp -dsimp only [hG, decide_true, decide_false, not_true_eq_false, not_false_eq_true]) <;> clear hG)) <;> (try simp -dsimp (disch := first | omega | (simp only [go_sem]; omega)) only [go_sem, seval, Nat.reduceEqDiff, Nat.reduceLeDiff, hv])) | simp -dsimp (disch := first | omega | (simp only [go_sem]; omega)) only [go_sem, seval, Nat.reduceEqDiff, Nat.reduceLeDiff, hv]))
   exact Fin.eq rfl ⟨rfl, _, dra3 _ (dr_zero _) .nil, rfl⟩
theorem usesOf_filter_le (l : List Ob) (k : Nat) (hk : k < l.length) (c : Int) : usesOf (l.eraseIdx k) c ≤ usesOf l c := by
 have := usesOf_erase hk c; omega
theorem rest_pre {l : Lt} (hv : validL l) (hl : smallL l) {id : Int} {cls : Str} (hk : known id l.obs) {parts : List Str} (hp : parts.length ≤ 70000) : AddPre (without l id).1 id cls parts := by
 have hpo := pairO hv.2.2.2
 obtain ⟨hp2, hid, hf⟩ := place_known hpo hk
 have he := without_eq hpo hp2
 rw [hid] at he
 rw [he]
 have hlen := keepC_len (l.obs.eraseIdx (place id l.obs)) l.cks
 have hl1 := hl.1
 have hl2 := hl.2.1
 have hel : (l.obs.eraseIdx (place id l.obs)).length = l.obs.length - 1 := List.length_eraseIdx_of_lt hp2
 refine ⟨⟨by simp only; omega, by simp only; omega, hp⟩, ?_, hpo.sublist (List.eraseIdx_sublist _ _), ?_, ⟨by have := hv.1; simp only; omega, by have := hv.1; have hfar : far = 1099511627776 := rfl; simp only; omega⟩, ?_⟩
 · have := nameD_of hv.2.1
   unfold NameD keepC at *
   refine List.Pairwise.sublist List.filter_sublist ?_
   rw [List.pairwise_map]; exact this
 · rintro ⟨o, ho, e⟩
   have hpw := List.pairwise_iff_getElem.1 hpo
   rw [List.mem_eraseIdx_iff_getElem] at ho
   obtain ⟨j, hj, hne, rfl⟩ := ho
   rw [← hid] at e
   rcases Nat.lt_trichotomy j (place id l.obs) with h | h | h
   · have := hpw j _ hj hp2 h; omega
   · exact hne h
   · have := hpw _ j hp2 hj h; omega
 · intro c hc
   unfold keepC at hc
   obtain ⟨hc, _⟩ := List.mem_filter.1 hc
   obtain ⟨c0, hc0, rfl⟩ := List.mem_map.1 hc
   have h1 := usesOf_filter_le l.obs _ hp2 c0.id
   have h2 := usesOf_all hl c0.id
   simp only; omega
open Classical in
theorem Move_ok (l : Lt) (id : Int) (cls : Str) (hl : smallL l) : CallP Try.prog f_chunk_Move [eL l, .int .i64 id, .str cls] (· = .tup [eL (moveR l id cls).1, .list ((moveR l id cls).2.1.map eI), .int .i64 (moveR l id cls).2.2]) := by
 refine CallP.of_deep (callT_of_W fol chunk_Move_cp ?_)
 have hl1 := hl.1
 have hl2 := hl.2.1
 by_cases hv : validL l
 · have hpo := pairO hv.2.2.2
   have hpa := pairA hv.2.1
   by_cases hk : known id l.obs
   · obtain ⟨hp, hid, hf⟩ := place_known hpo hk
     have hch := hl.2.2 _ (List.getElem_mem hp)
     by_cases hcl : cls.length > 65536
     · have hR : moveR l id cls = (⟨0, [], []⟩, [], 1) := by
        unfold moveR objOf; rw [if_pos hv, hf]; dsimp only; rw [if_pos hcl]
       rw [hR]
       simp -dsimp (disch := first | omega | (simp only [go_sem]; omega)) only [go_sem, seval, Nat.reduceEqDiff, Nat.reduceLeDiff]
       (repeat' (first | with_reducible refine W.seq ?_ | with_reducible refine W.block ?_ | ((first | with_reducible refine W.reg ?_ | with_reducible refine W.skip ?_ | with_reducible refine W.exit ?_ | with_reducible refine W.ret ?_ | with_reducible refine W.ifc ?_ | (apply wC_P (Valid_ok l hl); (focus (simp -dsimp (disch := first | omega | (simp only [go_sem]; omega)) only [go_sem, seval, Nat.reduceEqDiff, Nat.reduceLeDiff, hv] <;> rfl)); rintro _ rfl; try simp -dsimp (disch := first | omega | (simp only [go_sem]; omega)) only [go_sem, seval, Nat.reduceEqDiff, Nat.reduceLeDiff, hv]) | (apply wC_P (object_ok l id (by omega) hpo); (focus (simp -dsimp (disch := first | omega | (simp only [go_sem]; omega)) only [go_sem, seval, Nat.reduceEqDiff, Nat.reduceLeDiff, hk] <;> rfl)); rintro _ rfl; try simp -dsimp (disch := first | omega | (simp only [go_sem]; omega)) only [go_sem, seval, Nat.reduceEqDiff, Nat.reduceLeDiff, hk]) | ((first | with_reducible refine wG_decE (fun _ hG => ?_) (fun _ hG => ?_) | with_reducible refine wG_decFE (fun _ hG => ?_) (fun _ hG => ?_)) <;> (try simp -dsimp only [hG, decide_true, decide_false, not_true_eq_false, not_false_eq_true]) <;> clear hG)) <;> (try simp -dsimp (disch := first | omega | (simp only [go_sem]; omega)) only [go_sem, seval, Nat.reduceEqDiff, Nat.reduceLeDiff, hv, hk])) | simp -dsimp (disch := first | omega | (simp only [go_sem]; omega)) only [go_sem, seval, Nat.reduceEqDiff, Nat.reduceLeDiff, hv, hk]))
       all_goals first | (exfalso; omega) | exact Fin.eq rfl ⟨rfl, _, dra3 _ (dr_zero _) .nil, rfl⟩
     · by_cases hce : l.obs[place id l.obs].cls = cls
       · have hR : moveR l id cls = (l, [], 0) := by
          unfold moveR objOf; rw [if_pos hv, hf]; dsimp only; rw [if_neg hcl, if_pos hce]
         rw [hR]
         simp -dsimp (disch := first | omega | (simp only [go_sem]; omega)) only [go_sem, seval, Nat.reduceEqDiff, Nat.reduceLeDiff]
         (repeat' (first | with_reducible refine W.seq ?_ | with_reducible refine W.block ?_ | ((first | with_reducible refine W.reg ?_ | with_reducible refine W.skip ?_ | with_reducible refine W.exit ?_ | with_reducible refine W.ret ?_ | with_reducible refine W.ifc ?_ | (apply wC_P (Valid_ok l hl); (focus (simp -dsimp (disch := first | omega | (simp only [go_sem]; omega)) only [go_sem, seval, Nat.reduceEqDiff, Nat.reduceLeDiff, hv] <;> rfl)); rintro _ rfl; try simp -dsimp (disch := first | omega | (simp only [go_sem]; omega)) only [go_sem, seval, Nat.reduceEqDiff, Nat.reduceLeDiff, hv]) | (apply wC_P (object_ok l id (by omega) hpo); (focus (simp -dsimp (disch := first | omega | (simp only [go_sem]; omega)) only [go_sem, seval, Nat.reduceEqDiff, Nat.reduceLeDiff, hk] <;> rfl)); rintro _ rfl; try simp -dsimp (disch := first | omega | (simp only [go_sem]; omega)) only [go_sem, seval, Nat.reduceEqDiff, Nat.reduceLeDiff, hk]) | ((first | with_reducible refine wG_decE (fun _ hG => ?_) (fun _ hG => ?_) | with_reducible refine wG_decFE (fun _ hG => ?_) (fun _ hG => ?_)) <;> (try simp -dsimp only [hG, decide_true, decide_false, not_true_eq_false, not_false_eq_true]) <;> clear hG)) <;> (try simp -dsimp (disch := first | omega | (simp only [go_sem]; omega)) only [go_sem, seval, Nat.reduceEqDiff, Nat.reduceLeDiff, hv, hk, hce])) | simp -dsimp (disch := first | omega | (simp only [go_sem]; omega)) only [go_sem, seval, Nat.reduceEqDiff, Nat.reduceLeDiff, hv, hk, hce]))
         all_goals try (exfalso; omega)
         all_goals
          apply wC_g (clone_ok l hl _ _)
          focus (simp -dsimp (disch := first | omega | (simp only [go_sem]; omega)) only [go_sem, seval, Nat.reduceEqDiff, Nat.reduceLeDiff] <;> fail)
          focus (simp -dsimp (disch := first | omega | (simp only [go_sem]; omega)) only [go_sem, seval, Nat.reduceEqDiff, Nat.reduceLeDiff] <;> rfl)
          rintro _ G2 ⟨x, y, rfl, hx, hy, hxy, hkp⟩
          have hso : sizeOk 3 (.agg [.int .i64 l.next, x, y]) = true := by rcases hx.shape with rfl | ⟨_, _, _, rfl⟩ <;> rcases hy.shape with rfl | ⟨_, _, _, rfl⟩ <;> rfl
          simp -dsimp (disch := first | omega | (simp only [go_sem]; omega)) only [go_sem, seval, Nat.reduceEqDiff, Nat.reduceLeDiff, ↓hso]
          (repeat (first | with_reducible refine W.seq ?_ | with_reducible refine W.block ?_ | ((first | with_reducible refine W.reg ?_ | with_reducible refine W.skip ?_ | with_reducible refine W.exit ?_ | with_reducible refine W.ret ?_ | with_reducible refine W.ifc ?_); simp -dsimp (disch := first | omega | (simp only [go_sem]; omega)) only [go_sem, seval, Nat.reduceEqDiff, Nat.reduceLeDiff, ↓hso])))
          exact Fin.eq rfl ⟨rfl, _, dra3 _ (DRs.agg (DRs.cons (.refl _) (DRs.cons hx.dr (DRs.cons hy.dr DRs.nil)))) .nil, rfl⟩
       · have hpl : (textsOf l.cks l.obs[place id l.obs].chunks).length ≤ 70000 := by
          have h1 := (okO_get hp).1 (hv.2.2.2 _)
          have h2 := ids_le hv.2.1 (ids := l.obs[place id l.obs].chunks) fun i hi => by obtain ⟨c, hc, e, _⟩ := h1.2.2.2.2.1 i hi; exact ⟨c, hc, e⟩
          unfold textsOf; rw [List.length_map]; omega
         have hpre := rest_pre (cls := cls) hv hl hk hpl
         simp -dsimp (disch := first | omega | (simp only [go_sem]; omega)) only [go_sem, seval, Nat.reduceEqDiff, Nat.reduceLeDiff]
         (repeat' (first | with_reducible refine W.seq ?_ | with_reducible refine W.block ?_ | ((first | with_reducible refine W.reg ?_ | with_reducible refine W.skip ?_ | with_reducible refine W.exit ?_ | with_reducible refine W.ret ?_ | with_reducible refine W.ifc ?_ | (apply wC_P (Valid_ok l hl); (focus (simp -dsimp (disch := first | omega | (simp only [go_sem]; omega)) only [go_sem, seval, Nat.reduceEqDiff, Nat.reduceLeDiff, hv] <;> rfl)); rintro _ rfl; try simp -dsimp (disch := first | omega | (simp only [go_sem]; omega)) only [go_sem, seval, Nat.reduceEqDiff, Nat.reduceLeDiff, hv]) | (apply wC_P (object_ok l id (by omega) hpo); (focus (simp -dsimp (disch := first | omega | (simp only [go_sem]; omega)) only [go_sem, seval, Nat.reduceEqDiff, Nat.reduceLeDiff, hk] <;> rfl)); rintro _ rfl; try simp -dsimp (disch := first | omega | (simp only [go_sem]; omega)) only [go_sem, seval, Nat.reduceEqDiff, Nat.reduceLeDiff, hk]) | ((first | with_reducible refine wG_decE (fun _ hG => ?_) (fun _ hG => ?_) | with_reducible refine wG_decFE (fun _ hG => ?_) (fun _ hG => ?_)) <;> (try simp -dsimp only [hG, decide_true, decide_false, not_true_eq_false, not_false_eq_true]) <;> clear hG)) <;> (try simp -dsimp (disch := first | omega | (simp only [go_sem]; omega)) only [go_sem, seval, Nat.reduceEqDiff, Nat.reduceLeDiff, hv, hk, hce])) | simp -dsimp (disch := first | omega | (simp only [go_sem]; omega)) only [go_sem, seval, Nat.reduceEqDiff, Nat.reduceLeDiff, hv, hk, hce]))
         all_goals try (exfalso; omega)
         all_goals
          apply wC_g (remove_ok l hv hl (place id l.obs) hp _ _)
          focus (simp -dsimp (disch := first | omega | (simp only [go_sem]; omega)) only [go_sem, seval, Nat.reduceEqDiff, Nat.reduceLeDiff] <;> fail)
          focus (simp -dsimp (disch := first | omega | (simp only [go_sem]; omega)) only [go_sem, seval, Nat.reduceEqDiff, Nat.reduceLeDiff] <;> rfl)
          rw [hid]
          rintro _ G2 ⟨x, y, rfl, hx, hy, hxy⟩
          have hnx : (without l id).1.next = l.next := rfl
          have hso : sizeOk 3 (.agg [.int .i64 l.next, x, y]) = true := by rcases hx.shape with rfl | ⟨_, _, _, rfl⟩ <;> rcases hy.shape with rfl | ⟨_, _, _, rfl⟩ <;> rfl
          simp -dsimp (disch := first | omega | (simp only [go_sem]; omega)) only [go_sem, seval, Nat.reduceEqDiff, Nat.reduceLeDiff, ↓hso]
          (repeat' (first | with_reducible refine W.seq ?_ | with_reducible refine W.block ?_ | ((first | with_reducible refine W.reg ?_ | with_reducible refine W.skip ?_ | with_reducible refine W.exit ?_ | with_reducible refine W.ret ?_ | with_reducible refine W.ifc ?_ | (apply wC_P (parts_ok l l.obs[place id l.obs] (by omega) hch hpa); (focus (simp -dsimp (disch := first | omega | (simp only [go_sem]; omega)) only [go_sem, seval, Nat.reduceEqDiff, Nat.reduceLeDiff] <;> rfl)); rintro _ rfl) | ((first | with_reducible refine wG_decE (fun _ hG => ?_) (fun _ hG => ?_) | with_reducible refine wG_decFE (fun _ hG => ?_) (fun _ hG => ?_)) <;> (try simp -dsimp only [hG, decide_true, decide_false, not_true_eq_false, not_false_eq_true]) <;> clear hG)) <;> (try simp -dsimp (disch := first | omega | (simp only [go_sem]; omega)) only [go_sem, seval, Nat.reduceEqDiff, Nat.reduceLeDiff, ↓hso])) | simp -dsimp (disch := first | omega | (simp only [go_sem]; omega)) only [go_sem, seval, Nat.reduceEqDiff, Nat.reduceLeDiff, ↓hso]))
          apply wC_g2 (add_ok (without l id).1 id cls (textsOf l.cks l.obs[place id l.obs].chunks) hpre x y _ hx hy hxy _)
          focus (simp -dsimp (disch := first | omega | (simp only [go_sem]; omega)) only [go_sem, seval, Nat.reduceEqDiff, Nat.reduceLeDiff] <;> fail)
          focus (simp -dsimp (disch := first | omega | (simp only [go_sem]; omega)) only [go_sem, seval, Nat.reduceEqDiff, Nat.reduceLeDiff] <;> rfl)
          rintro _ G3 ⟨o, rfl, hdr⟩
          obtain ⟨a, b, c', rfl, hso2⟩ := dr_lot hdr
          simp -dsimp (disch := first | omega | (simp only [go_sem]; omega)) only [go_sem, seval, Nat.reduceEqDiff, Nat.reduceLeDiff, ↓hso2]
          (repeat' (first | with_reducible refine W.seq ?_ | with_reducible refine W.block ?_ | ((first | with_reducible refine W.reg ?_ | with_reducible refine W.skip ?_ | with_reducible refine W.exit ?_ | with_reducible refine W.ret ?_ | with_reducible refine W.ifc ?_ | ((first | with_reducible refine wG_decE (fun _ hG => ?_) (fun _ hG => ?_) | with_reducible refine wG_decFE (fun _ hG => ?_) (fun _ hG => ?_)) <;> (try simp -dsimp only [hG, decide_true, decide_false, not_true_eq_false, not_false_eq_true]) <;> clear hG)) <;> (try simp -dsimp (disch := first | omega | (simp only [go_sem]; omega)) only [go_sem, seval, Nat.reduceEqDiff, Nat.reduceLeDiff, ↓hso2])) | simp -dsimp (disch := first | omega | (simp only [go_sem]; omega)) only [go_sem, seval, Nat.reduceEqDiff, Nat.reduceLeDiff, ↓hso2]))
          · have hR : moveR l id cls = (⟨0, [], []⟩, [], (addL (without l id).1 id cls (textsOf l.cks l.obs[place id l.obs].chunks)).2) := by
             unfold moveR objOf; rw [if_pos hv, hf]; dsimp only; rw [if_neg hcl, if_neg hce, if_pos (by assumption)]
            rw [hR]
            exact Fin.eq rfl ⟨rfl, _, dra3 _ (dr_zero _) .nil, rfl⟩
          · have he0 : (addL (without l id).1 id cls (textsOf l.cks l.obs[place id l.obs].chunks)).2 = 0 := Decidable.of_not_not (by assumption)
            have hR : moveR l id cls = ((addL (without l id).1 id cls (textsOf l.cks l.obs[place id l.obs].chunks)).1, (without l id).2, 0) := by
             unfold moveR objOf; rw [if_pos hv, hf]; dsimp only; rw [if_neg hcl, if_neg hce, if_neg (by rw [he0]; simp)]
            rw [hR]
            exact Fin.eq rfl ⟨rfl, _, dra3 _ hdr (.refl _), rfl⟩
   · have hf := find_unknown hk
     have hR : moveR l id cls = (⟨0, [], []⟩, [], 8) := by
      unfold moveR objOf; rw [if_pos hv, hf]
     rw [hR]
     simp -dsimp (disch := first | omega | (simp only [go_sem]; omega)) only [go_sem, seval, Nat.reduceEqDiff, Nat.reduceLeDiff]
     (repeat' (first | with_reducible refine W.seq ?_ | with_reducible refine W.block ?_ | ((first | with_reducible refine W.reg ?_ | with_reducible refine W.skip ?_ | with_reducible refine W.exit ?_ | with_reducible refine W.ret ?_ | with_reducible refine W.ifc ?_ | (apply wC_P (Valid_ok l hl); (focus (simp -dsimp (disch := first | omega | (simp only [go_sem]; omega)) only [go_sem, seval, Nat.reduceEqDiff, Nat.reduceLeDiff, hv] <;> rfl)); rintro _ rfl; try simp -dsimp (disch := first | omega | (simp only [go_sem]; omega)) only [go_sem, seval, Nat.reduceEqDiff, Nat.reduceLeDiff, hv]) | (apply wC_P (object_ok l id (by omega) hpo); (focus (simp -dsimp (disch := first | omega | (simp only [go_sem]; omega)) only [go_sem, seval, Nat.reduceEqDiff, Nat.reduceLeDiff, hk] <;> rfl)); rintro _ rfl; try simp -dsimp (disch := first | omega | (simp only [go_sem]; omega)) only [go_sem, seval, Nat.reduceEqDiff, Nat.reduceLeDiff, hk]) | ((first | with_reducible refine wG_decE (fun _ hG => ?_) (fun _ hG => ?_) | with_reducible refine wG_decFE (fun _ hG => ?_) (fun _ hG => ?_)) <;> (try simp -dsimp only [hG, decide_true, decide_false, not_true_eq_false, not_false_eq_true]) <;> clear hG)) <;> (try simp -dsimp (disch := first | omega | (simp only [go_sem]; omega)) only [go_sem, seval, Nat.reduceEqDiff, Nat.reduceLeDiff, hv, hk])) | simp -dsimp (disch := first | omega | (simp only [go_sem]; omega)) only [go_sem, seval, Nat.reduceEqDiff, Nat.reduceLeDiff, hv, hk]))
     exact Fin.eq rfl ⟨rfl, _, dra3 _ (dr_zero _) .nil, rfl⟩
 · have hR : moveR l id cls = (⟨0, [], []⟩, [], 1) := by
    unfold moveR; rw [if_neg hv]
   rw [hR]
   simp -dsimp (disch := first | omega | (simp only [go_sem]; omega)) only [go_sem, seval, Nat.reduceEqDiff, Nat.reduceLeDiff]
   (repeat' (first | with_reducible refine W.seq ?_ | with_reducible refine W.block ?_ | ((first | with_reducible refine W.reg ?_ | with_reducible refine W.skip ?_ | with_reducible refine W.exit ?_ | with_reducible refine W.ret ?_ | with_reducible refine W.ifc ?_ | (apply wC_P (Valid_ok l hl); (focus (simp -dsimp (disch := first | omega | (simp only [go_sem]; omega)) only [go_sem, seval, Nat.reduceEqDiff, Nat.reduceLeDiff, hv] <;> rfl)); rintro _ rfl; try simp -dsimp (disch := first | omega | (simp only [go_sem]; omega)) only [go_sem, seval, Nat.reduceEqDiff, Nat.reduceLeDiff, hv]) | ((first | with_reducible refine wG_decE (fun _ hG => ?_) (fun _ hG => ?_) | with_reducible refine wG_decFE (fun _ hG => ?_) (fun _ hG => ?_)) <;> (try simp -dsimp only [hG, decide_true, decide_false, not_true_eq_false, not_false_eq_true]) <;> clear hG)) <;> (try simp -dsimp (disch := first | omega | (simp only [go_sem]; omega)) only [go_sem, seval, Nat.reduceEqDiff, Nat.reduceLeDiff, hv])) | simp -dsimp (disch := first | omega | (simp only [go_sem]; omega)) only [go_sem, seval, Nat.reduceEqDiff, Nat.reduceLeDiff, hv]))
   exact Fin.eq rfl ⟨rfl, _, dra3 _ (dr_zero _) .nil, rfl⟩
end Go.Proofs.Ytbcnnomgfheaoaa
