/-
 Layer 21 (disk), continued: what is found of a sector after a failure.
 Conditions: of each contract as it says.
-/
import Derived.Test.YtioojmlhmhgeeaaF22d
namespace Go.Proofs.Ytioojmlhmhgeeaa
open Go Go.E2 C22
set_option linter.unusedSimpArgs false
set_option maxHeartbeats 1000000
theorem rem_bounds (n : Nat) (x : Int) : -((n : Int) + 3) < x.tmod (n + 3) ∧ x.tmod (n + 3) < n + 3 := by
 have h := Int.tmod_lt_of_pos x (by omega : (0 : Int) < n + 3)
 have h2 := Int.lt_tmod_of_pos x (by omega : (0 : Int) < n + 3)
 omega
theorem rem_pos (n : Nat) (x : Int) : 0 ≤ remOf n x ∧ remOf n x < n + 3 := by
 obtain ⟨h1, h2⟩ := rem_bounds n x
 unfold remOf
 exact ⟨Int.tmod_nonneg _ (by omega), Int.tmod_lt_of_pos _ (by omega)⟩
theorem torn_same (s : Sec) : torn s s = s := Subtype.ext (List.take_append_drop 32 s.1)
theorem over_torn (b l : Sec) : over (l.1.map eB) (((b.1.map eB).drop 32).take 32) 32 = (torn b l).1.map eB := by
 have h1 : ((b.1.map eB).drop 32).take 32 = (b.1.map eB).drop 32 := List.take_of_length_le (by rw [List.length_drop, sec_len]; decide)
 rw [h1]
 unfold over torn
 have h2 : 32 + ((b.1.map eB).drop 32).length = 64 := by rw [List.length_drop, sec_len]
 have h3 : (l.1.map eB).drop 64 = [] := s_drop l 64 (by decide)
 rw [h2, h3, List.append_nil]
 simp only [List.map_append, List.map_take, List.map_drop]
theorem view_half (G : Gh) (g : Nat) (s : Sec) (h : G.c g = some (s.1.map eB)) (cap : Nat) : viewC G 1 (.gs g 32 32 cap) = some (32, ((s.1.map eB).drop 32).take 32) := by
 simp only [viewC, h, sec_len]
 simp
theorem found_ok (c : Cel) (x : Int) (hne : c.op ≠ []) (hl : c.op.length ≤ 2000000000) : CallP Try.prog f_disk_found [eC c, .list (c.op.map eS), .int .i64 x] (· = .d (eC (kept c x))) := by
 refine CallP.of_deep (callT_of_W fol disk_found_cp ?_)
 have hl0 : 0 < c.op.length := List.length_pos_iff.2 hne
 obtain ⟨b1, b2⟩ := rem_bounds c.op.length x
 obtain ⟨b3, b4⟩ := rem_pos c.op.length x
 have hr : ((x.tmod (c.op.length + 3) + c.op.length) + 3).tmod (c.op.length + 3) = remOf c.op.length x := rfl
 simp -dsimp (disch := first | omega | (simp only [go_sem]; omega)) only [go_sem, seval, Nat.reduceEqDiff, Nat.reduceLeDiff]
 (repeat' (first | with_reducible refine W.seq ?_ | with_reducible refine W.block ?_ | ((first | with_reducible refine W.reg ?_ | with_reducible refine W.skip ?_ | with_reducible refine W.exit ?_ | with_reducible refine W.ret ?_ | with_reducible refine W.ifc ?_ | ((first | with_reducible refine wG_decE (fun _ hG => ?_) (fun _ hG => ?_) | with_reducible refine wG_decFE (fun _ hG => ?_) (fun _ hG => ?_)) <;> (try simp -dsimp only [hG, decide_true, decide_false, not_true_eq_false, not_false_eq_true]) <;> clear hG)) <;> (try simp -dsimp (disch := first | omega | (simp only [go_sem]; omega)) only [go_sem, seval, Nat.reduceEqDiff, Nat.reduceLeDiff, hr])) | simp -dsimp (disch := first | omega | (simp only [go_sem]; omega)) only [go_sem, seval, Nat.reduceEqDiff, Nat.reduceLeDiff, hr]))
 · rename_i h
   have hk : kept c x = ⟨c.s, c.bad, []⟩ := by unfold kept; rw [if_pos h]
   (apply Fin.eq; (focus (simp -dsimp (disch := first | omega | (simp only [go_sem]; omega)) only [go_sem, seval, Nat.reduceEqDiff, Nat.reduceLeDiff] <;> rfl)))
   exact ⟨rfl, _, .refl _, by rw [hk]; rfl⟩
 · rename_i h h'
   have e1 : (remOf c.op.length x - 1).toNat = (remOf c.op.length x).toNat - 1 := by omega
   have hk : kept c x = ⟨c.op[(remOf c.op.length x - 1).toNat], false, []⟩ := by
    unfold kept; rw [if_neg h, if_pos h', ← e1, List.getElem?_eq_getElem (by omega)]; rfl
   (apply Fin.eq; (focus (simp -dsimp (disch := first | omega | (simp only [go_sem]; omega)) only [go_sem, seval, Nat.reduceEqDiff, Nat.reduceLeDiff] <;> rfl)))
   exact ⟨rfl, _, .refl _, by rw [hk]; rfl⟩
 · rename_i h h' h''
   have hk : kept c x = ⟨z0, true, []⟩ := by unfold kept; rw [if_neg h, if_neg h', if_pos h'']
   (apply Fin.eq; (focus (simp -dsimp (disch := first | omega | (simp only [go_sem]; omega)) only [go_sem, seval, Nat.reduceEqDiff, Nat.reduceLeDiff] <;> rfl)))
   exact ⟨rfl, _, .refl _, by rw [hk]; rfl⟩
 · rename_i h h' h''
   have hk : kept c x = ⟨torn (if 1 < c.op.length then (c.op[c.op.length - 2]?).getD z0 else c.s) ((c.op[c.op.length - 1]?).getD z0), false, []⟩ := by unfold kept; rw [if_neg h, if_neg h', if_neg h'']
   have hlast : (c.op[c.op.length - 1]?).getD z0 = c.op[((c.op.length : Int) - 1).toNat]'(by omega) := by
    have e : ((c.op.length : Int) - 1).toNat = c.op.length - 1 := by omega
    simp only [e]
    rw [List.getElem?_eq_getElem (by omega)]; rfl
   rw [hlast] at hk
   generalize hlv : c.op[((c.op.length : Int) - 1).toNat]'(by omega) = lv at hk
   refine wNew_mk fun g1 hg1 => ?_
   simp -dsimp (disch := first | omega | (simp only [go_sem]; omega)) only [go_sem, seval, Nat.reduceEqDiff, Nat.reduceLeDiff]
   (repeat (first | with_reducible refine W.seq ?_ | with_reducible refine W.block ?_ | ((first | with_reducible refine W.reg ?_ | with_reducible refine W.skip ?_ | with_reducible refine W.exit ?_ | with_reducible refine W.ret ?_ | with_reducible refine W.ifc ?_); simp -dsimp (disch := first | omega | (simp only [go_sem]; omega)) only [go_sem, seval, Nat.reduceEqDiff, Nat.reduceLeDiff])))
   refine wNew_mk fun g2 hg2 => ?_
   have hgg : g1 ≠ g2 := by rintro rfl; simp at hg2
   have hu1 : ∀ (f : Nat → Option (List D)) (v : Option (List D)), upd f g2 v g1 = f g1 := fun f v => upd_off hgg
   have hu2 : ∀ (f : Nat → Option (List D)) (v : Option (List D)), upd f g1 v g2 = f g2 := fun f v => upd_off hgg.symm
   by_cases h1 : 1 < c.op.length
   · have e1 : (1 < (c.op.length : Int)) = True := eq_true (by omega)
     have hb : (if 1 < c.op.length then (c.op[c.op.length - 2]?).getD z0 else c.s) = c.op[((c.op.length : Int) - 2).toNat]'(by omega) := by
      have e : ((c.op.length : Int) - 2).toNat = c.op.length - 2 := by omega
      simp only [e]
      rw [if_pos h1, List.getElem?_eq_getElem (by omega)]; rfl
     rw [hb] at hk
     generalize hbv : c.op[((c.op.length : Int) - 2).toNat]'(by omega) = bv at hk
     simp -dsimp (disch := first | omega | (simp only [go_sem]; omega)) only [go_sem, seval, Nat.reduceEqDiff, Nat.reduceLeDiff]
     (repeat' (first | with_reducible refine W.seq ?_ | with_reducible refine W.block ?_ | ((first | with_reducible refine W.reg ?_ | with_reducible refine W.skip ?_ | with_reducible refine W.exit ?_ | with_reducible refine W.ret ?_ | with_reducible refine W.ifc ?_ | ((first | with_reducible refine wG_decE (fun _ hG => ?_) (fun _ hG => ?_) | with_reducible refine wG_decFE (fun _ hG => ?_) (fun _ hG => ?_)) <;> (try simp -dsimp only [hG, decide_true, decide_false, not_true_eq_false, not_false_eq_true]) <;> clear hG)) <;> (try simp -dsimp (disch := first | omega | (simp only [go_sem]; omega)) only [go_sem, seval, Nat.reduceEqDiff, Nat.reduceLeDiff, hu1, hu2, e1, hlv, hbv])) | simp -dsimp (disch := first | omega | (simp only [go_sem]; omega)) only [go_sem, seval, Nat.reduceEqDiff, Nat.reduceLeDiff, hu1, hu2, e1, hlv, hbv]))
     · rename_i he
       (apply Fin.eq; (focus (simp -dsimp (disch := first | omega | (simp only [go_sem]; omega)) only [go_sem, seval, Nat.reduceEqDiff, Nat.reduceLeDiff] <;> rfl)))
       refine ⟨rfl, _, .refl _, ?_⟩
       rw [hk, he, torn_same]; rfl
     · refine wCp_mk (m := 32) (cs := lv.1.map eB) (by simp only [Gh.set_c, hu1, hu2, upd_at]) (view_half _ _ bv (by simp only [Gh.set_c, hu1, hu2, upd_at]) _) (by rw [sec_len]; decide) ?_
       simp only [Nat.min_self, Nat.mul_one, List.take_take, over_torn]
       simp -dsimp (disch := first | omega | (simp only [go_sem]; omega)) only [go_sem, seval, Nat.reduceEqDiff, Nat.reduceLeDiff]
       (repeat' (first | with_reducible refine W.seq ?_ | with_reducible refine W.block ?_ | ((first | with_reducible refine W.reg ?_ | with_reducible refine W.skip ?_ | with_reducible refine W.exit ?_ | with_reducible refine W.ret ?_ | with_reducible refine W.ifc ?_ | ((first | with_reducible refine wG_decE (fun _ hG => ?_) (fun _ hG => ?_) | with_reducible refine wG_decFE (fun _ hG => ?_) (fun _ hG => ?_)) <;> (try simp -dsimp only [hG, decide_true, decide_false, not_true_eq_false, not_false_eq_true]) <;> clear hG)) <;> (try simp -dsimp (disch := first | omega | (simp only [go_sem]; omega)) only [go_sem, seval, Nat.reduceEqDiff, Nat.reduceLeDiff, hu1, hu2])) | simp -dsimp (disch := first | omega | (simp only [go_sem]; omega)) only [go_sem, seval, Nat.reduceEqDiff, Nat.reduceLeDiff, hu1, hu2]))
       (apply Fin.eq; (focus (simp -dsimp (disch := first | omega | (simp only [go_sem]; omega)) only [go_sem, seval, Nat.reduceEqDiff, Nat.reduceLeDiff] <;> rfl)))
       exact ⟨rfl, _, .refl _, by rw [hk]; rfl⟩
   · have e1 : (1 < (c.op.length : Int)) = False := eq_false (by omega)
     rw [if_neg h1] at hk
     simp -dsimp (disch := first | omega | (simp only [go_sem]; omega)) only [go_sem, seval, Nat.reduceEqDiff, Nat.reduceLeDiff]
     (repeat' (first | with_reducible refine W.seq ?_ | with_reducible refine W.block ?_ | ((first | with_reducible refine W.reg ?_ | with_reducible refine W.skip ?_ | with_reducible refine W.exit ?_ | with_reducible refine W.ret ?_ | with_reducible refine W.ifc ?_ | ((first | with_reducible refine wG_decE (fun _ hG => ?_) (fun _ hG => ?_) | with_reducible refine wG_decFE (fun _ hG => ?_) (fun _ hG => ?_)) <;> (try simp -dsimp only [hG, decide_true, decide_false, not_true_eq_false, not_false_eq_true]) <;> clear hG)) <;> (try simp -dsimp (disch := first | omega | (simp only [go_sem]; omega)) only [go_sem, seval, Nat.reduceEqDiff, Nat.reduceLeDiff, hu1, hu2, e1, hlv])) | simp -dsimp (disch := first | omega | (simp only [go_sem]; omega)) only [go_sem, seval, Nat.reduceEqDiff, Nat.reduceLeDiff, hu1, hu2, e1, hlv]))
     · rename_i he
       (apply Fin.eq; (focus (simp -dsimp (disch := first | omega | (simp only [go_sem]; omega)) only [go_sem, seval, Nat.reduceEqDiff, Nat.reduceLeDiff] <;> rfl)))
       refine ⟨rfl, _, .refl _, ?_⟩
       rw [hk, he, torn_same]; rfl
     · refine wCp_mk (m := 32) (cs := lv.1.map eB) (by simp only [Gh.set_c, hu1, hu2, upd_at]) (view_half _ _ c.s (by simp only [Gh.set_c, hu1, hu2, upd_at]) _) (by rw [sec_len]; decide) ?_
       simp only [Nat.min_self, Nat.mul_one, List.take_take, over_torn]
       simp -dsimp (disch := first | omega | (simp only [go_sem]; omega)) only [go_sem, seval, Nat.reduceEqDiff, Nat.reduceLeDiff]
       (repeat' (first | with_reducible refine W.seq ?_ | with_reducible refine W.block ?_ | ((first | with_reducible refine W.reg ?_ | with_reducible refine W.skip ?_ | with_reducible refine W.exit ?_ | with_reducible refine W.ret ?_ | with_reducible refine W.ifc ?_ | ((first | with_reducible refine wG_decE (fun _ hG => ?_) (fun _ hG => ?_) | with_reducible refine wG_decFE (fun _ hG => ?_) (fun _ hG => ?_)) <;> (try simp -dsimp only [hG, decide_true, decide_false, not_true_eq_false, not_false_eq_true]) <;> clear hG)) <;> (try simp -dsimp (disch := first | omega | (simp only [go_sem]; omega)) only [go_sem, seval, Nat.reduceEqDiff, Nat.reduceLeDiff, hu1, hu2])) | simp -dsimp (disch := first | omega | (simp only [go_sem]; omega)) only [go_sem, seval, Nat.reduceEqDiff, Nat.reduceLeDiff, hu1, hu2]))
       (apply Fin.eq; (focus (simp -dsimp (disch := first | omega | (simp only [go_sem]; omega)) only [go_sem, seval, Nat.reduceEqDiff, Nat.reduceLeDiff] <;> rfl)))
       exact ⟨rfl, _, .refl _, by rw [hk]; rfl⟩
end Go.Proofs.Ytioojmlhmhgeeaa
