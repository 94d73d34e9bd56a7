/-
 Layer 22 (slots), continued: change, Put, Kill, Get.
 Conditions: of each contract as it says.
-/
import Derived.Test.YtioojmlhmhgeeaaF22w
namespace Go.Proofs.Ytioojmlhmhgeeaa
open Go Go.E2 C22
set_option linter.unusedSimpArgs false
set_option maxHeartbeats 1000000
theorem mod_u32 (x : Int) : IntKind.u32.wrap x = x % 4294967296 := rfl
theorem changeS_ok (q p : Nat) (d : Dk) (first n i : Int) (b : Str) (h0 : 0 ≤ first) (h1 : 0 ≤ i) (h2 : first + 2 * i + 1 ≤ 1000000) (hb : b.length ≤ 55) (hn : d.steps ≤ 800000000) :
 CallS Try.prog f_slots_Store_change [.gp q 0, .int .i64 i, .str b] [StA q p first n, DiskA p d] (fun r post => r = .d (.int .i64 (changeR d first i b).2) ∧ post = [StA q p first n, DiskA p (changeR d first i b).1]) := by
 refine callS_of_W fol slots_Store_change_cp fun R G σ hs => ?_
 have hok : Okd d := by obtain ⟨_, _, _, _, h⟩ := DiskP.open hs.swap; exact h.ok
 have hs : Sep (CellA q [.gp p 0, .int .i64 first, .int .i64 n] :: DiskA p d :: R) G := hs
 have hc := hs.get
 have hch : changeR d first i b = if (slotR d first i).2.2 ≠ 0 then (d, (slotR d first i).2.2) else
  if (healR d (slotR d first i).1 (slotR d first i).2.1).2 ≠ 0 then healR d (slotR d first i).1 (slotR d first i).2.1 else
  change2 (healR d (slotR d first i).1 (slotR d first i).2.1).1 first i (mk1 (nextQ (slotR d first i).1) b) := rfl
 rw [hch]
 simp -dsimp (disch := first | omega | (simp only [go_sem]; omega)) only [go_sem, seval, Nat.reduceEqDiff, Nat.reduceLeDiff]
 (repeat' (first | with_reducible refine W.seq ?_ | with_reducible refine W.block ?_ | ((first | with_reducible refine W.reg ?_ | with_reducible refine W.skip ?_ | with_reducible refine W.exit ?_ | with_reducible refine W.ret ?_ | with_reducible refine W.ifc ?_ | ((first | with_reducible refine wG_decE (fun _ hG => ?_) (fun _ hG => ?_) | with_reducible refine wG_decFE (fun _ hG => ?_) (fun _ hG => ?_)) <;> (try simp -dsimp only [hG, decide_true, decide_false, not_true_eq_false, not_false_eq_true]) <;> clear hG)) <;> (try simp -dsimp (disch := first | omega | (simp only [go_sem]; omega)) only [go_sem, seval, Nat.reduceEqDiff, Nat.reduceLeDiff, hc])) | simp -dsimp (disch := first | omega | (simp only [go_sem]; omega)) only [go_sem, seval, Nat.reduceEqDiff, Nat.reduceLeDiff, hc]))
 (refine wC_sq (slot_ok p d first n i h0 h1 h2) (hs.swap) (by decide) ?_ ?_; (focus (simp -dsimp (disch := first | omega | (simp only [go_sem]; omega)) only [go_sem, seval, Nat.reduceEqDiff, Nat.reduceLeDiff] <;> rfl)))
 rintro _ _ G2 ⟨rfl, rfl⟩ hs2
 have hs2 : Sep (DiskA p d :: CellA q [.gp p 0, .int .i64 first, .int .i64 n] :: R) G2 := hs2
 have hc2 := hs2.swap.get
 generalize (slotR d first i).1 = best at *
 generalize (slotR d first i).2.1 = other at *
 generalize (slotR d first i).2.2 = er at *
 have kl1 := eF_len best
 have kl2 := eF_len other
 by_cases her : er = 0
 · subst her
   rw [if_neg (by simp)]
   have hup := (healR_up hok (by omega) best other).2.2
   simp -dsimp (disch := first | omega | (simp only [go_sem]; omega)) only [go_sem, seval, Nat.reduceEqDiff, Nat.reduceLeDiff, kl1, kl2]
   (repeat' (first | with_reducible refine W.seq ?_ | with_reducible refine W.block ?_ | ((first | with_reducible refine W.reg ?_ | with_reducible refine W.skip ?_ | with_reducible refine W.exit ?_ | with_reducible refine W.ret ?_ | with_reducible refine W.ifc ?_ | ((first | with_reducible refine wG_decE (fun _ hG => ?_) (fun _ hG => ?_) | with_reducible refine wG_decFE (fun _ hG => ?_) (fun _ hG => ?_)) <;> (try simp -dsimp only [hG, decide_true, decide_false, not_true_eq_false, not_false_eq_true]) <;> clear hG)) <;> (try simp -dsimp (disch := first | omega | (simp only [go_sem]; omega)) only [go_sem, seval, Nat.reduceEqDiff, Nat.reduceLeDiff, kl1, kl2, hc2])) | simp -dsimp (disch := first | omega | (simp only [go_sem]; omega)) only [go_sem, seval, Nat.reduceEqDiff, Nat.reduceLeDiff, kl1, kl2, hc2]))
   (refine wC_sq (heal_ok p d first n best other (by omega)) (hs2) (by decide) ?_ ?_; (focus (simp -dsimp (disch := first | omega | (simp only [go_sem]; omega)) only [go_sem, seval, Nat.reduceEqDiff, Nat.reduceLeDiff] <;> rfl)))
   rintro _ _ G3 ⟨rfl, rfl⟩ hs3'
   have hs3 : Sep (DiskA p (healR d best other).1 :: CellA q [.gp p 0, .int .i64 first, .int .i64 n] :: R) G3 := hs3'
   clear hs3'
   have hc3 := hs3.swap.get
   by_cases hf : (healR d best other).2 = 0
   · rw [if_neg (by rw [hf]; simp)]
     generalize (healR d best other).1 = d3 at hs3 hup ⊢
     obtain ⟨bs, ba, bg⟩ := best
     cases bg
     · have hkb := head65 ⟨bs, ba, false⟩
       have hnq : nextQ ⟨bs, ba, false⟩ = 1 := rfl
       rw [hnq]
       simp -dsimp (disch := first | omega | (simp only [go_sem]; omega)) only [go_sem, seval, Nat.reduceEqDiff, Nat.reduceLeDiff, hf]
       (repeat' (first | with_reducible refine W.seq ?_ | with_reducible refine W.block ?_ | ((first | with_reducible refine W.reg ?_ | with_reducible refine W.skip ?_ | with_reducible refine W.exit ?_ | with_reducible refine W.ret ?_ | with_reducible refine W.ifc ?_ | (apply wC_P (make1_ok 1 (by omega) (by omega) b hb); (focus (simp -dsimp (disch := first | omega | (simp only [go_sem]; omega)) only [go_sem, seval, Nat.reduceEqDiff, Nat.reduceLeDiff] <;> rfl)); rintro _ rfl) | ((first | with_reducible refine wG_decE (fun _ hG => ?_) (fun _ hG => ?_) | with_reducible refine wG_decFE (fun _ hG => ?_) (fun _ hG => ?_)) <;> (try simp -dsimp only [hG, decide_true, decide_false, not_true_eq_false, not_false_eq_true]) <;> clear hG)) <;> (try simp -dsimp (disch := first | omega | (simp only [go_sem]; omega)) only [go_sem, seval, Nat.reduceEqDiff, Nat.reduceLeDiff, hf, hkb, hc3, kl1, kl2])) | simp -dsimp (disch := first | omega | (simp only [go_sem]; omega)) only [go_sem, seval, Nat.reduceEqDiff, Nat.reduceLeDiff, hf, hkb, hc3, kl1, kl2]))
       generalize mk1 1 b = ns
       have hc2' : change2 d3 first i ns = if (writeR d3 (first + 2 * i + 1) ns).2 ≠ 0 then writeR d3 (first + 2 * i + 1) ns else writeR (writeR d3 (first + 2 * i + 1) ns).1 (first + 2 * i) ns := rfl
       rw [hc2']
       have hok3 : Okd d3 := by obtain ⟨_, _, _, _, h⟩ := DiskP.open hs3; exact h.ok
       have hup3 := (writeR_up hok3 (by omega) (first + 2 * i + 1) ns).2.2
       (refine wC_sq (writeP_ok p d3 first n (first + 2 * i + 1) ns (by omega)) (hs3) (by decide) ?_ ?_; (focus (simp -dsimp (disch := first | omega | (simp only [go_sem]; omega)) only [go_sem, seval, Nat.reduceEqDiff, Nat.reduceLeDiff] <;> rfl)))
       rintro _ _ G4 ⟨rfl, rfl⟩ hs4
       have hs4 : Sep (DiskA p (writeR d3 (first + 2 * i + 1) ns).1 :: CellA q [.gp p 0, .int .i64 first, .int .i64 n] :: R) G4 := hs4
       have hc4 := hs4.swap.get
       by_cases hw : (writeR d3 (first + 2 * i + 1) ns).2 = 0
       · rw [if_neg (by rw [hw]; simp)]
         simp -dsimp (disch := first | omega | (simp only [go_sem]; omega)) only [go_sem, seval, Nat.reduceEqDiff, Nat.reduceLeDiff, hw]
         (repeat' (first | with_reducible refine W.seq ?_ | with_reducible refine W.block ?_ | ((first | with_reducible refine W.reg ?_ | with_reducible refine W.skip ?_ | with_reducible refine W.exit ?_ | with_reducible refine W.ret ?_ | with_reducible refine W.ifc ?_ | ((first | with_reducible refine wG_decE (fun _ hG => ?_) (fun _ hG => ?_) | with_reducible refine wG_decFE (fun _ hG => ?_) (fun _ hG => ?_)) <;> (try simp -dsimp only [hG, decide_true, decide_false, not_true_eq_false, not_false_eq_true]) <;> clear hG)) <;> (try simp -dsimp (disch := first | omega | (simp only [go_sem]; omega)) only [go_sem, seval, Nat.reduceEqDiff, Nat.reduceLeDiff, hw, hc4])) | simp -dsimp (disch := first | omega | (simp only [go_sem]; omega)) only [go_sem, seval, Nat.reduceEqDiff, Nat.reduceLeDiff, hw, hc4]))
         (refine wC_sq (writeP_ok p (writeR d3 (first + 2 * i + 1) ns).1 first n (first + 2 * i) ns (by omega)) (hs4) (by decide) ?_ ?_; (focus (simp -dsimp (disch := first | omega | (simp only [go_sem]; omega)) only [go_sem, seval, Nat.reduceEqDiff, Nat.reduceLeDiff] <;> rfl)))
         rintro _ _ G5 ⟨rfl, rfl⟩ hs5
         simp -dsimp (disch := first | omega | (simp only [go_sem]; omega)) only [go_sem, seval, Nat.reduceEqDiff, Nat.reduceLeDiff]
         (repeat (first | with_reducible refine W.seq ?_ | with_reducible refine W.block ?_ | ((first | with_reducible refine W.reg ?_ | with_reducible refine W.skip ?_ | with_reducible refine W.exit ?_ | with_reducible refine W.ret ?_ | with_reducible refine W.ifc ?_); simp -dsimp (disch := first | omega | (simp only [go_sem]; omega)) only [go_sem, seval, Nat.reduceEqDiff, Nat.reduceLeDiff])))
         exact Fin.eq rfl ⟨rfl, _, ⟨rfl, rfl⟩, hs5.swap⟩
       · rw [if_pos hw]
         simp -dsimp (disch := first | omega | (simp only [go_sem]; omega)) only [go_sem, seval, Nat.reduceEqDiff, Nat.reduceLeDiff, hw]
         (repeat' (first | with_reducible refine W.seq ?_ | with_reducible refine W.block ?_ | ((first | with_reducible refine W.reg ?_ | with_reducible refine W.skip ?_ | with_reducible refine W.exit ?_ | with_reducible refine W.ret ?_ | with_reducible refine W.ifc ?_ | ((first | with_reducible refine wG_decE (fun _ hG => ?_) (fun _ hG => ?_) | with_reducible refine wG_decFE (fun _ hG => ?_) (fun _ hG => ?_)) <;> (try simp -dsimp only [hG, decide_true, decide_false, not_true_eq_false, not_false_eq_true]) <;> clear hG)) <;> (try simp -dsimp (disch := first | omega | (simp only [go_sem]; omega)) only [go_sem, seval, Nat.reduceEqDiff, Nat.reduceLeDiff, hw])) | simp -dsimp (disch := first | omega | (simp only [go_sem]; omega)) only [go_sem, seval, Nat.reduceEqDiff, Nat.reduceLeDiff, hw]))
         exact Fin.eq rfl ⟨rfl, _, ⟨rfl, rfl⟩, hs4.swap⟩
     · have hkb := head65 ⟨bs, ba, true⟩
       have hnq : nextQ ⟨bs, ba, true⟩ = ((numAt bs 0 : Int) + 1) % 4294967296 := rfl
       rw [hnq]
       simp -dsimp (disch := first | omega | (simp only [go_sem]; omega)) only [go_sem, seval, Nat.reduceEqDiff, Nat.reduceLeDiff, hf]
       (repeat' (first | with_reducible refine W.seq ?_ | with_reducible refine W.block ?_ | ((first | with_reducible refine W.reg ?_ | with_reducible refine W.skip ?_ | with_reducible refine W.exit ?_ | with_reducible refine W.ret ?_ | with_reducible refine W.ifc ?_ | (apply wC_P (number_ok bs 0 (by omega)); (focus (simp -dsimp (disch := first | omega | (simp only [go_sem]; omega)) only [go_sem, seval, Nat.reduceEqDiff, Nat.reduceLeDiff] <;> rfl)); rintro _ rfl) | (apply wC_P (make1_ok (((numAt bs 0 : Int) + 1) % 4294967296) (by omega) (by omega) b hb); (focus (simp -dsimp (disch := first | omega | (simp only [go_sem]; omega)) only [go_sem, seval, Nat.reduceEqDiff, Nat.reduceLeDiff] <;> rfl)); rintro _ rfl) | ((first | with_reducible refine wG_decE (fun _ hG => ?_) (fun _ hG => ?_) | with_reducible refine wG_decFE (fun _ hG => ?_) (fun _ hG => ?_)) <;> (try simp -dsimp only [hG, decide_true, decide_false, not_true_eq_false, not_false_eq_true]) <;> clear hG)) <;> (try simp -dsimp (disch := first | omega | (simp only [go_sem]; omega)) only [go_sem, seval, Nat.reduceEqDiff, Nat.reduceLeDiff, hf, hkb, hc3, mod_u32, kl1, kl2])) | simp -dsimp (disch := first | omega | (simp only [go_sem]; omega)) only [go_sem, seval, Nat.reduceEqDiff, Nat.reduceLeDiff, hf, hkb, hc3, mod_u32, kl1, kl2]))
       generalize mk1 (((numAt bs 0 : Int) + 1) % 4294967296) b = ns
       have hc2' : change2 d3 first i ns = if (writeR d3 (first + 2 * i + 1) ns).2 ≠ 0 then writeR d3 (first + 2 * i + 1) ns else writeR (writeR d3 (first + 2 * i + 1) ns).1 (first + 2 * i) ns := rfl
       rw [hc2']
       have hok3 : Okd d3 := by obtain ⟨_, _, _, _, h⟩ := DiskP.open hs3; exact h.ok
       have hup3 := (writeR_up hok3 (by omega) (first + 2 * i + 1) ns).2.2
       (refine wC_sq (writeP_ok p d3 first n (first + 2 * i + 1) ns (by omega)) (hs3) (by decide) ?_ ?_; (focus (simp -dsimp (disch := first | omega | (simp only [go_sem]; omega)) only [go_sem, seval, Nat.reduceEqDiff, Nat.reduceLeDiff] <;> rfl)))
       rintro _ _ G4 ⟨rfl, rfl⟩ hs4
       have hs4 : Sep (DiskA p (writeR d3 (first + 2 * i + 1) ns).1 :: CellA q [.gp p 0, .int .i64 first, .int .i64 n] :: R) G4 := hs4
       have hc4 := hs4.swap.get
       by_cases hw : (writeR d3 (first + 2 * i + 1) ns).2 = 0
       · rw [if_neg (by rw [hw]; simp)]
         simp -dsimp (disch := first | omega | (simp only [go_sem]; omega)) only [go_sem, seval, Nat.reduceEqDiff, Nat.reduceLeDiff, hw]
         (repeat' (first | with_reducible refine W.seq ?_ | with_reducible refine W.block ?_ | ((first | with_reducible refine W.reg ?_ | with_reducible refine W.skip ?_ | with_reducible refine W.exit ?_ | with_reducible refine W.ret ?_ | with_reducible refine W.ifc ?_ | ((first | with_reducible refine wG_decE (fun _ hG => ?_) (fun _ hG => ?_) | with_reducible refine wG_decFE (fun _ hG => ?_) (fun _ hG => ?_)) <;> (try simp -dsimp only [hG, decide_true, decide_false, not_true_eq_false, not_false_eq_true]) <;> clear hG)) <;> (try simp -dsimp (disch := first | omega | (simp only [go_sem]; omega)) only [go_sem, seval, Nat.reduceEqDiff, Nat.reduceLeDiff, hw, hc4])) | simp -dsimp (disch := first | omega | (simp only [go_sem]; omega)) only [go_sem, seval, Nat.reduceEqDiff, Nat.reduceLeDiff, hw, hc4]))
         (refine wC_sq (writeP_ok p (writeR d3 (first + 2 * i + 1) ns).1 first n (first + 2 * i) ns (by omega)) (hs4) (by decide) ?_ ?_; (focus (simp -dsimp (disch := first | omega | (simp only [go_sem]; omega)) only [go_sem, seval, Nat.reduceEqDiff, Nat.reduceLeDiff] <;> rfl)))
         rintro _ _ G5 ⟨rfl, rfl⟩ hs5
         simp -dsimp (disch := first | omega | (simp only [go_sem]; omega)) only [go_sem, seval, Nat.reduceEqDiff, Nat.reduceLeDiff]
         (repeat (first | with_reducible refine W.seq ?_ | with_reducible refine W.block ?_ | ((first | with_reducible refine W.reg ?_ | with_reducible refine W.skip ?_ | with_reducible refine W.exit ?_ | with_reducible refine W.ret ?_ | with_reducible refine W.ifc ?_); simp -dsimp (disch := first | omega | (simp only [go_sem]; omega)) only [go_sem, seval, Nat.reduceEqDiff, Nat.reduceLeDiff])))
         exact Fin.eq rfl ⟨rfl, _, ⟨rfl, rfl⟩, hs5.swap⟩
       · rw [if_pos hw]
         simp -dsimp (disch := first | omega | (simp only [go_sem]; omega)) only [go_sem, seval, Nat.reduceEqDiff, Nat.reduceLeDiff, hw]
         (repeat' (first | with_reducible refine W.seq ?_ | with_reducible refine W.block ?_ | ((first | with_reducible refine W.reg ?_ | with_reducible refine W.skip ?_ | with_reducible refine W.exit ?_ | with_reducible refine W.ret ?_ | with_reducible refine W.ifc ?_ | ((first | with_reducible refine wG_decE (fun _ hG => ?_) (fun _ hG => ?_) | with_reducible refine wG_decFE (fun _ hG => ?_) (fun _ hG => ?_)) <;> (try simp -dsimp only [hG, decide_true, decide_false, not_true_eq_false, not_false_eq_true]) <;> clear hG)) <;> (try simp -dsimp (disch := first | omega | (simp only [go_sem]; omega)) only [go_sem, seval, Nat.reduceEqDiff, Nat.reduceLeDiff, hw])) | simp -dsimp (disch := first | omega | (simp only [go_sem]; omega)) only [go_sem, seval, Nat.reduceEqDiff, Nat.reduceLeDiff, hw]))
         exact Fin.eq rfl ⟨rfl, _, ⟨rfl, rfl⟩, hs4.swap⟩
   · rw [if_pos hf]
     simp -dsimp (disch := first | omega | (simp only [go_sem]; omega)) only [go_sem, seval, Nat.reduceEqDiff, Nat.reduceLeDiff, hf]
     (repeat' (first | with_reducible refine W.seq ?_ | with_reducible refine W.block ?_ | ((first | with_reducible refine W.reg ?_ | with_reducible refine W.skip ?_ | with_reducible refine W.exit ?_ | with_reducible refine W.ret ?_ | with_reducible refine W.ifc ?_ | ((first | with_reducible refine wG_decE (fun _ hG => ?_) (fun _ hG => ?_) | with_reducible refine wG_decFE (fun _ hG => ?_) (fun _ hG => ?_)) <;> (try simp -dsimp only [hG, decide_true, decide_false, not_true_eq_false, not_false_eq_true]) <;> clear hG)) <;> (try simp -dsimp (disch := first | omega | (simp only [go_sem]; omega)) only [go_sem, seval, Nat.reduceEqDiff, Nat.reduceLeDiff, hf])) | simp -dsimp (disch := first | omega | (simp only [go_sem]; omega)) only [go_sem, seval, Nat.reduceEqDiff, Nat.reduceLeDiff, hf]))
     exact Fin.eq rfl ⟨rfl, _, ⟨rfl, rfl⟩, hs3.swap⟩
 · rw [if_pos her]
   simp -dsimp (disch := first | omega | (simp only [go_sem]; omega)) only [go_sem, seval, Nat.reduceEqDiff, Nat.reduceLeDiff, her, kl1, kl2]
   (repeat' (first | with_reducible refine W.seq ?_ | with_reducible refine W.block ?_ | ((first | with_reducible refine W.reg ?_ | with_reducible refine W.skip ?_ | with_reducible refine W.exit ?_ | with_reducible refine W.ret ?_ | with_reducible refine W.ifc ?_ | ((first | with_reducible refine wG_decE (fun _ hG => ?_) (fun _ hG => ?_) | with_reducible refine wG_decFE (fun _ hG => ?_) (fun _ hG => ?_)) <;> (try simp -dsimp only [hG, decide_true, decide_false, not_true_eq_false, not_false_eq_true]) <;> clear hG)) <;> (try simp -dsimp (disch := first | omega | (simp only [go_sem]; omega)) only [go_sem, seval, Nat.reduceEqDiff, Nat.reduceLeDiff, her, kl1, kl2])) | simp -dsimp (disch := first | omega | (simp only [go_sem]; omega)) only [go_sem, seval, Nat.reduceEqDiff, Nat.reduceLeDiff, her, kl1, kl2]))
   exact Fin.eq rfl ⟨rfl, _, ⟨rfl, rfl⟩, hs2.swap⟩
theorem put_ok (q p : Nat) (d : Dk) (first n i : Int) (b : Str) (h0 : 0 ≤ first) (h2 : first + 2 * n ≤ 1000000) (hn : d.steps ≤ 800000000) :
 CallS Try.prog f_slots_Store_Put [.gp q 0, .int .i64 i, .str b] [StA q p first n, DiskA p d] (fun r post => r = .d (.int .i64 (putR d first n i b).2) ∧ post = [StA q p first n, DiskA p (putR d first n i b).1]) := by
 refine callS_of_W fol slots_Store_Put_cp fun R G σ hs => ?_
 have hc := Sep.get (b := q) (cs := [.gp p 0, .int .i64 first, .int .i64 n]) hs
 by_cases p1 : i < 0 ∨ n ≤ i ∨ b.length < 1 ∨ 55 < b.length
 · have hr : putR d first n i b = (d, 1) := by unfold putR; rw [if_pos p1]
   rw [hr]
   simp -dsimp (disch := first | omega | (simp only [go_sem]; omega)) only [go_sem, seval, Nat.reduceEqDiff, Nat.reduceLeDiff]
   (repeat' (first | with_reducible refine W.seq ?_ | with_reducible refine W.block ?_ | ((first | with_reducible refine W.reg ?_ | with_reducible refine W.skip ?_ | with_reducible refine W.exit ?_ | with_reducible refine W.ret ?_ | with_reducible refine W.ifc ?_ | ((first | with_reducible refine wG_decE (fun _ hG => ?_) (fun _ hG => ?_) | with_reducible refine wG_decFE (fun _ hG => ?_) (fun _ hG => ?_)) <;> (try simp -dsimp only [hG, decide_true, decide_false, not_true_eq_false, not_false_eq_true]) <;> clear hG)) <;> (try simp -dsimp (disch := first | omega | (simp only [go_sem]; omega)) only [go_sem, seval, Nat.reduceEqDiff, Nat.reduceLeDiff, hc])) | simp -dsimp (disch := first | omega | (simp only [go_sem]; omega)) only [go_sem, seval, Nat.reduceEqDiff, Nat.reduceLeDiff, hc]))
   all_goals first | exact Fin.eq rfl ⟨rfl, _, ⟨rfl, rfl⟩, hs⟩ | (exfalso; omega)
 · have hr : putR d first n i b = changeR d first i b := by unfold putR; rw [if_neg p1]
   rw [hr]
   have e1 : (i < 0) = False := eq_false (by omega)
   have e2 : (n ≤ i) = False := eq_false (by omega)
   have e3 : ((b.length : Int) < 1) = False := eq_false (by omega)
   have e4 : (55 < (b.length : Int)) = False := eq_false (by omega)
   simp -dsimp (disch := first | omega | (simp only [go_sem]; omega)) only [go_sem, seval, Nat.reduceEqDiff, Nat.reduceLeDiff, e1, e2, e3, e4]
   (repeat' (first | with_reducible refine W.seq ?_ | with_reducible refine W.block ?_ | ((first | with_reducible refine W.reg ?_ | with_reducible refine W.skip ?_ | with_reducible refine W.exit ?_ | with_reducible refine W.ret ?_ | with_reducible refine W.ifc ?_ | ((first | with_reducible refine wG_decE (fun _ hG => ?_) (fun _ hG => ?_) | with_reducible refine wG_decFE (fun _ hG => ?_) (fun _ hG => ?_)) <;> (try simp -dsimp only [hG, decide_true, decide_false, not_true_eq_false, not_false_eq_true]) <;> clear hG)) <;> (try simp -dsimp (disch := first | omega | (simp only [go_sem]; omega)) only [go_sem, seval, Nat.reduceEqDiff, Nat.reduceLeDiff, hc, e1, e2, e3, e4])) | simp -dsimp (disch := first | omega | (simp only [go_sem]; omega)) only [go_sem, seval, Nat.reduceEqDiff, Nat.reduceLeDiff, hc, e1, e2, e3, e4]))
   (refine wC_sq (changeS_ok q p d first n i b h0 (by omega) (by omega) (by omega) hn) (hs) (by decide) ?_ ?_; (focus (simp -dsimp (disch := first | omega | (simp only [go_sem]; omega)) only [go_sem, seval, Nat.reduceEqDiff, Nat.reduceLeDiff] <;> rfl)))
   rintro _ _ G2 ⟨rfl, rfl⟩ hs2
   simp -dsimp (disch := first | omega | (simp only [go_sem]; omega)) only [go_sem, seval, Nat.reduceEqDiff, Nat.reduceLeDiff]
   (repeat (first | with_reducible refine W.seq ?_ | with_reducible refine W.block ?_ | ((first | with_reducible refine W.reg ?_ | with_reducible refine W.skip ?_ | with_reducible refine W.exit ?_ | with_reducible refine W.ret ?_ | with_reducible refine W.ifc ?_); simp -dsimp (disch := first | omega | (simp only [go_sem]; omega)) only [go_sem, seval, Nat.reduceEqDiff, Nat.reduceLeDiff])))
   exact Fin.eq rfl ⟨rfl, _, ⟨rfl, rfl⟩, hs2⟩
theorem kill_ok (q p : Nat) (d : Dk) (first n i : Int) (h0 : 0 ≤ first) (h2 : first + 2 * n ≤ 1000000) (hn : d.steps ≤ 800000000) :
 CallS Try.prog f_slots_Store_Kill [.gp q 0, .int .i64 i] [StA q p first n, DiskA p d] (fun r post => r = .d (.int .i64 (killR d first n i).2) ∧ post = [StA q p first n, DiskA p (killR d first n i).1]) := by
 refine callS_of_W fol slots_Store_Kill_cp fun R G σ hs => ?_
 have hc := Sep.get (b := q) (cs := [.gp p 0, .int .i64 first, .int .i64 n]) hs
 by_cases p1 : i < 0 ∨ n ≤ i
 · have hr : killR d first n i = (d, 1) := by unfold killR; rw [if_pos p1]
   rw [hr]
   simp -dsimp (disch := first | omega | (simp only [go_sem]; omega)) only [go_sem, seval, Nat.reduceEqDiff, Nat.reduceLeDiff]
   (repeat' (first | with_reducible refine W.seq ?_ | with_reducible refine W.block ?_ | ((first | with_reducible refine W.reg ?_ | with_reducible refine W.skip ?_ | with_reducible refine W.exit ?_ | with_reducible refine W.ret ?_ | with_reducible refine W.ifc ?_ | ((first | with_reducible refine wG_decE (fun _ hG => ?_) (fun _ hG => ?_) | with_reducible refine wG_decFE (fun _ hG => ?_) (fun _ hG => ?_)) <;> (try simp -dsimp only [hG, decide_true, decide_false, not_true_eq_false, not_false_eq_true]) <;> clear hG)) <;> (try simp -dsimp (disch := first | omega | (simp only [go_sem]; omega)) only [go_sem, seval, Nat.reduceEqDiff, Nat.reduceLeDiff, hc])) | simp -dsimp (disch := first | omega | (simp only [go_sem]; omega)) only [go_sem, seval, Nat.reduceEqDiff, Nat.reduceLeDiff, hc]))
   all_goals first | exact Fin.eq rfl ⟨rfl, _, ⟨rfl, rfl⟩, hs⟩ | (exfalso; omega)
 · have hr : killR d first n i = changeR d first i [] := by unfold killR; rw [if_neg p1]
   rw [hr]
   have e1 : (i < 0) = False := eq_false (by omega)
   have e2 : (n ≤ i) = False := eq_false (by omega)
   simp -dsimp (disch := first | omega | (simp only [go_sem]; omega)) only [go_sem, seval, Nat.reduceEqDiff, Nat.reduceLeDiff, e1, e2]
   (repeat' (first | with_reducible refine W.seq ?_ | with_reducible refine W.block ?_ | ((first | with_reducible refine W.reg ?_ | with_reducible refine W.skip ?_ | with_reducible refine W.exit ?_ | with_reducible refine W.ret ?_ | with_reducible refine W.ifc ?_ | ((first | with_reducible refine wG_decE (fun _ hG => ?_) (fun _ hG => ?_) | with_reducible refine wG_decFE (fun _ hG => ?_) (fun _ hG => ?_)) <;> (try simp -dsimp only [hG, decide_true, decide_false, not_true_eq_false, not_false_eq_true]) <;> clear hG)) <;> (try simp -dsimp (disch := first | omega | (simp only [go_sem]; omega)) only [go_sem, seval, Nat.reduceEqDiff, Nat.reduceLeDiff, hc, e1, e2])) | simp -dsimp (disch := first | omega | (simp only [go_sem]; omega)) only [go_sem, seval, Nat.reduceEqDiff, Nat.reduceLeDiff, hc, e1, e2]))
   (refine wC_sq (changeS_ok q p d first n i [] h0 (by omega) (by omega) (by simp) hn) (hs) (by decide) ?_ ?_; (focus (simp -dsimp (disch := first | omega | (simp only [go_sem]; omega)) only [go_sem, seval, Nat.reduceEqDiff, Nat.reduceLeDiff] <;> rfl)))
   rintro _ _ G2 ⟨rfl, rfl⟩ hs2
   simp -dsimp (disch := first | omega | (simp only [go_sem]; omega)) only [go_sem, seval, Nat.reduceEqDiff, Nat.reduceLeDiff]
   (repeat (first | with_reducible refine W.seq ?_ | with_reducible refine W.block ?_ | ((first | with_reducible refine W.reg ?_ | with_reducible refine W.skip ?_ | with_reducible refine W.exit ?_ | with_reducible refine W.ret ?_ | with_reducible refine W.ifc ?_); simp -dsimp (disch := first | omega | (simp only [go_sem]; omega)) only [go_sem, seval, Nat.reduceEqDiff, Nat.reduceLeDiff])))
   exact Fin.eq rfl ⟨rfl, _, ⟨rfl, rfl⟩, hs2⟩
end Go.Proofs.Ytioojmlhmhgeeaa
