/-
 Layer 22 (slots): the statement SlotsKeepApart, walked.
 Conditions: none; every input.
-/
import Derived.Test.YtioojmlhmhgeeaaF22za
import Derived.Test.YtioojmlhmhgeeaaS22e
namespace Go.Proofs.Ytioojmlhmhgeeaa
open Go Go.E2 C22
set_option linter.unusedSimpArgs false
set_option maxHeartbeats 1000000
structure Op4 where
 kind : Int
 a : Int
 b : Str
 keep : List Int
def eO (x : Op4) : D := .agg [.int .i64 x.kind, .int .i64 x.a, .str x.b, .list (x.keep.map eI)]
attribute [go_sem] eO
@[go_sem] theorem eO_size (x : Op4) : sizeOk 4 (eO x) = true := rfl
@[go_sem] theorem eO_all (l : List Op4) : (l.map eO).all (sizeOk 4) = true := by rw [List.all_eq_true]; intro x hx; obtain ⟨s, _, rfl⟩ := List.mem_map.1 hx; rfl
theorem lv_fresh {m : Nat} (h1 : 1 ≤ m) (h2 : m ≤ 65536) : Lv (fresh m) 0 := ⟨okd_fresh h1 h2, rfl, rfl, fun c hc => by obtain rfl := (List.mem_replicate.1 hc).2; rfl, by simp [fresh]⟩
theorem put_len {cs x : List D} {t : Nat} (hx : x.length = 64) (hc : cs.length = 640) (ht : t < 10) : (List.take (t * 64) cs ++ x ++ List.drop (t * 64 + 64) cs).length = 640 := by
 rw [List.length_append, List.length_append, List.length_take, List.length_drop, hx, hc]; omega
theorem put_get {cs x : List D} {t : Nat} (hx : x.length = 64) (hc : cs.length = 640) (ht : t < 10) : List.take 64 (List.drop (t * 64) (List.take (t * 64) cs ++ x ++ List.drop (t * 64 + 64) cs)) = x := by
 have hl : (List.take (t * 64) cs).length = t * 64 := by rw [List.length_take, hc]; omega
 rw [List.append_assoc, List.drop_left' hl, List.take_append_of_le_length (by omega), List.take_of_length_le (by omega)]
theorem put_old {cs x : List D} {t j : Nat} (hj : j < t) (hc : cs.length = 640) (ht : t < 10) : List.take 64 (List.drop (j * 64) (List.take (t * 64) cs ++ x ++ List.drop (t * 64 + 64) cs)) = List.take 64 (List.drop (j * 64) cs) := by
 have hl : (List.take (t * 64) cs).length = t * 64 := by rw [List.length_take, hc]; omega
 rw [List.append_assoc, List.drop_append_of_le_length (by omega), List.take_append_of_le_length (by rw [List.length_drop, hl]; omega), List.drop_take, List.take_take]
 congr 1
 omega
theorem apart_ok (l : List Op4) (b : Int) (h0 : 0 ≤ b) (h1 : b < 256) : CallP Try.prog f_quietuslaw22_SlotsKeepApart [.list (l.map eO), .int .u8 b] (· = .d (.bool true)) := by
 refine CallP.of_deep (callT_of_W fol quietuslaw22_SlotsKeepApart_cp ?_)
 have hs : Sep ([] ++ []) noGh := trivial
 simp -dsimp (disch := first | omega | (simp only [go_sem]; omega)) only [go_sem, seval, Nat.reduceEqDiff, Nat.reduceLeDiff]
 (repeat (first | with_reducible refine W.seq ?_ | with_reducible refine W.block ?_ | ((first | with_reducible refine W.reg ?_ | with_reducible refine W.skip ?_ | with_reducible refine W.exit ?_ | with_reducible refine W.ret ?_ | with_reducible refine W.ifc ?_); simp -dsimp (disch := first | omega | (simp only [go_sem]; omega)) only [go_sem, seval, Nat.reduceEqDiff, Nat.reduceLeDiff])))
 (refine wC_sq (New_ok 10 (by omega) (by omega)) (hs) (by decide) ?_ ?_; (focus (simp -dsimp (disch := first | omega | (simp only [go_sem]; omega)) only [go_sem, seval, Nat.reduceEqDiff, Nat.reduceLeDiff] <;> rfl)))
 rintro _ _ G1 ⟨p, rfl, rfl⟩ hs1'
 have hs1 : Sep (DiskA p (fresh 10) :: []) G1 := hs1'
 clear hs1'
 by_cases hbig : 20 < l.length
 · have hbig' : (20 < (l.length : Int)) = True := eq_true (by omega)
   simp -dsimp (disch := first | omega | (simp only [go_sem]; omega)) only [go_sem, seval, Nat.reduceEqDiff, Nat.reduceLeDiff]
   (repeat' (first | with_reducible refine W.seq ?_ | with_reducible refine W.block ?_ | ((first | with_reducible refine W.reg ?_ | with_reducible refine W.skip ?_ | with_reducible refine W.exit ?_ | with_reducible refine W.ret ?_ | with_reducible refine W.ifc ?_ | ((first | with_reducible refine wG_decE (fun _ hG => ?_) (fun _ hG => ?_) | with_reducible refine wG_decFE (fun _ hG => ?_) (fun _ hG => ?_)) <;> (try simp -dsimp only [hG, decide_true, decide_false, not_true_eq_false, not_false_eq_true]) <;> clear hG)) <;> (try simp -dsimp (disch := first | omega | (simp only [go_sem]; omega)) only [go_sem, seval, Nat.reduceEqDiff, Nat.reduceLeDiff, hbig'])) | simp -dsimp (disch := first | omega | (simp only [go_sem]; omega)) only [go_sem, seval, Nat.reduceEqDiff, Nat.reduceLeDiff, hbig']))
   (refine wC_sq (sanity22_ok) ((show Sep ([] ++ (DiskA p (fresh 10) :: [])) G1 from hs1)) (by decide) ?_ ?_; (focus (simp -dsimp (disch := first | omega | (simp only [go_sem]; omega)) only [go_sem, seval, Nat.reduceEqDiff, Nat.reduceLeDiff] <;> rfl)))
   rintro _ _ G2 ⟨rfl, rfl⟩ hs2
   simp -dsimp (disch := first | omega | (simp only [go_sem]; omega)) only [go_sem, seval, Nat.reduceEqDiff, Nat.reduceLeDiff]
   (repeat (first | with_reducible refine W.seq ?_ | with_reducible refine W.block ?_ | ((first | with_reducible refine W.reg ?_ | with_reducible refine W.skip ?_ | with_reducible refine W.exit ?_ | with_reducible refine W.ret ?_ | with_reducible refine W.ifc ?_); simp -dsimp (disch := first | omega | (simp only [go_sem]; omega)) only [go_sem, seval, Nat.reduceEqDiff, Nat.reduceLeDiff])))
   exact Fin.eq rfl ⟨rfl, _, .refl _, rfl⟩
 have hbig' : (20 < (l.length : Int)) = False := eq_false (by omega)
 have hl20 : l.length ≤ 20 := by omega
 simp -dsimp (disch := first | omega | (simp only [go_sem]; omega)) only [go_sem, seval, Nat.reduceEqDiff, Nat.reduceLeDiff]
 (repeat' (first | with_reducible refine W.seq ?_ | with_reducible refine W.block ?_ | ((first | with_reducible refine W.reg ?_ | with_reducible refine W.skip ?_ | with_reducible refine W.exit ?_ | with_reducible refine W.ret ?_ | with_reducible refine W.ifc ?_ | ((first | with_reducible refine wG_decE (fun _ hG => ?_) (fun _ hG => ?_) | with_reducible refine wG_decFE (fun _ hG => ?_) (fun _ hG => ?_)) <;> (try simp -dsimp only [hG, decide_true, decide_false, not_true_eq_false, not_false_eq_true]) <;> clear hG)) <;> (try simp -dsimp (disch := first | omega | (simp only [go_sem]; omega)) only [go_sem, seval, Nat.reduceEqDiff, Nat.reduceLeDiff, hbig'])) | simp -dsimp (disch := first | omega | (simp only [go_sem]; omega)) only [go_sem, seval, Nat.reduceEqDiff, Nat.reduceLeDiff, hbig']))
 refine W.loop (fun q st => ∃ (i : Nat) (d : Dk) (G : Gh), i ≤ 10 ∧ q = 10 - i ∧ Lv d i ∧ d.cs.length = 10 ∧ (∀ j, j < i → topAt d j = filled b) ∧ Sep (DiskA p d :: []) G ∧
  st = (E [(0, .d (.list (l.map eO))), (1, .d (.int .u8 b)), (5, .d (.gp p 0)), (27, .d (.int .i64 i))], HB [], [], G))
  ⟨_, _, st_le (by (simp -dsimp (disch := first | omega | (simp only [go_sem]; omega)) only [go_sem, seval, Nat.reduceEqDiff, Nat.reduceLeDiff] <;> ((repeat' apply And.intro) <;> first | exact VLe.refl _ | (apply vle_int; omega) | (apply vle_int; simp; done) | exact VLe.own _ _ | exact VLe.nilown _ | exact VLe.norm _))), 0, fresh 10, G1, by omega, rfl, lv_fresh (by omega) (by omega), rfl, fun _ h => by omega, hs1, rfl⟩ ?_
 rintro q st ⟨i, d, G2, hi, rfl, hL, hdl, ht, hs2, rfl⟩
 (repeat (first | with_reducible refine W.seq ?_ | with_reducible refine W.block ?_ | ((first | with_reducible refine W.reg ?_ | with_reducible refine W.skip ?_ | with_reducible refine W.exit ?_ | with_reducible refine W.ret ?_ | with_reducible refine W.ifc ?_); simp -dsimp (disch := first | omega | (simp only [go_sem]; omega)) only [go_sem, seval, Nat.reduceEqDiff, Nat.reduceLeDiff])))
 refine wG_dec (fun g1 => ?_) (fun g1 => ?_)
 · have hi' : i < 10 := by omega
   obtain ⟨w1, w2, w3, w4⟩ := hL.wr (by omega) (a := i) (by omega) (filled b)
   (repeat' (first | with_reducible refine W.seq ?_ | with_reducible refine W.block ?_ | ((first | with_reducible refine W.reg ?_ | with_reducible refine W.skip ?_ | with_reducible refine W.exit ?_ | with_reducible refine W.ret ?_ | with_reducible refine W.ifc ?_ | (apply wC_P (Filled_ok b); (focus (simp -dsimp (disch := first | omega | (simp only [go_sem]; omega)) only [go_sem, seval, Nat.reduceEqDiff, Nat.reduceLeDiff] <;> rfl)); rintro _ rfl) | ((first | with_reducible refine wG_decE (fun _ hG => ?_) (fun _ hG => ?_) | with_reducible refine wG_decFE (fun _ hG => ?_) (fun _ hG => ?_)) <;> (try simp -dsimp only [hG, decide_true, decide_false, not_true_eq_false, not_false_eq_true]) <;> clear hG)) <;> (try simp -dsimp (disch := first | omega | (simp only [go_sem]; omega)) only [go_sem, seval, Nat.reduceEqDiff, Nat.reduceLeDiff])) | simp -dsimp (disch := first | omega | (simp only [go_sem]; omega)) only [go_sem, seval, Nat.reduceEqDiff, Nat.reduceLeDiff]))
   (refine wC_sq (Write_ok p d i (filled b) (by have := hL.st; omega)) (hs2) (by decide) ?_ ?_; (focus (simp -dsimp (disch := first | omega | (simp only [go_sem]; omega)) only [go_sem, seval, Nat.reduceEqDiff, Nat.reduceLeDiff] <;> rfl)))
   rintro _ _ G3 ⟨rfl, rfl⟩ hs3
   simp -dsimp (disch := first | omega | (simp only [go_sem]; omega)) only [go_sem, seval, Nat.reduceEqDiff, Nat.reduceLeDiff, w1]
   (repeat' (first | with_reducible refine W.seq ?_ | with_reducible refine W.block ?_ | ((first | with_reducible refine W.reg ?_ | with_reducible refine W.skip ?_ | with_reducible refine W.exit ?_ | with_reducible refine W.ret ?_ | with_reducible refine W.ifc ?_ | ((first | with_reducible refine wG_decE (fun _ hG => ?_) (fun _ hG => ?_) | with_reducible refine wG_decFE (fun _ hG => ?_) (fun _ hG => ?_)) <;> (try simp -dsimp only [hG, decide_true, decide_false, not_true_eq_false, not_false_eq_true]) <;> clear hG)) <;> (try simp -dsimp (disch := first | omega | (simp only [go_sem]; omega)) only [go_sem, seval, Nat.reduceEqDiff, Nat.reduceLeDiff, w1])) | simp -dsimp (disch := first | omega | (simp only [go_sem]; omega)) only [go_sem, seval, Nat.reduceEqDiff, Nat.reduceLeDiff, w1]))
   refine ⟨_, _, ?_, st_le (by (simp -dsimp (disch := first | omega | (simp only [go_sem]; omega)) only [go_sem, seval, Nat.reduceEqDiff, Nat.reduceLeDiff] <;> ((repeat' apply And.intro) <;> first | exact VLe.refl _ | (apply vle_int; omega) | (apply vle_int; simp; done) | exact VLe.own _ _ | exact VLe.nilown _ | exact VLe.norm _))), i + 1, _, G3, by omega, rfl, w2.mono (by omega), by omega, fun j hj => ?_, hs3, rfl⟩
   · omega
   · rw [w4]
     by_cases e : j = i
     · rw [if_pos e]
     · rw [if_neg e]; exact ht j (by omega)
 · obtain rfl : i = 10 := by omega
   obtain ⟨f1, f2, f3, f4⟩ := hL.fmtR (by omega) (f := 2) (m := 3) (by omega) (by omega)
   (repeat (first | with_reducible refine W.seq ?_ | with_reducible refine W.block ?_ | ((first | with_reducible refine W.reg ?_ | with_reducible refine W.skip ?_ | with_reducible refine W.exit ?_ | with_reducible refine W.ret ?_ | with_reducible refine W.ifc ?_); simp -dsimp (disch := first | omega | (simp only [go_sem]; omega)) only [go_sem, seval, Nat.reduceEqDiff, Nat.reduceLeDiff])))
   (refine wC_sq (Format_ok p d 2 3 (by have := hL.st; omega)) (hs2) (by decide) ?_ ?_; (focus (simp -dsimp (disch := first | omega | (simp only [go_sem]; omega)) only [go_sem, seval, Nat.reduceEqDiff, Nat.reduceLeDiff] <;> rfl)))
   rintro _ _ G3 ⟨rfl, rfl⟩ hs3'
   have hs3 : Sep (DiskA p (fmtR d 2 3).1 :: []) G3 := hs3'
   clear hs3'
   have f1' : (fmtR d 2 3).2 = 0 := f1
   simp -dsimp (disch := first | omega | (simp only [go_sem]; omega)) only [go_sem, seval, Nat.reduceEqDiff, Nat.reduceLeDiff, f1']
   (repeat' (first | with_reducible refine W.seq ?_ | with_reducible refine W.block ?_ | ((first | with_reducible refine W.reg ?_ | with_reducible refine W.skip ?_ | with_reducible refine W.exit ?_ | with_reducible refine W.ret ?_ | with_reducible refine W.ifc ?_ | ((first | with_reducible refine wG_decE (fun _ hG => ?_) (fun _ hG => ?_) | with_reducible refine wG_decFE (fun _ hG => ?_) (fun _ hG => ?_)) <;> (try simp -dsimp only [hG, decide_true, decide_false, not_true_eq_false, not_false_eq_true]) <;> clear hG)) <;> (try simp -dsimp (disch := first | omega | (simp only [go_sem]; omega)) only [go_sem, seval, Nat.reduceEqDiff, Nat.reduceLeDiff, f1'])) | simp -dsimp (disch := first | omega | (simp only [go_sem]; omega)) only [go_sem, seval, Nat.reduceEqDiff, Nat.reduceLeDiff, f1']))
   generalize (fmtR d 2 3).1 = d1 at hs3 f2 f3 f4
   have f2 : Lv d1 17 := f2.mono (by omega)
   have f3 : d1.cs.length = 10 := by omega
   have f4 : ∀ j, topAt d1 j = if 2 ≤ j ∧ j < 8 then mk1 1 [] else topAt d j := f4
   have hon := f2.openN (f := 2) 3 (by omega) fun i hi => by
    rw [f4, f4, if_pos (by omega), if_pos (by omega)]
    exact ⟨rfl, good_one⟩
   have hop : openR d1 2 3 = (d1, [], 0) := by
    have hp : placeB d1 2 3 = true := by unfold placeB; simp [f3]
    unfold openR
    rw [if_neg (by rw [hp]; simp)]
    have e : ((3 : Int)).toNat = 3 := rfl
    have e2 : openN d1 2 3 = (d1, [], 0) := hon
    rw [e, e2]
    simp
   (refine wC_sq (openS_ok p d1 2 3 (by have := f2.st; omega)) (hs3) (by decide) ?_ ?_; (focus (simp -dsimp (disch := first | omega | (simp only [go_sem]; omega)) only [go_sem, seval, Nat.reduceEqDiff, Nat.reduceLeDiff] <;> rfl)))
   rintro r3 post3 G4 h3 hs4'
   rw [hop] at h3
   obtain ⟨q, rfl, rfl⟩ : ∃ q, r3 = .tup [.gp q 0, .list [], .int .i64 0] ∧ post3 = [StA q p 2 3, DiskA p d1] := by
    rcases h3 with ⟨_, q, h, h'⟩ | ⟨h, _⟩
    · exact ⟨q, h, h'⟩
    · exact absurd rfl h
   have hs4 : Sep (StA q p 2 3 :: DiskA p d1 :: []) G4 := hs4'
   clear hs4' h3
   simp -dsimp (disch := first | omega | (simp only [go_sem]; omega)) only [go_sem, seval, Nat.reduceEqDiff, Nat.reduceLeDiff]
   (repeat' (first | with_reducible refine W.seq ?_ | with_reducible refine W.block ?_ | ((first | with_reducible refine W.reg ?_ | with_reducible refine W.skip ?_ | with_reducible refine W.exit ?_ | with_reducible refine W.ret ?_ | with_reducible refine W.ifc ?_ | ((first | with_reducible refine wG_decE (fun _ hG => ?_) (fun _ hG => ?_) | with_reducible refine wG_decFE (fun _ hG => ?_) (fun _ hG => ?_)) <;> (try simp -dsimp only [hG, decide_true, decide_false, not_true_eq_false, not_false_eq_true]) <;> clear hG)) <;> (try simp -dsimp (disch := first | omega | (simp only [go_sem]; omega)) only [go_sem, seval, Nat.reduceEqDiff, Nat.reduceLeDiff])) | simp -dsimp (disch := first | omega | (simp only [go_sem]; omega)) only [go_sem, seval, Nat.reduceEqDiff, Nat.reduceLeDiff]))
   refine W.loop (fun z st => ∃ (j : Nat) (d : Dk) (b11 b12 b15 : Blk) (G : Gh), j ≤ l.length ∧ z = l.length - j ∧ Lv d (17 + 6 * j) ∧ d.cs.length = 10 ∧ (∀ i, i < 2 ∨ 7 < i ∧ i < 10 → topAt d i = filled b) ∧ Sep (StA q p 2 3 :: DiskA p d :: []) G ∧
    st = (E [(1, .d (.int .u8 b)), (5, .d (.gp p 0)), (7, .d (.gp q 0)), (58, .d (.list (l.map eO))), (59, .d (.int .i64 l.length)), (60, .d (.int .i64 j))], HB [(11, b11), (12, b12), (15, b15)], [], G))
    ⟨_, _, st_leB (by (simp -dsimp (disch := first | omega | (simp only [go_sem]; omega)) only [go_sem, seval, Nat.reduceEqDiff, Nat.reduceLeDiff] <;> ((repeat' apply And.intro) <;> first | exact VLe.refl _ | (apply vle_int; omega) | (apply vle_int; simp; done) | exact VLe.own _ _ | exact VLe.nilown _ | exact VLe.norm _))) (HB_pad [] [11, 12, 15] rfl).symm, 0, d1, _, _, _, G4, by omega, rfl, f2.mono (by omega), f3, fun i hi => by rw [f4, if_neg (by omega), ht i (by omega)], hs4, rfl⟩ ?_
   rintro z st ⟨j, d2, b11, b12, b15, G5, hj, rfl, hL2, hdl2, htop, hs5, rfl⟩
   (repeat (first | with_reducible refine W.seq ?_ | with_reducible refine W.block ?_ | ((first | with_reducible refine W.reg ?_ | with_reducible refine W.skip ?_ | with_reducible refine W.exit ?_ | with_reducible refine W.ret ?_ | with_reducible refine W.ifc ?_); simp -dsimp (disch := first | omega | (simp only [go_sem]; omega)) only [go_sem, seval, Nat.reduceEqDiff, Nat.reduceLeDiff])))
   refine wG_dec (fun g2 => ?_) (fun g2 => ?_)
   · have hj' : j < l.length := by omega
     (repeat' (first | with_reducible refine W.seq ?_ | with_reducible refine W.block ?_ | ((first | with_reducible refine W.reg ?_ | with_reducible refine W.skip ?_ | with_reducible refine W.exit ?_ | with_reducible refine W.ret ?_ | with_reducible refine W.ifc ?_ | ((first | with_reducible refine wG_decE (fun _ hG => ?_) (fun _ hG => ?_) | with_reducible refine wG_decFE (fun _ hG => ?_) (fun _ hG => ?_)) <;> (try simp -dsimp only [hG, decide_true, decide_false, not_true_eq_false, not_false_eq_true]) <;> clear hG)) <;> (try simp -dsimp (disch := first | omega | (simp only [go_sem]; omega)) only [go_sem, seval, Nat.reduceEqDiff, Nat.reduceLeDiff])) | simp -dsimp (disch := first | omega | (simp only [go_sem]; omega)) only [go_sem, seval, Nat.reduceEqDiff, Nat.reduceLeDiff]))
     have hz : (zr 640 (D.int .u8 0)).length = 640 := zr_len _ _
     generalize zr 640 (D.int .u8 0) = z12 at hz ⊢
     refine W.loop (fun z st => ∃ (t : Nat) (cs : List D), t ≤ 10 ∧ z = 10 - t ∧ cs.length = 640 ∧ (∀ i, i < t → List.take 64 (List.drop (i * 64) cs) = (topAt d2 i).1.map eB) ∧
      st = (E [(1, .d (.int .u8 b)), (5, .d (.gp p 0)), (7, .d (.gp q 0)), (11, .ptr 0 11 (b11.g + 1) 0), (12, .ptr 0 12 (b12.g + 1) 0), (58, .d (.list (l.map eO))), (59, .d (.int .i64 l.length)), (60, .d (.int .i64 j)), (64, .d (.int .i64 t))],
       HB [(11, ⟨b11.g + 1, some [.int .i64 l[j].kind, .int .i64 l[j].a, .str l[j].b, .list (l[j].keep.map eI)]⟩), (12, ⟨b12.g + 1, some cs⟩), (15, b15)], [], G5))
      ⟨_, _, st_le (by (simp -dsimp (disch := first | omega | (simp only [go_sem]; omega)) only [go_sem, seval, Nat.reduceEqDiff, Nat.reduceLeDiff] <;> ((repeat' apply And.intro) <;> first | exact VLe.refl _ | (apply vle_int; omega) | (apply vle_int; simp; done) | exact VLe.own _ _ | exact VLe.nilown _ | exact VLe.norm _))), 0, z12, by omega, rfl, hz, fun _ h => by omega, rfl⟩ ?_
     rintro z st ⟨t, cs, ht10, rfl, hcl, hget, rfl⟩
     (repeat (first | with_reducible refine W.seq ?_ | with_reducible refine W.block ?_ | ((first | with_reducible refine W.reg ?_ | with_reducible refine W.skip ?_ | with_reducible refine W.exit ?_ | with_reducible refine W.ret ?_ | with_reducible refine W.ifc ?_); simp -dsimp (disch := first | omega | (simp only [go_sem]; omega)) only [go_sem, seval, Nat.reduceEqDiff, Nat.reduceLeDiff])))
     refine wG_dec (fun g3 => ?_) (fun g3 => ?_)
     · have ht' : t < 10 := by omega
       have hrd := hL2.rd (i := t) (by omega)
       have h9 : t ≤ 9 := by omega
       have h576 : t * 64 ≤ 576 := by omega
       (repeat' (first | with_reducible refine W.seq ?_ | with_reducible refine W.block ?_ | ((first | with_reducible refine W.reg ?_ | with_reducible refine W.skip ?_ | with_reducible refine W.exit ?_ | with_reducible refine W.ret ?_ | with_reducible refine W.ifc ?_ | (apply wC_Q ((Read_ok p d2 t).q hs5.swap); (focus (simp -dsimp (disch := first | omega | (simp only [go_sem]; omega)) only [go_sem, seval, Nat.reduceEqDiff, Nat.reduceLeDiff, hrd] <;> rfl)); rintro _ rfl; try simp -dsimp (disch := first | omega | (simp only [go_sem]; omega)) only [go_sem, seval, Nat.reduceEqDiff, Nat.reduceLeDiff, hrd]) | ((first | with_reducible refine wG_decE (fun _ hG => ?_) (fun _ hG => ?_) | with_reducible refine wG_decFE (fun _ hG => ?_) (fun _ hG => ?_)) <;> (try simp -dsimp only [hG, decide_true, decide_false, not_true_eq_false, not_false_eq_true]) <;> clear hG)) <;> (try simp -dsimp (disch := first | omega | (simp only [go_sem]; omega)) only [go_sem, seval, Nat.reduceEqDiff, Nat.reduceLeDiff, hrd, hcl, h9, h576, ht'])) | simp -dsimp (disch := first | omega | (simp only [go_sem]; omega)) only [go_sem, seval, Nat.reduceEqDiff, Nat.reduceLeDiff, hrd, hcl, h9, h576, ht']))
       refine ⟨_, _, ?_, st_le (by (simp -dsimp (disch := first | omega | (simp only [go_sem]; omega)) only [go_sem, seval, Nat.reduceEqDiff, Nat.reduceLeDiff] <;> ((repeat' apply And.intro) <;> first | exact VLe.refl _ | (apply vle_int; omega) | (apply vle_int; simp; done) | exact VLe.own _ _ | exact VLe.nilown _ | exact VLe.norm _))), t + 1, _, by omega, rfl, put_len (sec_len (topAt d2 t)) hcl ht', fun i hi => ?_, rfl⟩
       · omega
       · by_cases e : i = t
         · subst e; exact put_get (sec_len _) hcl ht'
         · rw [put_old (by omega) hcl ht']; exact hget i (by omega)
     · obtain rfl : t = 10 := by omega
       (repeat (first | with_reducible refine W.seq ?_ | with_reducible refine W.block ?_ | ((first | with_reducible refine W.reg ?_ | with_reducible refine W.skip ?_ | with_reducible refine W.exit ?_ | with_reducible refine W.ret ?_ | with_reducible refine W.ifc ?_); simp -dsimp (disch := first | omega | (simp only [go_sem]; omega)) only [go_sem, seval, Nat.reduceEqDiff, Nat.reduceLeDiff])))
       have hst2 := hL2.st
       obtain ⟨kk, hkk⟩ : ∃ kk, kk = l[j].kind := ⟨_, rfl⟩
       obtain ⟨aa, haa⟩ : ∃ aa, aa = l[j].a := ⟨_, rfl⟩
       rw [← hkk, ← haa]
       have hch : ∀ bs, 0 ≤ aa → aa < 3 → (changeR d2 2 aa bs).2 = 0 ∧ Lv (changeR d2 2 aa bs).1 (17 + 6 * j + 6) ∧ (changeR d2 2 aa bs).1.cs.length = 10 ∧ ∀ i : Nat, i < 10 → ¬ (2 ≤ i ∧ i < 8 ∧ ((i : Int) - 2) / 2 = aa) → topAt (changeR d2 2 aa bs).1 i = topAt d2 i := by
        intro bs ha0 ha3
        obtain ⟨an, rfl⟩ : ∃ an : Nat, aa = an := ⟨aa.toNat, by omega⟩
        obtain ⟨c1, c2, c3, c4⟩ := hL2.changeR (by omega) (f := 2) (i := an) (by omega) bs
        exact ⟨c1, c2, c3.trans hdl2, fun i _ hn => c4 i (by omega) (by omega)⟩
       have hput : ∀ bs, (55 < bs.length ∨ bs.length < 1 ∨ True) → ∀ d3, (d3 = d2 ∨ 0 ≤ aa ∧ aa < 3 ∧ d3 = (changeR d2 2 aa bs).1) → Lv d3 (17 + 6 * j + 6) ∧ d3.cs.length = 10 ∧ ∀ i : Nat, i < 10 → ¬ (2 ≤ i ∧ i < 8 ∧ ((i : Int) - 2) / 2 = aa) → topAt d3 i = topAt d2 i := by
        rintro bs - d3 (rfl | ⟨ha0, ha3, rfl⟩)
        · exact ⟨hL2.mono (by omega), hdl2, fun _ _ _ => rfl⟩
        · exact (hch bs ha0 ha3).2
       have hP : (putR d2 2 3 aa l[j].b).1 = d2 ∨ 0 ≤ aa ∧ aa < 3 ∧ (putR d2 2 3 aa l[j].b).1 = (changeR d2 2 aa l[j].b).1 := by
        unfold putR
        split
        · exact .inl rfl
        · exact .inr ⟨by omega, by omega, rfl⟩
       have hK : (killR d2 2 3 aa).1 = d2 ∨ 0 ≤ aa ∧ aa < 3 ∧ (killR d2 2 3 aa).1 = (changeR d2 2 aa []).1 := by
        unfold killR
        split
        · exact .inl rfl
        · exact .inr ⟨by omega, by omega, rfl⟩
       have fin : ∀ d3 : Dk, (kk < 2 → Lv d3 (17 + 6 * j + 6) ∧ d3.cs.length = 10 ∧ ∀ i : Nat, i < 10 → ¬ (2 ≤ i ∧ i < 8 ∧ ((i : Int) - 2) / 2 = aa) → topAt d3 i = topAt d2 i) → (¬ kk < 2 → d3 = d2) →
        Lv d3 (17 + 6 * j + 6) ∧ d3.cs.length = 10 ∧ ∀ i : Nat, i < 10 → ¬ (kk < 2 ∧ 2 ≤ i ∧ i < 8 ∧ ((i : Int) - 2) / 2 = aa) → topAt d3 i = topAt d2 i := by
        intro d3 ha hb
        by_cases hk2 : kk < 2
        · obtain ⟨a1, a2, a3⟩ := ha hk2
          exact ⟨a1, a2, fun i hi hn => a3 i hi fun h => hn ⟨hk2, h⟩⟩
        · obtain rfl := hb hk2
          exact ⟨hL2.mono (by omega), hdl2, fun _ _ _ => rfl⟩
       have same : Lv d2 (17 + 6 * j + 6) ∧ d2.cs.length = 10 ∧ ∀ i : Nat, i < 10 → ¬ (2 ≤ i ∧ i < 8 ∧ ((i : Int) - 2) / 2 = aa) → topAt d2 i = topAt d2 i := ⟨hL2.mono (by omega), hdl2, fun _ _ _ => rfl⟩
       by_cases k0 : kk = 0
       · have k0' : (kk = 0) = True := eq_true k0
         simp -dsimp (disch := first | omega | (simp only [go_sem]; omega)) only [go_sem, seval, Nat.reduceEqDiff, Nat.reduceLeDiff, k0']
         (repeat' (first | with_reducible refine W.seq ?_ | with_reducible refine W.block ?_ | ((first | with_reducible refine W.reg ?_ | with_reducible refine W.skip ?_ | with_reducible refine W.exit ?_ | with_reducible refine W.ret ?_ | with_reducible refine W.ifc ?_ | ((first | with_reducible refine wG_decE (fun _ hG => ?_) (fun _ hG => ?_) | with_reducible refine wG_decFE (fun _ hG => ?_) (fun _ hG => ?_)) <;> (try simp -dsimp only [hG, decide_true, decide_false, not_true_eq_false, not_false_eq_true]) <;> clear hG)) <;> (try simp -dsimp (disch := first | omega | (simp only [go_sem]; omega)) only [go_sem, seval, Nat.reduceEqDiff, Nat.reduceLeDiff, k0'])) | simp -dsimp (disch := first | omega | (simp only [go_sem]; omega)) only [go_sem, seval, Nat.reduceEqDiff, Nat.reduceLeDiff, k0']))
         (refine wC_sq (put_ok q p d2 2 3 aa l[j].b (by omega) (by omega) (by omega)) (hs5) (by decide) ?_ ?_; (focus (simp -dsimp (disch := first | omega | (simp only [go_sem]; omega)) only [go_sem, seval, Nat.reduceEqDiff, Nat.reduceLeDiff] <;> rfl)))
         rintro _ _ G6 ⟨rfl, rfl⟩ hs6'
         have hs6 : Sep (StA q p 2 3 :: DiskA p (putR d2 2 3 aa l[j].b).1 :: []) G6 := hs6'
         clear hs6'
         have hd3 := fin _ (fun _ => hput _ (.inr (.inr trivial)) _ hP) (fun h => absurd (by omega) h)
         generalize (putR d2 2 3 aa l[j].b).1 = d3 at hs6 hd3
         simp -dsimp (disch := first | omega | (simp only [go_sem]; omega)) only [go_sem, seval, Nat.reduceEqDiff, Nat.reduceLeDiff]
         (repeat' (first | with_reducible refine W.seq ?_ | with_reducible refine W.block ?_ | ((first | with_reducible refine W.reg ?_ | with_reducible refine W.skip ?_ | with_reducible refine W.exit ?_ | with_reducible refine W.ret ?_ | with_reducible refine W.ifc ?_ | ((first | with_reducible refine wG_decE (fun _ hG => ?_) (fun _ hG => ?_) | with_reducible refine wG_decFE (fun _ hG => ?_) (fun _ hG => ?_)) <;> (try simp -dsimp only [hG, decide_true, decide_false, not_true_eq_false, not_false_eq_true]) <;> clear hG)) <;> (try simp -dsimp (disch := first | omega | (simp only [go_sem]; omega)) only [go_sem, seval, Nat.reduceEqDiff, Nat.reduceLeDiff])) | simp -dsimp (disch := first | omega | (simp only [go_sem]; omega)) only [go_sem, seval, Nat.reduceEqDiff, Nat.reduceLeDiff]))
         obtain ⟨hL3, hdl3, hsame⟩ := hd3
         refine W.loop (fun z st => ∃ (i : Nat) (b15 : Blk), i ≤ 10 ∧ z = 10 - i ∧
          st = (E [(1, .d (.int .u8 b)), (5, .d (.gp p 0)), (7, .d (.gp q 0)), (11, .ptr 0 11 (b11.g + 1) 0), (12, .ptr 0 12 (b12.g + 1) 0), (58, .d (.list (l.map eO))), (59, .d (.int .i64 l.length)), (60, .d (.int .i64 j)), (98, .d (.int .i64 i))],
           HB [(11, ⟨b11.g + 1, some [.int .i64 kk, .int .i64 aa, .str l[j].b, .list (l[j].keep.map eI)]⟩), (12, ⟨b12.g + 1, some cs⟩), (15, b15)], [], G6))
          ⟨_, _, st_le (by (simp -dsimp (disch := first | omega | (simp only [go_sem]; omega)) only [go_sem, seval, Nat.reduceEqDiff, Nat.reduceLeDiff] <;> ((repeat' apply And.intro) <;> first | exact VLe.refl _ | (apply vle_int; omega) | (apply vle_int; simp; done) | exact VLe.own _ _ | exact VLe.nilown _ | exact VLe.norm _))), 0, _, by omega, rfl, rfl⟩ ?_
         rintro z st ⟨i, b15, hi10, rfl, rfl⟩
         (repeat (first | with_reducible refine W.seq ?_ | with_reducible refine W.block ?_ | ((first | with_reducible refine W.reg ?_ | with_reducible refine W.skip ?_ | with_reducible refine W.exit ?_ | with_reducible refine W.ret ?_ | with_reducible refine W.ifc ?_); simp -dsimp (disch := first | omega | (simp only [go_sem]; omega)) only [go_sem, seval, Nat.reduceEqDiff, Nat.reduceLeDiff])))
         refine wG_dec (fun g4 => ?_) (fun g4 => ?_)
         · have hi' : i < 10 := by omega
           have hrd := hL3.rd (i := i) (by omega)
           have hgi := hget i hi'
           have h9 : i ≤ 9 := by omega
           have h576 : i * 64 ≤ 576 := by omega
           have h64 : 64 ≤ 640 - i * 64 := by omega
           have htd : 2 ≤ i → ((i : Int) - 2).tdiv 2 = ((i : Int) - 2) / 2 := fun h => Int.tdiv_eq_ediv_of_nonneg (by omega)
           have hsm := hsame i hi'
           have hfill : (i : Int) < 2 ∨ 7 < (i : Int) → topAt d3 i = filled b := fun h => by rw [hsame i hi' (by omega)]; exact htop i (by omega)
           generalize topAt d3 i = s3 at hrd hsm hfill
           generalize topAt d2 i = s2 at hgi hsm
           (repeat' (first | with_reducible refine W.seq ?_ | with_reducible refine W.block ?_ | ((first | with_reducible refine W.reg ?_ | with_reducible refine W.skip ?_ | with_reducible refine W.exit ?_ | with_reducible refine W.ret ?_ | with_reducible refine W.ifc ?_ | (apply wC_Q ((Read_ok p d3 i).q hs6.swap); (focus (simp -dsimp (disch := first | omega | (simp only [go_sem]; omega)) only [go_sem, seval, Nat.reduceEqDiff, Nat.reduceLeDiff, hrd] <;> rfl)); rintro _ rfl; try simp -dsimp (disch := first | omega | (simp only [go_sem]; omega)) only [go_sem, seval, Nat.reduceEqDiff, Nat.reduceLeDiff, hrd]) | (apply wC_P (Filled_ok b); (focus (simp -dsimp (disch := first | omega | (simp only [go_sem]; omega)) only [go_sem, seval, Nat.reduceEqDiff, Nat.reduceLeDiff] <;> rfl)); rintro _ rfl) | ((first | with_reducible refine wG_decE (fun _ hG => ?_) (fun _ hG => ?_) | with_reducible refine wG_decFE (fun _ hG => ?_) (fun _ hG => ?_)) <;> (try simp -dsimp only [hG, decide_true, decide_false, not_true_eq_false, not_false_eq_true]) <;> clear hG)) <;> (try simp -dsimp (disch := first | omega | (simp only [go_sem]; omega)) only [go_sem, seval, Nat.reduceEqDiff, Nat.reduceLeDiff, hrd, hcl, hgi, h9, h576, h64, htd])) | simp -dsimp (disch := first | omega | (simp only [go_sem]; omega)) only [go_sem, seval, Nat.reduceEqDiff, Nat.reduceLeDiff, hrd, hcl, hgi, h9, h576, h64, htd]))
           all_goals first
            | (refine ⟨_, _, ?_, st_le (by (simp -dsimp (disch := first | omega | (simp only [go_sem]; omega)) only [go_sem, seval, Nat.reduceEqDiff, Nat.reduceLeDiff] <;> ((repeat' apply And.intro) <;> first | exact VLe.refl _ | (apply vle_int; omega) | (apply vle_int; simp; done) | exact VLe.own _ _ | exact VLe.nilown _ | exact VLe.norm _))), i + 1, _, by omega, rfl, rfl⟩; omega)
            | (exfalso; have hh := hsm (fun hh => by omega); contradiction)
            | (exfalso; have hh := hfill (by omega); contradiction)
            | trace_state
         · obtain rfl : i = 10 := by omega
           (repeat (first | with_reducible refine W.seq ?_ | with_reducible refine W.block ?_ | ((first | with_reducible refine W.reg ?_ | with_reducible refine W.skip ?_ | with_reducible refine W.exit ?_ | with_reducible refine W.ret ?_ | with_reducible refine W.ifc ?_); simp -dsimp (disch := first | omega | (simp only [go_sem]; omega)) only [go_sem, seval, Nat.reduceEqDiff, Nat.reduceLeDiff])))
           refine ⟨_, _, ?_, st_le (by (simp -dsimp (disch := first | omega | (simp only [go_sem]; omega)) only [go_sem, seval, Nat.reduceEqDiff, Nat.reduceLeDiff] <;> ((repeat' apply And.intro) <;> first | exact VLe.refl _ | (apply vle_int; omega) | (apply vle_int; simp; done) | exact VLe.own _ _ | exact VLe.nilown _ | exact VLe.norm _))), j + 1, d3, _, _, _, G6, by omega, rfl, hL3.mono (by omega), hdl3, fun i hi => ?_, hs6, rfl⟩
           · omega
           · rw [hsame i (by omega) (by omega)]; exact htop i hi
       by_cases k1 : kk = 1
       · have k0' : (kk = 0) = False := eq_false k0
         have k1' : (kk = 1) = True := eq_true k1
         simp -dsimp (disch := first | omega | (simp only [go_sem]; omega)) only [go_sem, seval, Nat.reduceEqDiff, Nat.reduceLeDiff, k0', k1']
         (repeat' (first | with_reducible refine W.seq ?_ | with_reducible refine W.block ?_ | ((first | with_reducible refine W.reg ?_ | with_reducible refine W.skip ?_ | with_reducible refine W.exit ?_ | with_reducible refine W.ret ?_ | with_reducible refine W.ifc ?_ | ((first | with_reducible refine wG_decE (fun _ hG => ?_) (fun _ hG => ?_) | with_reducible refine wG_decFE (fun _ hG => ?_) (fun _ hG => ?_)) <;> (try simp -dsimp only [hG, decide_true, decide_false, not_true_eq_false, not_false_eq_true]) <;> clear hG)) <;> (try simp -dsimp (disch := first | omega | (simp only [go_sem]; omega)) only [go_sem, seval, Nat.reduceEqDiff, Nat.reduceLeDiff, k0', k1'])) | simp -dsimp (disch := first | omega | (simp only [go_sem]; omega)) only [go_sem, seval, Nat.reduceEqDiff, Nat.reduceLeDiff, k0', k1']))
         (refine wC_sq (kill_ok q p d2 2 3 aa (by omega) (by omega) (by omega)) (hs5) (by decide) ?_ ?_; (focus (simp -dsimp (disch := first | omega | (simp only [go_sem]; omega)) only [go_sem, seval, Nat.reduceEqDiff, Nat.reduceLeDiff] <;> rfl)))
         rintro _ _ G6 ⟨rfl, rfl⟩ hs6'
         have hs6 : Sep (StA q p 2 3 :: DiskA p (killR d2 2 3 aa).1 :: []) G6 := hs6'
         clear hs6'
         have hd3 := fin _ (fun _ => hput _ (.inr (.inr trivial)) _ hK) (fun h => absurd (by omega) h)
         generalize (killR d2 2 3 aa).1 = d3 at hs6 hd3
         simp -dsimp (disch := first | omega | (simp only [go_sem]; omega)) only [go_sem, seval, Nat.reduceEqDiff, Nat.reduceLeDiff]
         (repeat' (first | with_reducible refine W.seq ?_ | with_reducible refine W.block ?_ | ((first | with_reducible refine W.reg ?_ | with_reducible refine W.skip ?_ | with_reducible refine W.exit ?_ | with_reducible refine W.ret ?_ | with_reducible refine W.ifc ?_ | ((first | with_reducible refine wG_decE (fun _ hG => ?_) (fun _ hG => ?_) | with_reducible refine wG_decFE (fun _ hG => ?_) (fun _ hG => ?_)) <;> (try simp -dsimp only [hG, decide_true, decide_false, not_true_eq_false, not_false_eq_true]) <;> clear hG)) <;> (try simp -dsimp (disch := first | omega | (simp only [go_sem]; omega)) only [go_sem, seval, Nat.reduceEqDiff, Nat.reduceLeDiff])) | simp -dsimp (disch := first | omega | (simp only [go_sem]; omega)) only [go_sem, seval, Nat.reduceEqDiff, Nat.reduceLeDiff]))
         obtain ⟨hL3, hdl3, hsame⟩ := hd3
         refine W.loop (fun z st => ∃ (i : Nat) (b15 : Blk), i ≤ 10 ∧ z = 10 - i ∧
          st = (E [(1, .d (.int .u8 b)), (5, .d (.gp p 0)), (7, .d (.gp q 0)), (11, .ptr 0 11 (b11.g + 1) 0), (12, .ptr 0 12 (b12.g + 1) 0), (58, .d (.list (l.map eO))), (59, .d (.int .i64 l.length)), (60, .d (.int .i64 j)), (98, .d (.int .i64 i))],
           HB [(11, ⟨b11.g + 1, some [.int .i64 kk, .int .i64 aa, .str l[j].b, .list (l[j].keep.map eI)]⟩), (12, ⟨b12.g + 1, some cs⟩), (15, b15)], [], G6))
          ⟨_, _, st_le (by (simp -dsimp (disch := first | omega | (simp only [go_sem]; omega)) only [go_sem, seval, Nat.reduceEqDiff, Nat.reduceLeDiff] <;> ((repeat' apply And.intro) <;> first | exact VLe.refl _ | (apply vle_int; omega) | (apply vle_int; simp; done) | exact VLe.own _ _ | exact VLe.nilown _ | exact VLe.norm _))), 0, _, by omega, rfl, rfl⟩ ?_
         rintro z st ⟨i, b15, hi10, rfl, rfl⟩
         (repeat (first | with_reducible refine W.seq ?_ | with_reducible refine W.block ?_ | ((first | with_reducible refine W.reg ?_ | with_reducible refine W.skip ?_ | with_reducible refine W.exit ?_ | with_reducible refine W.ret ?_ | with_reducible refine W.ifc ?_); simp -dsimp (disch := first | omega | (simp only [go_sem]; omega)) only [go_sem, seval, Nat.reduceEqDiff, Nat.reduceLeDiff])))
         refine wG_dec (fun g4 => ?_) (fun g4 => ?_)
         · have hi' : i < 10 := by omega
           have hrd := hL3.rd (i := i) (by omega)
           have hgi := hget i hi'
           have h9 : i ≤ 9 := by omega
           have h576 : i * 64 ≤ 576 := by omega
           have h64 : 64 ≤ 640 - i * 64 := by omega
           have htd : 2 ≤ i → ((i : Int) - 2).tdiv 2 = ((i : Int) - 2) / 2 := fun h => Int.tdiv_eq_ediv_of_nonneg (by omega)
           have hsm := hsame i hi'
           have hfill : (i : Int) < 2 ∨ 7 < (i : Int) → topAt d3 i = filled b := fun h => by rw [hsame i hi' (by omega)]; exact htop i (by omega)
           generalize topAt d3 i = s3 at hrd hsm hfill
           generalize topAt d2 i = s2 at hgi hsm
           (repeat' (first | with_reducible refine W.seq ?_ | with_reducible refine W.block ?_ | ((first | with_reducible refine W.reg ?_ | with_reducible refine W.skip ?_ | with_reducible refine W.exit ?_ | with_reducible refine W.ret ?_ | with_reducible refine W.ifc ?_ | (apply wC_Q ((Read_ok p d3 i).q hs6.swap); (focus (simp -dsimp (disch := first | omega | (simp only [go_sem]; omega)) only [go_sem, seval, Nat.reduceEqDiff, Nat.reduceLeDiff, hrd] <;> rfl)); rintro _ rfl; try simp -dsimp (disch := first | omega | (simp only [go_sem]; omega)) only [go_sem, seval, Nat.reduceEqDiff, Nat.reduceLeDiff, hrd]) | (apply wC_P (Filled_ok b); (focus (simp -dsimp (disch := first | omega | (simp only [go_sem]; omega)) only [go_sem, seval, Nat.reduceEqDiff, Nat.reduceLeDiff] <;> rfl)); rintro _ rfl) | ((first | with_reducible refine wG_decE (fun _ hG => ?_) (fun _ hG => ?_) | with_reducible refine wG_decFE (fun _ hG => ?_) (fun _ hG => ?_)) <;> (try simp -dsimp only [hG, decide_true, decide_false, not_true_eq_false, not_false_eq_true]) <;> clear hG)) <;> (try simp -dsimp (disch := first | omega | (simp only [go_sem]; omega)) only [go_sem, seval, Nat.reduceEqDiff, Nat.reduceLeDiff, hrd, hcl, hgi, h9, h576, h64, htd])) | simp -dsimp (disch := first | omega | (simp only [go_sem]; omega)) only [go_sem, seval, Nat.reduceEqDiff, Nat.reduceLeDiff, hrd, hcl, hgi, h9, h576, h64, htd]))
           all_goals first
            | (refine ⟨_, _, ?_, st_le (by (simp -dsimp (disch := first | omega | (simp only [go_sem]; omega)) only [go_sem, seval, Nat.reduceEqDiff, Nat.reduceLeDiff] <;> ((repeat' apply And.intro) <;> first | exact VLe.refl _ | (apply vle_int; omega) | (apply vle_int; simp; done) | exact VLe.own _ _ | exact VLe.nilown _ | exact VLe.norm _))), i + 1, _, by omega, rfl, rfl⟩; omega)
            | (exfalso; have hh := hsm (fun hh => by omega); contradiction)
            | (exfalso; have hh := hfill (by omega); contradiction)
            | trace_state
         · obtain rfl : i = 10 := by omega
           (repeat (first | with_reducible refine W.seq ?_ | with_reducible refine W.block ?_ | ((first | with_reducible refine W.reg ?_ | with_reducible refine W.skip ?_ | with_reducible refine W.exit ?_ | with_reducible refine W.ret ?_ | with_reducible refine W.ifc ?_); simp -dsimp (disch := first | omega | (simp only [go_sem]; omega)) only [go_sem, seval, Nat.reduceEqDiff, Nat.reduceLeDiff])))
           refine ⟨_, _, ?_, st_le (by (simp -dsimp (disch := first | omega | (simp only [go_sem]; omega)) only [go_sem, seval, Nat.reduceEqDiff, Nat.reduceLeDiff] <;> ((repeat' apply And.intro) <;> first | exact VLe.refl _ | (apply vle_int; omega) | (apply vle_int; simp; done) | exact VLe.own _ _ | exact VLe.nilown _ | exact VLe.norm _))), j + 1, d3, _, _, _, G6, by omega, rfl, hL3.mono (by omega), hdl3, fun i hi => ?_, hs6, rfl⟩
           · omega
           · rw [hsame i (by omega) (by omega)]; exact htop i hi
       by_cases k2 : kk = 2
       · have k0' : (kk = 0) = False := eq_false k0
         have k1' : (kk = 1) = False := eq_false k1
         have k2' : (kk = 2) = True := eq_true k2
         simp -dsimp (disch := first | omega | (simp only [go_sem]; omega)) only [go_sem, seval, Nat.reduceEqDiff, Nat.reduceLeDiff, k0', k1', k2']
         (repeat' (first | with_reducible refine W.seq ?_ | with_reducible refine W.block ?_ | ((first | with_reducible refine W.reg ?_ | with_reducible refine W.skip ?_ | with_reducible refine W.exit ?_ | with_reducible refine W.ret ?_ | with_reducible refine W.ifc ?_ | ((first | with_reducible refine wG_decE (fun _ hG => ?_) (fun _ hG => ?_) | with_reducible refine wG_decFE (fun _ hG => ?_) (fun _ hG => ?_)) <;> (try simp -dsimp only [hG, decide_true, decide_false, not_true_eq_false, not_false_eq_true]) <;> clear hG)) <;> (try simp -dsimp (disch := first | omega | (simp only [go_sem]; omega)) only [go_sem, seval, Nat.reduceEqDiff, Nat.reduceLeDiff, k0', k1', k2'])) | simp -dsimp (disch := first | omega | (simp only [go_sem]; omega)) only [go_sem, seval, Nat.reduceEqDiff, Nat.reduceLeDiff, k0', k1', k2']))
         (refine wC_sq (getS_ok q p d2 2 3 aa (by omega) (by omega)) (hs5) (by decide) ?_ ?_; (focus (simp -dsimp (disch := first | omega | (simp only [go_sem]; omega)) only [go_sem, seval, Nat.reduceEqDiff, Nat.reduceLeDiff] <;> rfl)))
         rintro _ _ G6 ⟨rfl, rfl⟩ hs6'
         have hs6 : Sep (StA q p 2 3 :: DiskA p d2 :: []) G6 := hs6'
         clear hs6'
         have hd3 := fin _ (fun _ => same) (fun _ => rfl)
         obtain ⟨d3, hd3e⟩ : ∃ d3, d3 = d2 := ⟨_, rfl⟩
         rw [← hd3e] at hs6
         have hd3 := fin d3 (fun _ => by rw [hd3e]; exact same) (fun _ => hd3e)
         simp -dsimp (disch := first | omega | (simp only [go_sem]; omega)) only [go_sem, seval, Nat.reduceEqDiff, Nat.reduceLeDiff]
         (repeat' (first | with_reducible refine W.seq ?_ | with_reducible refine W.block ?_ | ((first | with_reducible refine W.reg ?_ | with_reducible refine W.skip ?_ | with_reducible refine W.exit ?_ | with_reducible refine W.ret ?_ | with_reducible refine W.ifc ?_ | ((first | with_reducible refine wG_decE (fun _ hG => ?_) (fun _ hG => ?_) | with_reducible refine wG_decFE (fun _ hG => ?_) (fun _ hG => ?_)) <;> (try simp -dsimp only [hG, decide_true, decide_false, not_true_eq_false, not_false_eq_true]) <;> clear hG)) <;> (try simp -dsimp (disch := first | omega | (simp only [go_sem]; omega)) only [go_sem, seval, Nat.reduceEqDiff, Nat.reduceLeDiff])) | simp -dsimp (disch := first | omega | (simp only [go_sem]; omega)) only [go_sem, seval, Nat.reduceEqDiff, Nat.reduceLeDiff]))
         obtain ⟨hL3, hdl3, hsame⟩ := hd3
         refine W.loop (fun z st => ∃ (i : Nat) (b15 : Blk), i ≤ 10 ∧ z = 10 - i ∧
          st = (E [(1, .d (.int .u8 b)), (5, .d (.gp p 0)), (7, .d (.gp q 0)), (11, .ptr 0 11 (b11.g + 1) 0), (12, .ptr 0 12 (b12.g + 1) 0), (58, .d (.list (l.map eO))), (59, .d (.int .i64 l.length)), (60, .d (.int .i64 j)), (98, .d (.int .i64 i))],
           HB [(11, ⟨b11.g + 1, some [.int .i64 kk, .int .i64 aa, .str l[j].b, .list (l[j].keep.map eI)]⟩), (12, ⟨b12.g + 1, some cs⟩), (15, b15)], [], G6))
          ⟨_, _, st_le (by (simp -dsimp (disch := first | omega | (simp only [go_sem]; omega)) only [go_sem, seval, Nat.reduceEqDiff, Nat.reduceLeDiff] <;> ((repeat' apply And.intro) <;> first | exact VLe.refl _ | (apply vle_int; omega) | (apply vle_int; simp; done) | exact VLe.own _ _ | exact VLe.nilown _ | exact VLe.norm _))), 0, _, by omega, rfl, rfl⟩ ?_
         rintro z st ⟨i, b15, hi10, rfl, rfl⟩
         (repeat (first | with_reducible refine W.seq ?_ | with_reducible refine W.block ?_ | ((first | with_reducible refine W.reg ?_ | with_reducible refine W.skip ?_ | with_reducible refine W.exit ?_ | with_reducible refine W.ret ?_ | with_reducible refine W.ifc ?_); simp -dsimp (disch := first | omega | (simp only [go_sem]; omega)) only [go_sem, seval, Nat.reduceEqDiff, Nat.reduceLeDiff])))
         refine wG_dec (fun g4 => ?_) (fun g4 => ?_)
         · have hi' : i < 10 := by omega
           have hrd := hL3.rd (i := i) (by omega)
           have hgi := hget i hi'
           have h9 : i ≤ 9 := by omega
           have h576 : i * 64 ≤ 576 := by omega
           have h64 : 64 ≤ 640 - i * 64 := by omega
           have htd : 2 ≤ i → ((i : Int) - 2).tdiv 2 = ((i : Int) - 2) / 2 := fun h => Int.tdiv_eq_ediv_of_nonneg (by omega)
           have hsm := hsame i hi'
           have hfill : (i : Int) < 2 ∨ 7 < (i : Int) → topAt d3 i = filled b := fun h => by rw [hsame i hi' (by omega)]; exact htop i (by omega)
           generalize topAt d3 i = s3 at hrd hsm hfill
           generalize topAt d2 i = s2 at hgi hsm
           (repeat' (first | with_reducible refine W.seq ?_ | with_reducible refine W.block ?_ | ((first | with_reducible refine W.reg ?_ | with_reducible refine W.skip ?_ | with_reducible refine W.exit ?_ | with_reducible refine W.ret ?_ | with_reducible refine W.ifc ?_ | (apply wC_Q ((Read_ok p d3 i).q hs6.swap); (focus (simp -dsimp (disch := first | omega | (simp only [go_sem]; omega)) only [go_sem, seval, Nat.reduceEqDiff, Nat.reduceLeDiff, hrd] <;> rfl)); rintro _ rfl; try simp -dsimp (disch := first | omega | (simp only [go_sem]; omega)) only [go_sem, seval, Nat.reduceEqDiff, Nat.reduceLeDiff, hrd]) | (apply wC_P (Filled_ok b); (focus (simp -dsimp (disch := first | omega | (simp only [go_sem]; omega)) only [go_sem, seval, Nat.reduceEqDiff, Nat.reduceLeDiff] <;> rfl)); rintro _ rfl) | ((first | with_reducible refine wG_decE (fun _ hG => ?_) (fun _ hG => ?_) | with_reducible refine wG_decFE (fun _ hG => ?_) (fun _ hG => ?_)) <;> (try simp -dsimp only [hG, decide_true, decide_false, not_true_eq_false, not_false_eq_true]) <;> clear hG)) <;> (try simp -dsimp (disch := first | omega | (simp only [go_sem]; omega)) only [go_sem, seval, Nat.reduceEqDiff, Nat.reduceLeDiff, hrd, hcl, hgi, h9, h576, h64, htd])) | simp -dsimp (disch := first | omega | (simp only [go_sem]; omega)) only [go_sem, seval, Nat.reduceEqDiff, Nat.reduceLeDiff, hrd, hcl, hgi, h9, h576, h64, htd]))
           all_goals first
            | (refine ⟨_, _, ?_, st_le (by (simp -dsimp (disch := first | omega | (simp only [go_sem]; omega)) only [go_sem, seval, Nat.reduceEqDiff, Nat.reduceLeDiff] <;> ((repeat' apply And.intro) <;> first | exact VLe.refl _ | (apply vle_int; omega) | (apply vle_int; simp; done) | exact VLe.own _ _ | exact VLe.nilown _ | exact VLe.norm _))), i + 1, _, by omega, rfl, rfl⟩; omega)
            | (exfalso; have hh := hsm (fun hh => by omega); contradiction)
            | (exfalso; have hh := hfill (by omega); contradiction)
            | trace_state
         · obtain rfl : i = 10 := by omega
           (repeat (first | with_reducible refine W.seq ?_ | with_reducible refine W.block ?_ | ((first | with_reducible refine W.reg ?_ | with_reducible refine W.skip ?_ | with_reducible refine W.exit ?_ | with_reducible refine W.ret ?_ | with_reducible refine W.ifc ?_); simp -dsimp (disch := first | omega | (simp only [go_sem]; omega)) only [go_sem, seval, Nat.reduceEqDiff, Nat.reduceLeDiff])))
           refine ⟨_, _, ?_, st_le (by (simp -dsimp (disch := first | omega | (simp only [go_sem]; omega)) only [go_sem, seval, Nat.reduceEqDiff, Nat.reduceLeDiff] <;> ((repeat' apply And.intro) <;> first | exact VLe.refl _ | (apply vle_int; omega) | (apply vle_int; simp; done) | exact VLe.own _ _ | exact VLe.nilown _ | exact VLe.norm _))), j + 1, d3, _, _, _, G6, by omega, rfl, hL3.mono (by omega), hdl3, fun i hi => ?_, hs6, rfl⟩
           · omega
           · rw [hsame i (by omega) (by omega)]; exact htop i hi
       · have k0' : (kk = 0) = False := eq_false k0
         have k1' : (kk = 1) = False := eq_false k1
         have k2' : (kk = 2) = False := eq_false k2
         simp -dsimp (disch := first | omega | (simp only [go_sem]; omega)) only [go_sem, seval, Nat.reduceEqDiff, Nat.reduceLeDiff, k0', k1', k2']
         (repeat' (first | with_reducible refine W.seq ?_ | with_reducible refine W.block ?_ | ((first | with_reducible refine W.reg ?_ | with_reducible refine W.skip ?_ | with_reducible refine W.exit ?_ | with_reducible refine W.ret ?_ | with_reducible refine W.ifc ?_ | ((first | with_reducible refine wG_decE (fun _ hG => ?_) (fun _ hG => ?_) | with_reducible refine wG_decFE (fun _ hG => ?_) (fun _ hG => ?_)) <;> (try simp -dsimp only [hG, decide_true, decide_false, not_true_eq_false, not_false_eq_true]) <;> clear hG)) <;> (try simp -dsimp (disch := first | omega | (simp only [go_sem]; omega)) only [go_sem, seval, Nat.reduceEqDiff, Nat.reduceLeDiff, k0', k1', k2'])) | simp -dsimp (disch := first | omega | (simp only [go_sem]; omega)) only [go_sem, seval, Nat.reduceEqDiff, Nat.reduceLeDiff, k0', k1', k2']))
         obtain ⟨d3, hd3e⟩ : ∃ d3, d3 = d2 := ⟨_, rfl⟩
         have hs6 := hs5
         rw [← hd3e] at hs6
         obtain ⟨G6, hG6⟩ : ∃ G6, G6 = G5 := ⟨_, rfl⟩
         rw [← hG6] at hs6 ⊢
         have hd3 := fin d3 (fun _ => by rw [hd3e]; exact same) (fun _ => hd3e)
         obtain ⟨hL3, hdl3, hsame⟩ := hd3
         refine W.loop (fun z st => ∃ (i : Nat) (b15 : Blk), i ≤ 10 ∧ z = 10 - i ∧
          st = (E [(1, .d (.int .u8 b)), (5, .d (.gp p 0)), (7, .d (.gp q 0)), (11, .ptr 0 11 (b11.g + 1) 0), (12, .ptr 0 12 (b12.g + 1) 0), (58, .d (.list (l.map eO))), (59, .d (.int .i64 l.length)), (60, .d (.int .i64 j)), (98, .d (.int .i64 i))],
           HB [(11, ⟨b11.g + 1, some [.int .i64 kk, .int .i64 aa, .str l[j].b, .list (l[j].keep.map eI)]⟩), (12, ⟨b12.g + 1, some cs⟩), (15, b15)], [], G6))
          ⟨_, _, st_le (by (simp -dsimp (disch := first | omega | (simp only [go_sem]; omega)) only [go_sem, seval, Nat.reduceEqDiff, Nat.reduceLeDiff] <;> ((repeat' apply And.intro) <;> first | exact VLe.refl _ | (apply vle_int; omega) | (apply vle_int; simp; done) | exact VLe.own _ _ | exact VLe.nilown _ | exact VLe.norm _))), 0, _, by omega, rfl, rfl⟩ ?_
         rintro z st ⟨i, b15, hi10, rfl, rfl⟩
         (repeat (first | with_reducible refine W.seq ?_ | with_reducible refine W.block ?_ | ((first | with_reducible refine W.reg ?_ | with_reducible refine W.skip ?_ | with_reducible refine W.exit ?_ | with_reducible refine W.ret ?_ | with_reducible refine W.ifc ?_); simp -dsimp (disch := first | omega | (simp only [go_sem]; omega)) only [go_sem, seval, Nat.reduceEqDiff, Nat.reduceLeDiff])))
         refine wG_dec (fun g4 => ?_) (fun g4 => ?_)
         · have hi' : i < 10 := by omega
           have hrd := hL3.rd (i := i) (by omega)
           have hgi := hget i hi'
           have h9 : i ≤ 9 := by omega
           have h576 : i * 64 ≤ 576 := by omega
           have h64 : 64 ≤ 640 - i * 64 := by omega
           have htd : 2 ≤ i → ((i : Int) - 2).tdiv 2 = ((i : Int) - 2) / 2 := fun h => Int.tdiv_eq_ediv_of_nonneg (by omega)
           have hsm := hsame i hi'
           have hfill : (i : Int) < 2 ∨ 7 < (i : Int) → topAt d3 i = filled b := fun h => by rw [hsame i hi' (by omega)]; exact htop i (by omega)
           generalize topAt d3 i = s3 at hrd hsm hfill
           generalize topAt d2 i = s2 at hgi hsm
           (repeat' (first | with_reducible refine W.seq ?_ | with_reducible refine W.block ?_ | ((first | with_reducible refine W.reg ?_ | with_reducible refine W.skip ?_ | with_reducible refine W.exit ?_ | with_reducible refine W.ret ?_ | with_reducible refine W.ifc ?_ | (apply wC_Q ((Read_ok p d3 i).q hs6.swap); (focus (simp -dsimp (disch := first | omega | (simp only [go_sem]; omega)) only [go_sem, seval, Nat.reduceEqDiff, Nat.reduceLeDiff, hrd] <;> rfl)); rintro _ rfl; try simp -dsimp (disch := first | omega | (simp only [go_sem]; omega)) only [go_sem, seval, Nat.reduceEqDiff, Nat.reduceLeDiff, hrd]) | (apply wC_P (Filled_ok b); (focus (simp -dsimp (disch := first | omega | (simp only [go_sem]; omega)) only [go_sem, seval, Nat.reduceEqDiff, Nat.reduceLeDiff] <;> rfl)); rintro _ rfl) | ((first | with_reducible refine wG_decE (fun _ hG => ?_) (fun _ hG => ?_) | with_reducible refine wG_decFE (fun _ hG => ?_) (fun _ hG => ?_)) <;> (try simp -dsimp only [hG, decide_true, decide_false, not_true_eq_false, not_false_eq_true]) <;> clear hG)) <;> (try simp -dsimp (disch := first | omega | (simp only [go_sem]; omega)) only [go_sem, seval, Nat.reduceEqDiff, Nat.reduceLeDiff, hrd, hcl, hgi, h9, h576, h64, htd])) | simp -dsimp (disch := first | omega | (simp only [go_sem]; omega)) only [go_sem, seval, Nat.reduceEqDiff, Nat.reduceLeDiff, hrd, hcl, hgi, h9, h576, h64, htd]))
           all_goals first
            | (refine ⟨_, _, ?_, st_le (by (simp -dsimp (disch := first | omega | (simp only [go_sem]; omega)) only [go_sem, seval, Nat.reduceEqDiff, Nat.reduceLeDiff] <;> ((repeat' apply And.intro) <;> first | exact VLe.refl _ | (apply vle_int; omega) | (apply vle_int; simp; done) | exact VLe.own _ _ | exact VLe.nilown _ | exact VLe.norm _))), i + 1, _, by omega, rfl, rfl⟩; omega)
            | (exfalso; have hh := hsm (fun hh => by omega); contradiction)
            | (exfalso; have hh := hfill (by omega); contradiction)
            | trace_state
         · obtain rfl : i = 10 := by omega
           (repeat (first | with_reducible refine W.seq ?_ | with_reducible refine W.block ?_ | ((first | with_reducible refine W.reg ?_ | with_reducible refine W.skip ?_ | with_reducible refine W.exit ?_ | with_reducible refine W.ret ?_ | with_reducible refine W.ifc ?_); simp -dsimp (disch := first | omega | (simp only [go_sem]; omega)) only [go_sem, seval, Nat.reduceEqDiff, Nat.reduceLeDiff])))
           refine ⟨_, _, ?_, st_le (by (simp -dsimp (disch := first | omega | (simp only [go_sem]; omega)) only [go_sem, seval, Nat.reduceEqDiff, Nat.reduceLeDiff] <;> ((repeat' apply And.intro) <;> first | exact VLe.refl _ | (apply vle_int; omega) | (apply vle_int; simp; done) | exact VLe.own _ _ | exact VLe.nilown _ | exact VLe.norm _))), j + 1, d3, _, _, _, G6, by omega, rfl, hL3.mono (by omega), hdl3, fun i hi => ?_, hs6, rfl⟩
           · omega
           · rw [hsame i (by omega) (by omega)]; exact htop i hi
   · obtain rfl : j = l.length := by omega
     (repeat (first | with_reducible refine W.seq ?_ | with_reducible refine W.block ?_ | ((first | with_reducible refine W.reg ?_ | with_reducible refine W.skip ?_ | with_reducible refine W.exit ?_ | with_reducible refine W.ret ?_ | with_reducible refine W.ifc ?_); simp -dsimp (disch := first | omega | (simp only [go_sem]; omega)) only [go_sem, seval, Nat.reduceEqDiff, Nat.reduceLeDiff])))
     (refine wC_sq (sanity22_ok) ((show Sep ([] ++ (StA q p 2 3 :: DiskA p d2 :: [])) G5 from hs5)) (by decide) ?_ ?_; (focus (simp -dsimp (disch := first | omega | (simp only [go_sem]; omega)) only [go_sem, seval, Nat.reduceEqDiff, Nat.reduceLeDiff] <;> rfl)))
     rintro _ _ G6 ⟨rfl, rfl⟩ hs6
     simp -dsimp (disch := first | omega | (simp only [go_sem]; omega)) only [go_sem, seval, Nat.reduceEqDiff, Nat.reduceLeDiff]
     (repeat (first | with_reducible refine W.seq ?_ | with_reducible refine W.block ?_ | ((first | with_reducible refine W.reg ?_ | with_reducible refine W.skip ?_ | with_reducible refine W.exit ?_ | with_reducible refine W.ret ?_ | with_reducible refine W.ifc ?_); simp -dsimp (disch := first | omega | (simp only [go_sem]; omega)) only [go_sem, seval, Nat.reduceEqDiff, Nat.reduceLeDiff])))
     exact Fin.eq rfl ⟨rfl, _, .refl _, rfl⟩
end Go.Proofs.Ytioojmlhmhgeeaa
