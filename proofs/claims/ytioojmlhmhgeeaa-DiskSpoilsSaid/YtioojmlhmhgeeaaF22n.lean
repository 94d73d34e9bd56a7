/-
 Layer 21 (disk): the statement DiskSpoils, walked.
 Conditions: none; every input.
-/
import Derived.Test.YtioojmlhmhgeeaaF22m
namespace Go.Proofs.Ytioojmlhmhgeeaa
open Go Go.E2 C22
set_option linter.unusedSimpArgs false
set_option maxHeartbeats 1000000
theorem spoils_ok (l : List Wr) (w : Int) (h0 : 0 ≤ w) (h1 : w < 256) (bit : Int) (g0 : 0 ≤ bit) (g1 : bit < 65536) (keep : List Int) (hkp : keep.length ≤ 9223372036854775807) : CallP Try.prog f_quietuslaw21_DiskSpoils [.list (l.map eW), .int .u8 w, .int .u16 bit, .list (keep.map eI)] (· = .d (.bool true)) := by
 refine CallP.of_deep (callT_of_W fol quietuslaw21_DiskSpoils_cp ?_)
 have hs : Sep ([] ++ []) noGh := trivial
 by_cases hbig : 30 < l.length
 · have hbig' : (30 < (l.length : Int)) = True := eq_true (by omega)
   simp -dsimp (disch := first | omega | (simp only [go_sem]; omega)) only [go_sem, seval, Nat.reduceEqDiff, Nat.reduceLeDiff, hbig']
   (repeat' (first | with_reducible refine W.seq ?_ | with_reducible refine W.block ?_ | ((first | with_reducible refine W.reg ?_ | with_reducible refine W.skip ?_ | with_reducible refine W.exit ?_ | with_reducible refine W.ret ?_ | with_reducible refine W.ifc ?_ | ((first | with_reducible refine wG_decE (fun _ hG => ?_) (fun _ hG => ?_) | with_reducible refine wG_decFE (fun _ hG => ?_) (fun _ hG => ?_)) <;> (try simp -dsimp only [hG, decide_true, decide_false, not_true_eq_false, not_false_eq_true]) <;> clear hG)) <;> (try simp -dsimp (disch := first | omega | (simp only [go_sem]; omega)) only [go_sem, seval, Nat.reduceEqDiff, Nat.reduceLeDiff, hbig'])) | simp -dsimp (disch := first | omega | (simp only [go_sem]; omega)) only [go_sem, seval, Nat.reduceEqDiff, Nat.reduceLeDiff, hbig']))
   (refine wC_sq (sanity21_ok) (hs) (by decide) ?_ ?_; (focus (simp -dsimp (disch := first | omega | (simp only [go_sem]; omega)) only [go_sem, seval, Nat.reduceEqDiff, Nat.reduceLeDiff] <;> rfl)))
   rintro _ _ G2 ⟨rfl, rfl⟩ hs2
   simp -dsimp (disch := first | omega | (simp only [go_sem]; omega)) only [go_sem, seval, Nat.reduceEqDiff, Nat.reduceLeDiff]
   (repeat (first | with_reducible refine W.seq ?_ | with_reducible refine W.block ?_ | ((first | with_reducible refine W.reg ?_ | with_reducible refine W.skip ?_ | with_reducible refine W.exit ?_ | with_reducible refine W.ret ?_ | with_reducible refine W.ifc ?_); simp -dsimp (disch := first | omega | (simp only [go_sem]; omega)) only [go_sem, seval, Nat.reduceEqDiff, Nat.reduceLeDiff])))
   exact Fin.eq rfl ⟨rfl, _, .refl _, rfl⟩
 have hl1 : l.length ≤ 30 := by omega
 have hbig' : (30 < (l.length : Int)) = False := eq_false (by omega)
 simp -dsimp (disch := first | omega | (simp only [go_sem]; omega)) only [go_sem, seval, Nat.reduceEqDiff, Nat.reduceLeDiff, hbig']
 (repeat' (first | with_reducible refine W.seq ?_ | with_reducible refine W.block ?_ | ((first | with_reducible refine W.reg ?_ | with_reducible refine W.skip ?_ | with_reducible refine W.exit ?_ | with_reducible refine W.ret ?_ | with_reducible refine W.ifc ?_ | ((first | with_reducible refine wG_decE (fun _ hG => ?_) (fun _ hG => ?_) | with_reducible refine wG_decFE (fun _ hG => ?_) (fun _ hG => ?_)) <;> (try simp -dsimp only [hG, decide_true, decide_false, not_true_eq_false, not_false_eq_true]) <;> clear hG)) <;> (try simp -dsimp (disch := first | omega | (simp only [go_sem]; omega)) only [go_sem, seval, Nat.reduceEqDiff, Nat.reduceLeDiff, hbig'])) | simp -dsimp (disch := first | omega | (simp only [go_sem]; omega)) only [go_sem, seval, Nat.reduceEqDiff, Nat.reduceLeDiff, hbig']))
 (refine wC_sq (written_ok l (by omega) l.length) (hs) (by decide) ?_ ?_; (focus (simp -dsimp (disch := first | omega | (simp only [go_sem]; omega)) only [go_sem, seval, Nat.reduceEqDiff, Nat.reduceLeDiff] <;> rfl)))
 rintro _ _ G2 ⟨p, d, xs, hw, hxl, hop, rfl, rfl⟩ hs2
 have hop := hop (.inl rfl)
 have hs2 : Sep (DiskA p d :: OpsA xs (opsL d.cs) :: []) G2 := hs2
 have hdl := hw.len
 have hfl := sur_len d.cs
 rw [hdl] at hfl
 have hf2 : List.take 1024 (flat (surL d.cs)) = flat (surL d.cs) := List.take_of_length_le (by omega)
 have hf3 : List.take 16 xs = xs := List.take_of_length_le (by omega)
 have hf6 := flat_one (surL_ok d.cs)
 have hf7 := OpsA.ones (by rw [hxl, opsL, List.length_map, hdl]) hs2.swap
 have hz1 : (zr 1024 (D.int .u8 0)).length = 1024 := zr_len _ _
 have hz2 : (zr 1024 (D.int .u8 0)).drop 1024 = [] := List.drop_of_length_le (by rw [hz1]; omega)
 generalize zr 1024 (D.int .u8 0) = z5 at hz1 hz2 ⊢
 have hz3 : (zr 16 D.nilS).length = 16 := zr_len _ _
 have hz4 : (zr 16 D.nilS).drop 16 = [] := List.drop_of_length_le (by rw [hz3]; omega)
 generalize zr 16 D.nilS = z6 at hz3 hz4 ⊢
 obtain ⟨i, hi⟩ : ∃ i : Nat, w.tmod 16 = i := ⟨(w.tmod 16).toNat, by rw [Int.toNat_of_nonneg (Int.tmod_nonneg _ (by omega))]⟩
 obtain ⟨t, ht⟩ : ∃ t : Nat, bit.tmod 512 = t := ⟨(bit.tmod 512).toNat, by rw [Int.toNat_of_nonneg (Int.tmod_nonneg _ (by omega))]⟩
 have hi16 : i < 16 := by have := Int.tmod_lt_of_pos w (b := 16) (by omega); omega
 have ht512 : t < 512 := by have := Int.tmod_lt_of_pos bit (b := 512) (by omega); omega
 have hid : i < d.cs.length := by omega
 simp -dsimp (disch := first | omega | (simp only [go_sem]; omega)) only [go_sem, seval, Nat.reduceEqDiff, Nat.reduceLeDiff, hfl, hf2, hf3, hf6, hf7, hxl, hz1, hz2, hz3, hz4]
 (repeat' (first | with_reducible refine W.seq ?_ | with_reducible refine W.block ?_ | ((first | with_reducible refine W.reg ?_ | with_reducible refine W.skip ?_ | with_reducible refine W.exit ?_ | with_reducible refine W.ret ?_ | with_reducible refine W.ifc ?_ | ((first | with_reducible refine wG_decE (fun _ hG => ?_) (fun _ hG => ?_) | with_reducible refine wG_decFE (fun _ hG => ?_) (fun _ hG => ?_)) <;> (try simp -dsimp only [hG, decide_true, decide_false, not_true_eq_false, not_false_eq_true]) <;> clear hG)) <;> (try simp -dsimp (disch := first | omega | (simp only [go_sem]; omega)) only [go_sem, seval, Nat.reduceEqDiff, Nat.reduceLeDiff, hfl, hf2, hf3, hf6, hf7, hxl, hz1, hz2, hz3, hz4, hi, ht])) | simp -dsimp (disch := first | omega | (simp only [go_sem]; omega)) only [go_sem, seval, Nat.reduceEqDiff, Nat.reduceLeDiff, hfl, hf2, hf3, hf6, hf7, hxl, hz1, hz2, hz3, hz4, hi, ht]))
 have q1 : (flp d i t).2 = 0 := by rw [flp_good hw hi16 ht512]
 (refine wC_sq (Flip_ok p d i t) (hs2) (by decide) ?_ ?_; (focus (simp -dsimp (disch := first | omega | (simp only [go_sem]; omega)) only [go_sem, seval, Nat.reduceEqDiff, Nat.reduceLeDiff] <;> rfl)))
 rintro _ _ G3 ⟨rfl, rfl⟩ hs3
 have hs3 : Sep (DiskA p (flp d i t).1 :: OpsA xs (opsL d.cs) :: []) G3 := hs3
 obtain ⟨c, hcc⟩ : ∃ c, c = d.cs[i] := ⟨_, rfl⟩
 have hsg := sur_get hid
 rw [← hcc] at hsg
 have h960 : i * 64 ≤ 960 := by omega
 have h15 : i ≤ 15 := by omega
 have h64 : 64 ≤ 1024 - i * 64 := by omega
 have hj : t / 8 < 64 := by omega
 have hlt : t / 8 < c.s.1.length := by rw [c.s.2]; exact hj
 have hq : (t : Int).tdiv 8 = ((t / 8 : Nat) : Int) := by rw [Int.tdiv_eq_ediv_of_nonneg (by omega)]; omega
 have hm : (t : Int).tmod 8 = ((t % 8 : Nat) : Int) := by rw [Int.tmod_eq_emod_of_nonneg (by omega)]; omega
 have hshl := shl_u8 (n := ((t % 8 : Nat) : Int)) (by omega) (by omega)
 have hxor := xor_bit c.s.1[t / 8] t
 simp only [eB] at hxor
 have hb8 : (List.drop (t / 8 * 1) (c.s.1.map eB)).head? = some (.int .u8 (c.s.1[t / 8].toNat : Int)) := by rw [Nat.mul_one, List.head?_drop, List.getElem?_map, List.getElem?_eq_getElem hlt]; rfl
 have hrd1 := flp_rd hw hi16 ht512 hid (hop _ (List.getElem_mem hid))
 rw [← hcc] at hrd1
 have hst2 : List.take (t / 8) (c.s.1.map eB) ++ [.int .u8 ((c.s.1[t / 8] ^^^ (1 <<< UInt8.ofNat (t % 8))).toNat : Int)] ++ List.drop (t / 8 + 1) (c.s.1.map eB) = (flipS c.s t).1.map eB := by
  rw [xs_set (by rw [List.length_map]; exact hlt)]
  simp only [flipS]
  rw [modify_set hlt, List.map_set]
  rfl
 have ht63 : t / 8 * 1 ≤ 63 := by omega
 have hb9 := hb8
 rw [Nat.mul_one] at hb9
 have ht62 : t / 8 ≤ 63 := by omega
 simp -dsimp (disch := first | omega | (simp only [go_sem]; omega)) only [go_sem, seval, Nat.reduceEqDiff, Nat.reduceLeDiff, q1]
 (repeat' (first | with_reducible refine W.seq ?_ | with_reducible refine W.block ?_ | ((first | with_reducible refine W.reg ?_ | with_reducible refine W.skip ?_ | with_reducible refine W.exit ?_ | with_reducible refine W.ret ?_ | with_reducible refine W.ifc ?_ | (apply wC_Q ((Read_ok p (flp d i t).1 i).q hs3); (focus (simp -dsimp (disch := first | omega | (simp only [go_sem]; omega)) only [go_sem, seval, Nat.reduceEqDiff, Nat.reduceLeDiff, hrd1] <;> rfl)); rintro _ rfl; try simp -dsimp (disch := first | omega | (simp only [go_sem]; omega)) only [go_sem, seval, Nat.reduceEqDiff, Nat.reduceLeDiff, hrd1]) | ((first | with_reducible refine wG_decE (fun _ hG => ?_) (fun _ hG => ?_) | with_reducible refine wG_decFE (fun _ hG => ?_) (fun _ hG => ?_)) <;> (try simp -dsimp only [hG, decide_true, decide_false, not_true_eq_false, not_false_eq_true]) <;> clear hG)) <;> (try simp -dsimp (disch := first | omega | (simp only [go_sem]; omega)) only [go_sem, seval, Nat.reduceEqDiff, Nat.reduceLeDiff, Nat.mul_one, ht63, ht62, hb9, q1, hfl, hsg, h960, h15, h64, hi16, hq, hm, hshl, hxor, hb8, hst2, hrd1, hj, Int.toNat_natCast])) | simp -dsimp (disch := first | omega | (simp only [go_sem]; omega)) only [go_sem, seval, Nat.reduceEqDiff, Nat.reduceLeDiff, Nat.mul_one, ht63, ht62, hb9, q1, hfl, hsg, h960, h15, h64, hi16, hq, hm, hshl, hxor, hb8, hst2, hrd1, hj, Int.toNat_natCast]))
 have hback := flp_back hw hi16 ht512
 have q2 : (flp (flp d i t).1 i t).2 = 0 := by rw [hback]
 (refine wC_sq (Flip_ok p (flp d i t).1 i t) (hs3) (by decide) ?_ ?_; (focus (simp -dsimp (disch := first | omega | (simp only [go_sem]; omega)) only [go_sem, seval, Nat.reduceEqDiff, Nat.reduceLeDiff] <;> rfl)))
 rintro _ _ G4 ⟨rfl, rfl⟩ hs4
 rw [q2, hback] at *
 have hs4 : Sep (DiskA p d :: OpsA xs (opsL d.cs) :: []) G4 := hs4
 have hgood := hw.good c (by rw [hcc]; exact List.getElem_mem hid)
 have hopc := hop c (by rw [hcc]; exact List.getElem_mem hid)
 have hrd0 : rd d i = (c.s, 0) := by rw [rd_live hw.live (by rw [List.getElem?_eq_getElem hid, ← hcc]), celRd_shut hopc, if_neg (by rw [hgood]; simp)]
 simp -dsimp (disch := first | omega | (simp only [go_sem]; omega)) only [go_sem, seval, Nat.reduceEqDiff, Nat.reduceLeDiff]
 (repeat' (first | with_reducible refine W.seq ?_ | with_reducible refine W.block ?_ | ((first | with_reducible refine W.reg ?_ | with_reducible refine W.skip ?_ | with_reducible refine W.exit ?_ | with_reducible refine W.ret ?_ | with_reducible refine W.ifc ?_ | (apply wC_Q ((Read_ok p d i).q hs4); (focus (simp -dsimp (disch := first | omega | (simp only [go_sem]; omega)) only [go_sem, seval, Nat.reduceEqDiff, Nat.reduceLeDiff, hrd0] <;> rfl)); rintro _ rfl; try simp -dsimp (disch := first | omega | (simp only [go_sem]; omega)) only [go_sem, seval, Nat.reduceEqDiff, Nat.reduceLeDiff, hrd0]) | ((first | with_reducible refine wG_decE (fun _ hG => ?_) (fun _ hG => ?_) | with_reducible refine wG_decFE (fun _ hG => ?_) (fun _ hG => ?_)) <;> (try simp -dsimp only [hG, decide_true, decide_false, not_true_eq_false, not_false_eq_true]) <;> clear hG)) <;> (try simp -dsimp (disch := first | omega | (simp only [go_sem]; omega)) only [go_sem, seval, Nat.reduceEqDiff, Nat.reduceLeDiff, hfl, hsg, h960, h15, h64, hi16, hrd0])) | simp -dsimp (disch := first | omega | (simp only [go_sem]; omega)) only [go_sem, seval, Nat.reduceEqDiff, Nat.reduceLeDiff, hfl, hsg, h960, h15, h64, hi16, hrd0]))
 have q3 : (rot d i).2 = 0 := by rw [rot_good hw hi16]
 (refine wC_sq (Rot_ok p d i) (hs4) (by decide) ?_ ?_; (focus (simp -dsimp (disch := first | omega | (simp only [go_sem]; omega)) only [go_sem, seval, Nat.reduceEqDiff, Nat.reduceLeDiff] <;> rfl)))
 rintro _ _ G5 ⟨rfl, rfl⟩ hs5
 have hs5 : Sep (DiskA p (rot d i).1 :: OpsA xs (opsL d.cs) :: []) G5 := hs5
 simp -dsimp (disch := first | omega | (simp only [go_sem]; omega)) only [go_sem, seval, Nat.reduceEqDiff, Nat.reduceLeDiff, q3]
 (repeat' (first | with_reducible refine W.seq ?_ | with_reducible refine W.block ?_ | ((first | with_reducible refine W.reg ?_ | with_reducible refine W.skip ?_ | with_reducible refine W.exit ?_ | with_reducible refine W.ret ?_ | with_reducible refine W.ifc ?_ | ((first | with_reducible refine wG_decE (fun _ hG => ?_) (fun _ hG => ?_) | with_reducible refine wG_decFE (fun _ hG => ?_) (fun _ hG => ?_)) <;> (try simp -dsimp only [hG, decide_true, decide_false, not_true_eq_false, not_false_eq_true]) <;> clear hG)) <;> (try simp -dsimp (disch := first | omega | (simp only [go_sem]; omega)) only [go_sem, seval, Nat.reduceEqDiff, Nat.reduceLeDiff, q3])) | simp -dsimp (disch := first | omega | (simp only [go_sem]; omega)) only [go_sem, seval, Nat.reduceEqDiff, Nat.reduceLeDiff, q3]))
 (refine wC_sq (Crash_ok p (rot d i).1 keep hkp) (hs5) (by decide) ?_ ?_; (focus (simp -dsimp (disch := first | omega | (simp only [go_sem]; omega)) only [go_sem, seval, Nat.reduceEqDiff, Nat.reduceLeDiff] <;> rfl)))
 rintro _ _ G6 ⟨q, rfl, rfl⟩ hs6
 have hcr : crash (rot d i).1 keep = afterRot d i := by
  rw [rot_good hw hi16, crash_same (rot_shut hop)]
  rfl
 rw [hcr] at hs6
 have hs6 : Sep (DiskA q (afterRot d i) :: DiskA p (rot d i).1 :: OpsA xs (opsL d.cs) :: []) G6 := hs6
 simp -dsimp (disch := first | omega | (simp only [go_sem]; omega)) only [go_sem, seval, Nat.reduceEqDiff, Nat.reduceLeDiff]
 (repeat' (first | with_reducible refine W.seq ?_ | with_reducible refine W.block ?_ | ((first | with_reducible refine W.reg ?_ | with_reducible refine W.skip ?_ | with_reducible refine W.exit ?_ | with_reducible refine W.ret ?_ | with_reducible refine W.ifc ?_ | ((first | with_reducible refine wG_decE (fun _ hG => ?_) (fun _ hG => ?_) | with_reducible refine wG_decFE (fun _ hG => ?_) (fun _ hG => ?_)) <;> (try simp -dsimp only [hG, decide_true, decide_false, not_true_eq_false, not_false_eq_true]) <;> clear hG)) <;> (try simp -dsimp (disch := first | omega | (simp only [go_sem]; omega)) only [go_sem, seval, Nat.reduceEqDiff, Nat.reduceLeDiff])) | simp -dsimp (disch := first | omega | (simp only [go_sem]; omega)) only [go_sem, seval, Nat.reduceEqDiff, Nat.reduceLeDiff]))
 refine W.loop (fun n st => ∃ (k : Nat) (b19 : Blk), k ≤ 16 ∧ n = 16 - k ∧
  st = (E [(10, .ptr 0 10 1 0), (12, .d (.int .i64 i)), (14, .ptr 0 14 1 0), (15, .ptr 0 15 1 0), (17, .d (.gp q 0)), (106, .d (.int .i64 k))], HB [(10, ⟨1, some (flat (surL d.cs))⟩), (11, ⟨1, some xs⟩), (14, ⟨1, some ((flipS c.s t).1.map eB)⟩), (15, ⟨1, some (c.s.1.map eB)⟩), (19, b19)], [], G6))
  ⟨_, _, st_leB (by (simp -dsimp (disch := first | omega | (simp only [go_sem]; omega)) only [go_sem, seval, Nat.reduceEqDiff, Nat.reduceLeDiff] <;> ((repeat' apply And.intro) <;> first | exact VLe.refl _ | (apply vle_int; omega) | (apply vle_int; simp; done) | exact VLe.own _ _ | exact VLe.nilown _ | exact VLe.norm _))) (HB_pad [(10, _), (11, _), (14, _), (15, _)] [19] rfl).symm, 0, _, by omega, rfl, rfl⟩ ?_
 rintro n st ⟨k, b19, hk, rfl, rfl⟩
 (repeat (first | with_reducible refine W.seq ?_ | with_reducible refine W.block ?_ | ((first | with_reducible refine W.reg ?_ | with_reducible refine W.skip ?_ | with_reducible refine W.exit ?_ | with_reducible refine W.ret ?_ | with_reducible refine W.ifc ?_); simp -dsimp (disch := first | omega | (simp only [go_sem]; omega)) only [go_sem, seval, Nat.reduceEqDiff, Nat.reduceLeDiff])))
 refine wG_dec (fun g1 => ?_) (fun g1 => ?_)
 · have hk' : k < 16 := by omega
   have hkd : k < d.cs.length := by omega
   have hsk := sur_get hkd
   have hr := rot_rd (i := i) hw hop hkd
   have k960 : k * 64 ≤ 960 := by omega
   have k64 : 64 ≤ 1024 - k * 64 := by omega
   have k15 : k ≤ 15 := by omega
   by_cases e : k = i
   · rw [if_pos e] at hr
     have e1 : ((k : Int) = i) = True := eq_true (by omega)
     (repeat' (first | with_reducible refine W.seq ?_ | with_reducible refine W.block ?_ | ((first | with_reducible refine W.reg ?_ | with_reducible refine W.skip ?_ | with_reducible refine W.exit ?_ | with_reducible refine W.ret ?_ | with_reducible refine W.ifc ?_ | (apply wC_Q ((Read_ok q (afterRot d i) k).q hs6); (focus (simp -dsimp (disch := first | omega | (simp only [go_sem]; omega)) only [go_sem, seval, Nat.reduceEqDiff, Nat.reduceLeDiff, hr] <;> rfl)); rintro _ rfl; try simp -dsimp (disch := first | omega | (simp only [go_sem]; omega)) only [go_sem, seval, Nat.reduceEqDiff, Nat.reduceLeDiff, hr]) | ((first | with_reducible refine wG_decE (fun _ hG => ?_) (fun _ hG => ?_) | with_reducible refine wG_decFE (fun _ hG => ?_) (fun _ hG => ?_)) <;> (try simp -dsimp only [hG, decide_true, decide_false, not_true_eq_false, not_false_eq_true]) <;> clear hG)) <;> (try simp -dsimp (disch := first | omega | (simp only [go_sem]; omega)) only [go_sem, seval, Nat.reduceEqDiff, Nat.reduceLeDiff, hr, e1, hfl, hsk, k960, k64, k15, hk'])) | simp -dsimp (disch := first | omega | (simp only [go_sem]; omega)) only [go_sem, seval, Nat.reduceEqDiff, Nat.reduceLeDiff, hr, e1, hfl, hsk, k960, k64, k15, hk']))
     refine ⟨_, _, ?_, st_le (by (simp -dsimp (disch := first | omega | (simp only [go_sem]; omega)) only [go_sem, seval, Nat.reduceEqDiff, Nat.reduceLeDiff] <;> ((repeat' apply And.intro) <;> first | exact VLe.refl _ | (apply vle_int; omega) | (apply vle_int; simp; done) | exact VLe.own _ _ | exact VLe.nilown _ | exact VLe.norm _))), k + 1, _, by omega, rfl, rfl⟩
     omega
   · rw [if_neg e] at hr
     have e1 : ((k : Int) = i) = False := eq_false (by omega)
     (repeat' (first | with_reducible refine W.seq ?_ | with_reducible refine W.block ?_ | ((first | with_reducible refine W.reg ?_ | with_reducible refine W.skip ?_ | with_reducible refine W.exit ?_ | with_reducible refine W.ret ?_ | with_reducible refine W.ifc ?_ | (apply wC_Q ((Read_ok q (afterRot d i) k).q hs6); (focus (simp -dsimp (disch := first | omega | (simp only [go_sem]; omega)) only [go_sem, seval, Nat.reduceEqDiff, Nat.reduceLeDiff, hr] <;> rfl)); rintro _ rfl; try simp -dsimp (disch := first | omega | (simp only [go_sem]; omega)) only [go_sem, seval, Nat.reduceEqDiff, Nat.reduceLeDiff, hr]) | ((first | with_reducible refine wG_decE (fun _ hG => ?_) (fun _ hG => ?_) | with_reducible refine wG_decFE (fun _ hG => ?_) (fun _ hG => ?_)) <;> (try simp -dsimp only [hG, decide_true, decide_false, not_true_eq_false, not_false_eq_true]) <;> clear hG)) <;> (try simp -dsimp (disch := first | omega | (simp only [go_sem]; omega)) only [go_sem, seval, Nat.reduceEqDiff, Nat.reduceLeDiff, hr, e1, hfl, hsk, k960, k64, k15, hk'])) | simp -dsimp (disch := first | omega | (simp only [go_sem]; omega)) only [go_sem, seval, Nat.reduceEqDiff, Nat.reduceLeDiff, hr, e1, hfl, hsk, k960, k64, k15, hk']))
     refine ⟨_, _, ?_, st_le (by (simp -dsimp (disch := first | omega | (simp only [go_sem]; omega)) only [go_sem, seval, Nat.reduceEqDiff, Nat.reduceLeDiff] <;> ((repeat' apply And.intro) <;> first | exact VLe.refl _ | (apply vle_int; omega) | (apply vle_int; simp; done) | exact VLe.own _ _ | exact VLe.nilown _ | exact VLe.norm _))), k + 1, _, by omega, rfl, rfl⟩
     omega
 · obtain ⟨q4, q5⟩ := rot_sy hw hi16 (flipS c.s t)
   have q6 : (wr (afterRot d i) i (flipS c.s t)).2 = 0 := by rw [rot_wr hw hi16]
   have q7 : (wr (afterRot d i) i (flipS c.s t)).1.steps = 1 := by rw [rot_wr hw hi16]
   (repeat (first | with_reducible refine W.seq ?_ | with_reducible refine W.block ?_ | ((first | with_reducible refine W.reg ?_ | with_reducible refine W.skip ?_ | with_reducible refine W.exit ?_ | with_reducible refine W.ret ?_ | with_reducible refine W.ifc ?_); simp -dsimp (disch := first | omega | (simp only [go_sem]; omega)) only [go_sem, seval, Nat.reduceEqDiff, Nat.reduceLeDiff])))
   (refine wC_sq (Write_ok q (afterRot d i) i (flipS c.s t) (by simp [afterRot])) (hs6) (by decide) ?_ ?_; (focus (simp -dsimp (disch := first | omega | (simp only [go_sem]; omega)) only [go_sem, seval, Nat.reduceEqDiff, Nat.reduceLeDiff] <;> rfl)))
   rintro _ _ G7 ⟨rfl, rfl⟩ hs7
   have hs7 : Sep (DiskA q (wr (afterRot d i) i (flipS c.s t)).1 :: DiskA p (rot d i).1 :: OpsA xs (opsL d.cs) :: []) G7 := hs7
   generalize (wr (afterRot d i) i (flipS c.s t)).1 = d7 at hs7 q4 q5 q7
   simp -dsimp (disch := first | omega | (simp only [go_sem]; omega)) only [go_sem, seval, Nat.reduceEqDiff, Nat.reduceLeDiff, q6]
   (repeat' (first | with_reducible refine W.seq ?_ | with_reducible refine W.block ?_ | ((first | with_reducible refine W.reg ?_ | with_reducible refine W.skip ?_ | with_reducible refine W.exit ?_ | with_reducible refine W.ret ?_ | with_reducible refine W.ifc ?_ | ((first | with_reducible refine wG_decE (fun _ hG => ?_) (fun _ hG => ?_) | with_reducible refine wG_decFE (fun _ hG => ?_) (fun _ hG => ?_)) <;> (try simp -dsimp only [hG, decide_true, decide_false, not_true_eq_false, not_false_eq_true]) <;> clear hG)) <;> (try simp -dsimp (disch := first | omega | (simp only [go_sem]; omega)) only [go_sem, seval, Nat.reduceEqDiff, Nat.reduceLeDiff, q6])) | simp -dsimp (disch := first | omega | (simp only [go_sem]; omega)) only [go_sem, seval, Nat.reduceEqDiff, Nat.reduceLeDiff, q6]))
   (refine wC_sq (Sync_ok q d7 (by omega)) (hs7) (by decide) ?_ ?_; (focus (simp -dsimp (disch := first | omega | (simp only [go_sem]; omega)) only [go_sem, seval, Nat.reduceEqDiff, Nat.reduceLeDiff] <;> rfl)))
   rintro _ _ G8 ⟨rfl, rfl⟩ hs8
   have hs8 : Sep ([] ++ (DiskA q (sy d7).1 :: DiskA p (rot d i).1 :: OpsA xs (opsL d.cs) :: [])) G8 := hs8
   simp -dsimp (disch := first | omega | (simp only [go_sem]; omega)) only [go_sem, seval, Nat.reduceEqDiff, Nat.reduceLeDiff, q4]
   (repeat' (first | with_reducible refine W.seq ?_ | with_reducible refine W.block ?_ | ((first | with_reducible refine W.reg ?_ | with_reducible refine W.skip ?_ | with_reducible refine W.exit ?_ | with_reducible refine W.ret ?_ | with_reducible refine W.ifc ?_ | (apply wC_Q ((Read_ok q (sy d7).1 i).q hs8); (focus (simp -dsimp (disch := first | omega | (simp only [go_sem]; omega)) only [go_sem, seval, Nat.reduceEqDiff, Nat.reduceLeDiff, q5] <;> rfl)); rintro _ rfl; try simp -dsimp (disch := first | omega | (simp only [go_sem]; omega)) only [go_sem, seval, Nat.reduceEqDiff, Nat.reduceLeDiff, q5]) | ((first | with_reducible refine wG_decE (fun _ hG => ?_) (fun _ hG => ?_) | with_reducible refine wG_decFE (fun _ hG => ?_) (fun _ hG => ?_)) <;> (try simp -dsimp only [hG, decide_true, decide_false, not_true_eq_false, not_false_eq_true]) <;> clear hG)) <;> (try simp -dsimp (disch := first | omega | (simp only [go_sem]; omega)) only [go_sem, seval, Nat.reduceEqDiff, Nat.reduceLeDiff, q4, q5])) | simp -dsimp (disch := first | omega | (simp only [go_sem]; omega)) only [go_sem, seval, Nat.reduceEqDiff, Nat.reduceLeDiff, q4, q5]))
   (refine wC_sq (sanity21_ok) (hs8) (by decide) ?_ ?_; (focus (simp -dsimp (disch := first | omega | (simp only [go_sem]; omega)) only [go_sem, seval, Nat.reduceEqDiff, Nat.reduceLeDiff] <;> rfl)))
   rintro _ _ G9 ⟨rfl, rfl⟩ hs9
   simp -dsimp (disch := first | omega | (simp only [go_sem]; omega)) only [go_sem, seval, Nat.reduceEqDiff, Nat.reduceLeDiff]
   (repeat' (first | with_reducible refine W.seq ?_ | with_reducible refine W.block ?_ | ((first | with_reducible refine W.reg ?_ | with_reducible refine W.skip ?_ | with_reducible refine W.exit ?_ | with_reducible refine W.ret ?_ | with_reducible refine W.ifc ?_ | ((first | with_reducible refine wG_decE (fun _ hG => ?_) (fun _ hG => ?_) | with_reducible refine wG_decFE (fun _ hG => ?_) (fun _ hG => ?_)) <;> (try simp -dsimp only [hG, decide_true, decide_false, not_true_eq_false, not_false_eq_true]) <;> clear hG)) <;> (try simp -dsimp (disch := first | omega | (simp only [go_sem]; omega)) only [go_sem, seval, Nat.reduceEqDiff, Nat.reduceLeDiff])) | simp -dsimp (disch := first | omega | (simp only [go_sem]; omega)) only [go_sem, seval, Nat.reduceEqDiff, Nat.reduceLeDiff]))
   exact Fin.eq rfl ⟨rfl, _, .refl _, rfl⟩
end Go.Proofs.Ytioojmlhmhgeeaa
