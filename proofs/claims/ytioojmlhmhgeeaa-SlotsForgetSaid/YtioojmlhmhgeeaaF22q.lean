/-
 Layer 22 (slots): number and make1.
 Conditions: of each contract as it says.
-/
import Derived.Test.YtioojmlhmhgeeaaF22m
import Derived.Test.YtioojmlhmhgeeaaS22e
namespace Go.Proofs.Ytioojmlhmhgeeaa
open Go Go.E2 C22
set_option linter.unusedSimpArgs false
set_option maxHeartbeats 1000000
theorem or_u32 {x k : Nat} {b : Nat} (hb : b < 2 ^ k) (hx : x * 2 ^ k + b < 4294967296) : binD .or (.int .u32 ((x * 2 ^ k : Nat) : Int)) (.int .u32 (b : Int)) = some (.int .u32 ((x * 2 ^ k + b : Nat) : Int)) := by
 have h := bv_or 32 (a := ((x * 2 ^ k : Nat) : Int)) (b := (b : Int)) (by omega) (by omega) (by omega) (by omega)
 have e : ((x * 2 ^ k : Nat) : Int).toNat ||| (b : Int).toNat = x * 2 ^ k + b := by
  rw [Int.toNat_natCast, Int.toNat_natCast, Nat.mul_comm, Nat.two_pow_add_eq_or_of_lt hb]
 simp only [binD, if_true]
 have hb : IntKind.u32.bits = 32 := rfl
 rw [hb, h, e]
 congr 2
 exact wrap_u32 (by omega) (by omega)
theorem or_nat {A b : Nat} (k : Nat) (hA : A % 2 ^ k = 0) (hb : b < 2 ^ k) (hx : A + b < 4294967296) : binD .or (.int .u32 (A : Int)) (.int .u32 (b : Int)) = some (.int .u32 ((A + b : Nat) : Int)) := by
 have e : A = (A / 2 ^ k) * 2 ^ k := by
  have := Nat.div_add_mod A (2 ^ k)
  rw [hA, Nat.add_zero, Nat.mul_comm] at this
  exact this.symm
 have := or_u32 (x := A / 2 ^ k) (k := k) (b := b) hb (by omega)
 rw [← e] at this
 exact this
theorem number_ok (s : Sec) (a : Nat) (ha : a + 3 < 64) : CallP Try.prog f_zz28 [eS s, .int .i64 a] (· = .d (.int .u32 (numAt s a))) := by
 refine callP_of_W fol zz28_cp ?_
 have hb : ∀ i, i < 64 → (List.drop (i * 1) (s.1.map eB)).head? = some (.int .u8 (byteAt s i : Int)) := fun i hi => by
  rw [Nat.mul_one, List.head?_drop, List.getElem?_map, List.getElem?_eq_getElem (by rw [s.2]; exact hi), byteAt_get s hi]; rfl
 have b0 := hb a (by omega)
 have b1 := hb (a + 1) (by omega)
 have b2 := hb (a + 2) (by omega)
 have b3 := hb (a + 3) (by omega)
 have l0 := byteAt_lt s a
 have l1 := byteAt_lt s (a + 1)
 have l2 := byteAt_lt s (a + 2)
 have l3 := byteAt_lt s (a + 3)
 have t1 : ((a : Int) + 1).toNat = a + 1 := by omega
 have t2 : ((a : Int) + 2).toNat = a + 2 := by omega
 have t3 : ((a : Int) + 3).toNat = a + 3 := by omega
 have o1 := or_nat (A := byteAt s a * 16777216) (b := byteAt s (a + 1) * 65536) 24 (by omega) (by omega) (by omega)
 have o2 := or_nat (A := byteAt s a * 16777216 + byteAt s (a + 1) * 65536) (b := byteAt s (a + 2) * 256) 16 (by omega) (by omega) (by omega)
 have o3 := or_nat (A := byteAt s a * 16777216 + byteAt s (a + 1) * 65536 + byteAt s (a + 2) * 256) (b := byteAt s (a + 3)) 8 (by omega) (by omega) (by omega)
 simp only [Int.natCast_add, Int.natCast_mul, Int.cast_ofNat_Int] at o1 o2 o3
 simp -dsimp (disch := first | omega | (simp only [go_sem]; omega)) only [go_sem, seval, Nat.reduceEqDiff, Nat.reduceLeDiff]
 (repeat (first | (with_reducible first | refine W.seq ?_ | refine W.block ?_) | ((with_reducible first | refine W.reg ?_ | refine W.skip ?_ | refine W.exit ?_ | refine W.ret ?_ | refine W.ifc ?_); simp -dsimp (disch := first | omega | (simp only [go_sem]; omega)) only [go_sem, seval, Nat.reduceEqDiff, Nat.reduceLeDiff, b0, b1, b2, b3, t1, t2, t3, o1, o2, o3])))
 exact Fin.p rfl (iE (by unfold numAt; omega))
theorem wrap_byteI (b : Int) : IntKind.u8.wrap b = ((byteI b).toNat : Int) := wrap_byte b
def zB (n : Nat) : List D := List.replicate n (.int .u8 0)
def mkT (q : Int) : Nat → List D
 | 0 => z0.1.map eB
 | 1 => (qb q).map eB ++ zB 60
 | _ => (qb q).map eB ++ zB 28 ++ (qb q).map eB ++ zB 28
theorem mkT_len (q : Int) : ∀ t, (mkT q t).length = 64
 | 0 => rfl
 | 1 => rfl
 | _ + 2 => rfl
theorem zB_split {n k : Nat} (h : k ≤ n) : zB n = zB k ++ zB (n - k) := by
 unfold zB
 rw [List.replicate_append_replicate]
 congr 1; omega
theorem map_pad (n : Nat) (l : Str) : (pad n l).map eB = l.map eB ++ zB (n - l.length) := by
 unfold pad zB
 rw [List.map_append, List.map_replicate]; rfl
theorem mk1_cells (q : Int) (b : Str) (hb : b.length ≤ 55) : (mk1 q b).1.map eB = (qb q).map eB ++ ((b.take 28).map eB ++ zB (28 - (b.take 28).length)) ++ (qb q).map eB ++ [eB (UInt8.ofNat b.length)] ++ ((b.drop 28).map eB ++ zB (27 - (b.drop 28).length)) := by
 have h3 : (b.drop 28).take 27 = b.drop 28 := List.take_of_length_le (by rw [List.length_drop]; omega)
 have h1 : (pad 28 (b.take 28)).length = 28 := pad_len (by simp; omega)
 have h2 : (pad 27 (b.drop 28)).length = 27 := pad_len (by rw [List.length_drop]; omega)
 unfold mk1
 simp only [h3]
 rw [List.take_of_length_le (by simp only [List.length_append, h1, h2, qb, List.length_cons, List.length_nil]; omega)]
 simp only [List.map_append, map_pad, List.map_cons, List.map_nil]
theorem put_front (q : Int) (x : D) (b : Str) : over ((qb q).map eB ++ zB 28 ++ (qb q).map eB ++ [x] ++ zB 27) ((b.take 28).map eB) 4 = (qb q).map eB ++ ((b.take 28).map eB ++ zB (28 - (b.take 28).length)) ++ (qb q).map eB ++ [x] ++ zB 27 := by
 have hk : (b.take 28).length ≤ 28 := by rw [List.length_take]; omega
 have e := over_at (pre := (qb q).map eB) (mid := zB (b.take 28).length) (post := zB (28 - (b.take 28).length) ++ (qb q).map eB ++ [x] ++ zB 27) (ys := (b.take 28).map eB) (n := 4) rfl (by simp [zB])
 rw [zB_split hk]
 simp only [List.append_assoc] at e ⊢
 exact e
theorem put_back (q : Int) (x : D) (b : Str) (hb : b.length ≤ 55) : over ((qb q).map eB ++ ((b.take 28).map eB ++ zB (28 - (b.take 28).length)) ++ (qb q).map eB ++ [x] ++ zB 27) ((b.drop 28).map eB) 37 = (qb q).map eB ++ ((b.take 28).map eB ++ zB (28 - (b.take 28).length)) ++ (qb q).map eB ++ [x] ++ ((b.drop 28).map eB ++ zB (27 - (b.drop 28).length)) := by
 have hk : (b.drop 28).length ≤ 27 := by rw [List.length_drop]; omega
 have e := over_at (pre := (qb q).map eB ++ ((b.take 28).map eB ++ zB (28 - (b.take 28).length)) ++ (qb q).map eB ++ [x]) (mid := zB (b.drop 28).length) (post := zB (27 - (b.drop 28).length)) (ys := (b.drop 28).map eB) (n := 37) (by simp [zB, qb]; omega) (by simp [zB])
 rw [zB_split hk]
 simp only [List.append_assoc] at e ⊢
 exact e
theorem make1_ok (q : Int) (h0 : 0 ≤ q) (h1 : q < 4294967296) (b : Str) (hb : b.length ≤ 55) : CallP Try.prog f_zz29 [.int .u32 q, .str b] (· = .d (eS (mk1 q b))) := by
 refine CallP.of_deep (callT_of_W fol zz29_cp ?_)
 simp -dsimp (disch := first | omega | (simp only [go_sem]; omega)) only [go_sem, seval, Nat.reduceEqDiff, Nat.reduceLeDiff]
 (repeat (first | (with_reducible first | refine W.seq ?_ | refine W.block ?_) | ((with_reducible first | refine W.reg ?_ | refine W.skip ?_ | refine W.exit ?_ | refine W.ret ?_ | refine W.ifc ?_); simp -dsimp (disch := first | omega | (simp only [go_sem]; omega)) only [go_sem, seval, Nat.reduceEqDiff, Nat.reduceLeDiff])))
 refine wNew_mk fun g1 hg0 => ?_
 simp -dsimp (disch := first | omega | (simp only [go_sem]; omega)) only [go_sem, seval, Nat.reduceEqDiff, Nat.reduceLeDiff]
 (repeat (first | (with_reducible first | refine W.seq ?_ | refine W.block ?_) | ((with_reducible first | refine W.reg ?_ | refine W.skip ?_ | refine W.exit ?_ | refine W.ret ?_ | refine W.ifc ?_); simp -dsimp (disch := first | omega | (simp only [go_sem]; omega)) only [go_sem, seval, Nat.reduceEqDiff, Nat.reduceLeDiff])))
 refine W.loop (fun n st => ∃ (t : Nat), t ≤ 2 ∧ n = 2 - t ∧
  st = (E [(0, .d (.int .u32 q)), (1, .d (.str b)), (4, .ptr 0 4 1 0), (5, .d (.gp g1 0)), (9, .d (.agg [.int .i64 0, .int .i64 32])), (10, .d (.int .i64 t))], HB [(4, ⟨1, some (z0.1.map eB)⟩)], [], noGh.set g1 (some (mkT q t))))
  ⟨_, _, st_le (by (simp -dsimp (disch := first | omega | (simp only [go_sem]; omega)) only [go_sem, seval, Nat.reduceEqDiff, Nat.reduceLeDiff] <;> ((repeat' apply And.intro) <;> first | exact VLe.refl _ | (apply vle_int; omega) | (apply vle_int; simp; done) | exact VLe.own _ _ | exact VLe.nilown _ | exact VLe.norm _))), 0, by omega, rfl, rfl⟩ ?_
 rintro n st ⟨t, ht, rfl, rfl⟩
 (repeat (first | (with_reducible first | refine W.seq ?_ | refine W.block ?_) | ((with_reducible first | refine W.reg ?_ | refine W.skip ?_ | refine W.exit ?_ | refine W.ret ?_ | refine W.ifc ?_); simp -dsimp (disch := first | omega | (simp only [go_sem]; omega)) only [go_sem, seval, Nat.reduceEqDiff, Nat.reduceLeDiff])))
 refine wG_dec (fun h4 => ?_) (fun h4 => ?_)
 · have hl := mkT_len q t
   rcases (by omega : t = 0 ∨ t = 1) with rfl | rfl
   · (repeat (first | (with_reducible first | refine W.seq ?_ | refine W.block ?_) | ((with_reducible first | refine W.reg ?_ | refine W.skip ?_ | refine W.exit ?_ | refine W.ret ?_ | refine W.ifc ?_); simp -dsimp (disch := first | omega | (simp only [go_sem]; omega)) only [go_sem, seval, Nat.reduceEqDiff, Nat.reduceLeDiff, hl, wrap_byteI])))
     exact ⟨_, _, by omega, st_le (by (simp -dsimp (disch := first | omega | (simp only [go_sem]; omega)) only [go_sem, seval, Nat.reduceEqDiff, Nat.reduceLeDiff] <;> ((repeat' apply And.intro) <;> first | exact VLe.refl _ | (apply vle_int; omega) | (apply vle_int; simp; done) | exact VLe.own _ _ | exact VLe.nilown _ | exact VLe.norm _))), 1, by omega, rfl, rfl⟩
   · have hm : min 32 64 = 32 := rfl
     have hm1 : min 33 32 = 32 := rfl
     have hm2 : min 34 32 = 32 := rfl
     have hm3 : min 35 32 = 32 := rfl
     have hm4 : min 36 32 = 32 := rfl
     (repeat (first | (with_reducible first | refine W.seq ?_ | refine W.block ?_) | ((with_reducible first | refine W.reg ?_ | refine W.skip ?_ | refine W.exit ?_ | refine W.ret ?_ | refine W.ifc ?_); simp -dsimp (disch := first | omega | (simp only [go_sem]; omega)) only [go_sem, seval, Nat.reduceEqDiff, Nat.reduceLeDiff, hl, wrap_byteI, hm, hm1, hm2, hm3, hm4])))
     exact ⟨_, _, by omega, st_le (by (simp -dsimp (disch := first | omega | (simp only [go_sem]; omega)) only [go_sem, seval, Nat.reduceEqDiff, Nat.reduceLeDiff] <;> ((repeat' apply And.intro) <;> first | exact VLe.refl _ | (apply vle_int; omega) | (apply vle_int; simp; done) | exact VLe.own _ _ | exact VLe.nilown _ | exact VLe.norm _))), 2, by omega, rfl, rfl⟩
 · obtain rfl : t = 2 := by omega
   have hl := mkT_len q 2
   (repeat (first | (with_reducible first | refine W.seq ?_ | refine W.block ?_) | ((with_reducible first | refine W.reg ?_ | refine W.skip ?_ | refine W.exit ?_ | refine W.ret ?_ | refine W.ifc ?_); simp -dsimp (disch := first | omega | (simp only [go_sem]; omega)) only [go_sem, seval, Nat.reduceEqDiff, Nat.reduceLeDiff, hl, wrap_byteI])))
   have e1 : List.take 36 (mkT q 2) ++ [D.int IntKind.u8 ((byteI (b.length : Int)).toNat : Int)] ++ List.drop 37 (mkT q 2) = (qb q).map eB ++ zB 28 ++ (qb q).map eB ++ [eB (UInt8.ofNat b.length)] ++ zB 27 := by
    have : byteI (b.length : Int) = UInt8.ofNat b.length := by
     unfold byteI
     congr 1
     omega
    rw [this]; rfl
   rw [e1]
   have hg1 : (noGh.set g1 (some ((qb q).map eB ++ zB 28 ++ (qb q).map eB ++ [eB (UInt8.ofNat b.length)] ++ zB 27))).c g1 = some ((qb q).map eB ++ zB 28 ++ (qb q).map eB ++ [eB (UInt8.ofNat b.length)] ++ zB 27) := by simp [upd]
   refine wGd_mk (by simp only [gdD, hg1]; rw [if_pos (by simp [zB, qb])]) ?_
   have e2 := put_front q (eB (UInt8.ofNat b.length)) b
   have e3 : (List.map (fun u : UInt8 => D.int IntKind.u8 (u.toNat : Int)) (List.take 28 b)) = (b.take 28).map eB := rfl
   rw [Gh.set_set, e3, e2]
   have hg2 : (noGh.set g1 (some ((qb q).map eB ++ ((b.take 28).map eB ++ zB (28 - (b.take 28).length)) ++ (qb q).map eB ++ [eB (UInt8.ofNat b.length)] ++ zB 27))).c g1 = some ((qb q).map eB ++ ((b.take 28).map eB ++ zB (28 - (b.take 28).length)) ++ (qb q).map eB ++ [eB (UInt8.ofNat b.length)] ++ zB 27) := by simp [upd]
   have hl2 : ((qb q).map eB ++ ((b.take 28).map eB ++ zB (28 - (b.take 28).length)) ++ (qb q).map eB ++ [eB (UInt8.ofNat b.length)] ++ zB 27).length = 64 := by simp [zB, qb]; omega
   have e4 := put_back q (eB (UInt8.ofNat b.length)) b hb
   have e5 := mk1_cells q b hb
   rw [← e5] at e4
   generalize (qb q).map eB ++ ((b.take 28).map eB ++ zB (28 - (b.take 28).length)) ++ (qb q).map eB ++ [eB (UInt8.ofNat b.length)] ++ zB 27 = c2 at hg2 hl2 e4 ⊢
   have hmn : (min 28 (b.length : Int)).toNat = min 28 b.length := by omega
   simp -dsimp (disch := first | omega | (simp only [go_sem]; omega)) only [go_sem, seval, Nat.reduceEqDiff, Nat.reduceLeDiff, hl2, hmn]
   (repeat (first | (with_reducible first | refine W.seq ?_ | refine W.block ?_) | ((with_reducible first | refine W.reg ?_ | refine W.skip ?_ | refine W.exit ?_ | refine W.ret ?_ | refine W.ifc ?_); simp -dsimp (disch := first | omega | (simp only [go_sem]; omega)) only [go_sem, seval, Nat.reduceEqDiff, Nat.reduceLeDiff, hl2, hmn])))
   have e6 : List.drop (min 28 b.length) b = b.drop 28 := by
    rcases Nat.le_total b.length 28 with h | h
    · rw [Nat.min_eq_right h, List.drop_length, List.drop_of_length_le h]
    · rw [Nat.min_eq_left h]
   have e7 : (List.map (fun u : UInt8 => D.int IntKind.u8 (u.toNat : Int)) (List.take 27 (b.drop 28))) = (b.drop 28).map eB := by
    rw [List.take_of_length_le (by rw [List.length_drop]; omega)]; rfl
   rw [e6]
   refine wGd_mk (by simp only [gdD, hg2]; rw [if_pos (by omega)]) ?_
   rw [Gh.set_set, e7, e4]
   simp -dsimp (disch := first | omega | (simp only [go_sem]; omega)) only [go_sem, seval, Nat.reduceEqDiff, Nat.reduceLeDiff]
   (repeat (first | (with_reducible first | refine W.seq ?_ | refine W.block ?_) | ((with_reducible first | refine W.reg ?_ | refine W.skip ?_ | refine W.exit ?_ | refine W.ret ?_ | refine W.ifc ?_); simp -dsimp (disch := first | omega | (simp only [go_sem]; omega)) only [go_sem, seval, Nat.reduceEqDiff, Nat.reduceLeDiff])))
   (apply Fin.eq; (focus (simp -dsimp (disch := first | omega | (simp only [go_sem]; omega)) only [go_sem, seval, Nat.reduceEqDiff, Nat.reduceLeDiff] <;> rfl)))
   exact ⟨rfl, _, .refl _, rfl⟩
end Go.Proofs.Ytioojmlhmhgeeaa
