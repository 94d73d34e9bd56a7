/-
 Layer 21 (disk), continued: slices.Repeat, Open; the reference's Filled and Same.
 Conditions: of each contract as it says.
-/
import Derived.Test.YtioojmlhmhgeeaaF22g
namespace Go.Proofs.Ytioojmlhmhgeeaa
open Go Go.E2 C22
set_option linter.unusedSimpArgs false
set_option maxHeartbeats 1000000
theorem and_mask {b : Int} (h0 : 0 ≤ b) (h1 : b < 4294967296) : binD .and (.int .u64 b) (.int .u64 4294967295) = some (.int .u64 b) := by
 have h := bv_and 64 (a := b) (b := 4294967295) h0 (by omega) (by omega) (by omega)
 have e : b.toNat &&& (4294967295 : Int).toNat = b.toNat := by
  have : (4294967295 : Int).toNat = 2 ^ 32 - 1 := rfl
  rw [this, Nat.and_two_pow_sub_one_eq_mod]
  exact Nat.mod_eq_of_lt (by omega)
 simp only [binD, if_true]
 have hb : IntKind.u64.bits = 64 := rfl
 rw [hb, h, e]
 congr 2
 have : ((b.toNat : Nat) : Int) = b := by omega
 rw [this]
 exact wrap_u64 h0 (by omega)
theorem shr_32 {b : Int} (h0 : 0 ≤ b) (h1 : b < 4294967296) : binD .shr (.int .u64 b) (.int .u64 32) = some (.int .u64 0) := by
 have : b.fdiv (2 ^ (min (32 : Int).toNat IntKind.u64.bits)) = 0 := by
  have e : ((2 : Int) ^ (min (32 : Int).toNat IntKind.u64.bits)) = 4294967296 := rfl
  rw [e, Int.fdiv_eq_ediv_of_nonneg _ (by omega)]
  omega
 simp only [binD, this]
 rfl
theorem Mul64_ok (b : Int) (h0 : 0 ≤ b) (h1 : b < 4294967296) : CallP Try.prog f_math_bits_Mul64 [.int .u64 1, .int .u64 b] (· = .tup [.int .u64 0, .int .u64 b]) := by
 refine callP_of_W fol math_bits_Mul64_cp ?_
 have e1 := and_mask (b := 1) (by omega) (by omega)
 have e2 := and_mask h0 h1
 have e3 := shr_32 (b := 1) (by omega) (by omega)
 have e4 := shr_32 h0 h1
 have e5 := and_mask (b := 0) (by omega) (by omega)
 have e6 := shr_32 (b := 0) (by omega) (by omega)
 simp -dsimp (disch := first | omega | (simp only [go_sem]; omega)) only [go_sem, seval, Nat.reduceEqDiff, Nat.reduceLeDiff]
 (repeat (first | with_reducible refine W.seq ?_ | with_reducible refine W.block ?_ | ((first | with_reducible refine W.reg ?_ | with_reducible refine W.skip ?_ | with_reducible refine W.exit ?_ | with_reducible refine W.ret ?_ | with_reducible refine W.ifc ?_); simp -dsimp (disch := first | omega | (simp only [go_sem]; omega)) only [go_sem, seval, Nat.reduceEqDiff, Nat.reduceLeDiff, e1, e2, e3, e4, e5, e6, Int.one_mul, Int.zero_mul, Int.mul_zero, Int.zero_add, Int.add_zero])))
 exact Fin.p rfl rfl
theorem Mul_ok (b : Int) (h0 : 0 ≤ b) (h1 : b < 4294967296) : CallP Try.prog f_math_bits_Mul [.int .u64 1, .int .u64 b] (· = .tup [.int .u64 0, .int .u64 b]) := by
 refine callP_of_W fol math_bits_Mul_cp ?_
 simp -dsimp (disch := first | omega | (simp only [go_sem]; omega)) only [go_sem, seval, Nat.reduceEqDiff, Nat.reduceLeDiff]
 (repeat' (first | with_reducible refine W.seq ?_ | with_reducible refine W.block ?_ | ((first | with_reducible refine W.reg ?_ | with_reducible refine W.skip ?_ | with_reducible refine W.exit ?_ | with_reducible refine W.ret ?_ | with_reducible refine W.ifc ?_ | (apply wC_P (Mul64_ok b h0 h1); (focus (simp -dsimp (disch := first | omega | (simp only [go_sem]; omega)) only [go_sem, seval, Nat.reduceEqDiff, Nat.reduceLeDiff] <;> rfl)); rintro _ rfl) | ((first | with_reducible refine wG_decE (fun _ hG => ?_) (fun _ hG => ?_) | with_reducible refine wG_decFE (fun _ hG => ?_) (fun _ hG => ?_)) <;> (try simp -dsimp only [hG, decide_true, decide_false, not_true_eq_false, not_false_eq_true]) <;> clear hG)) <;> (try simp -dsimp (disch := first | omega | (simp only [go_sem]; omega)) only [go_sem, seval, Nat.reduceEqDiff, Nat.reduceLeDiff])) | simp -dsimp (disch := first | omega | (simp only [go_sem]; omega)) only [go_sem, seval, Nat.reduceEqDiff, Nat.reduceLeDiff]))
 exact Fin.p rfl rfl
theorem rep_eI (n : Nat) (x : D) : rep n [x] = List.replicate n x := by
 induction n with
 | zero => rfl
 | succ n ih =>
  have : rep (n + 1) [x] = x :: rep n [x] := by simp [rep, List.replicate_succ]
  rw [this, ih, List.replicate_succ]
theorem over_rep (i z : D) {n t m : Nat} (hm : m = min (n - t) t) (ht : t ≤ n) :
 over (List.replicate t i ++ List.replicate (n - t) z) ((List.replicate t i).take m) t = List.replicate (t + m) i ++ List.replicate (n - (t + m)) z := by
 unfold over
 rw [List.take_append_of_le_length (by simp), List.take_of_length_le (by simp), List.take_replicate, List.length_replicate, List.drop_append, List.drop_of_length_le (by simp), List.nil_append, List.length_replicate, List.drop_replicate, List.replicate_append_replicate]
 congr 1
 · congr 1; omega
 · congr 1; omega
theorem Repeat_ok (i : Int) (n : Nat) (h1 : 1 ≤ n) (h2 : n ≤ 1000000000) : CallP Try.prog f_slices_Repeat_int_int [.list [eI i], .int .i64 n] (· = .d (.list (List.replicate n (eI i)))) := by
 refine CallP.of_deep (callT_of_W fol slices_Repeat_int_int_cp ?_)
 have q1 : ((n : Int) < 0) = False := eq_false (by omega)
 have q2 : (9223372036854775807 < (n : Int)) = False := eq_false (by omega)
 simp -dsimp (disch := first | omega | (simp only [go_sem]; omega)) only [go_sem, seval, Nat.reduceEqDiff, Nat.reduceLeDiff]
 (repeat' (first | with_reducible refine W.seq ?_ | with_reducible refine W.block ?_ | ((first | with_reducible refine W.reg ?_ | with_reducible refine W.skip ?_ | with_reducible refine W.exit ?_ | with_reducible refine W.ret ?_ | with_reducible refine W.ifc ?_ | (apply wC_P (Mul_ok n (by omega) (by omega)); (focus (simp -dsimp (disch := first | omega | (simp only [go_sem]; omega)) only [go_sem, seval, Nat.reduceEqDiff, Nat.reduceLeDiff] <;> rfl)); rintro _ rfl) | ((first | with_reducible refine wG_decE (fun _ hG => ?_) (fun _ hG => ?_) | with_reducible refine wG_decFE (fun _ hG => ?_) (fun _ hG => ?_)) <;> (try simp -dsimp only [hG, decide_true, decide_false, not_true_eq_false, not_false_eq_true]) <;> clear hG)) <;> (try simp -dsimp (disch := first | omega | (simp only [go_sem]; omega)) only [go_sem, seval, Nat.reduceEqDiff, Nat.reduceLeDiff, q1, q2])) | simp -dsimp (disch := first | omega | (simp only [go_sem]; omega)) only [go_sem, seval, Nat.reduceEqDiff, Nat.reduceLeDiff, q1, q2]))
 refine wP_mk (by omega) ?_
 refine wNew_mk fun b hb => ?_
 simp -dsimp (disch := first | omega | (simp only [go_sem]; omega)) only [go_sem, seval, Nat.reduceEqDiff, Nat.reduceLeDiff, rep_eI]
 (repeat (first | with_reducible refine W.seq ?_ | with_reducible refine W.block ?_ | ((first | with_reducible refine W.reg ?_ | with_reducible refine W.skip ?_ | with_reducible refine W.exit ?_ | with_reducible refine W.ret ?_ | with_reducible refine W.ifc ?_); simp -dsimp (disch := first | omega | (simp only [go_sem]; omega)) only [go_sem, seval, Nat.reduceEqDiff, Nat.reduceLeDiff])))
 have ev : viewC (noGh.set b (some (List.replicate n (eI 0)))) 1 (.list [eI i]) = some (1, [eI i]) := viewC_list rfl
 refine wCp_mk (b := b) (off := 0) (len := n) (m := 1) (cs := List.replicate n (eI 0)) (by simp [upd]) ev (by simp) ?_
 have e0 : over (List.replicate n (eI 0)) ([eI i].take (min n 1 * 1)) 0 = List.replicate 1 (eI i) ++ List.replicate (n - 1) (eI 0) := by
  have : min n 1 * 1 = 1 := by omega
  rw [this]
  simp [over]
 rw [e0]
 have e1 : min (n : Int) ((1 : Nat) : Int) = 1 := by omega
 rw [e1]
 simp -dsimp (disch := first | omega | (simp only [go_sem]; omega)) only [go_sem, seval, Nat.reduceEqDiff, Nat.reduceLeDiff]
 (repeat (first | with_reducible refine W.seq ?_ | with_reducible refine W.block ?_ | ((first | with_reducible refine W.reg ?_ | with_reducible refine W.skip ?_ | with_reducible refine W.exit ?_ | with_reducible refine W.ret ?_ | with_reducible refine W.ifc ?_); simp -dsimp (disch := first | omega | (simp only [go_sem]; omega)) only [go_sem, seval, Nat.reduceEqDiff, Nat.reduceLeDiff])))
 refine W.loop (fun q st => ∃ (t : Nat) (G : Gh), 1 ≤ t ∧ t ≤ n ∧ q = n - t ∧ G.c b = some (List.replicate t (eI i) ++ List.replicate (n - t) (eI 0)) ∧
  st = (E [(7, .d (.gs b 0 n n)), (8, .d (.int .i64 t))], HB [], [], G))
  ⟨_, _, st_le (by (simp -dsimp (disch := first | omega | (simp only [go_sem]; omega)) only [go_sem, seval, Nat.reduceEqDiff, Nat.reduceLeDiff] <;> ((repeat' apply And.intro) <;> first | exact VLe.refl _ | (apply vle_int; omega) | (apply vle_int; simp; done) | exact VLe.own _ _ | exact VLe.nilown _ | exact VLe.norm _))), 1, _, by omega, h1, rfl, by simp [upd], rfl⟩ ?_
 rintro q st ⟨t, G, ht1, ht2, rfl, hG, rfl⟩
 (repeat (first | with_reducible refine W.seq ?_ | with_reducible refine W.block ?_ | ((first | with_reducible refine W.reg ?_ | with_reducible refine W.skip ?_ | with_reducible refine W.exit ?_ | with_reducible refine W.ret ?_ | with_reducible refine W.ifc ?_); simp -dsimp (disch := first | omega | (simp only [go_sem]; omega)) only [go_sem, seval, Nat.reduceEqDiff, Nat.reduceLeDiff])))
 refine wG_dec (fun h1 => ?_) (fun h1 => ?_)
 · have htn : t < n := by omega
   (repeat' (first | with_reducible refine W.seq ?_ | with_reducible refine W.block ?_ | ((first | with_reducible refine W.reg ?_ | with_reducible refine W.skip ?_ | with_reducible refine W.exit ?_ | with_reducible refine W.ret ?_ | with_reducible refine W.ifc ?_ | ((first | with_reducible refine wG_decE (fun _ hG => ?_) (fun _ hG => ?_) | with_reducible refine wG_decFE (fun _ hG => ?_) (fun _ hG => ?_)) <;> (try simp -dsimp only [hG, decide_true, decide_false, not_true_eq_false, not_false_eq_true]) <;> clear hG)) <;> (try simp -dsimp (disch := first | omega | (simp only [go_sem]; omega)) only [go_sem, seval, Nat.reduceEqDiff, Nat.reduceLeDiff])) | simp -dsimp (disch := first | omega | (simp only [go_sem]; omega)) only [go_sem, seval, Nat.reduceEqDiff, Nat.reduceLeDiff]))
   rw [if_neg (by omega : ¬ n = t), ite_self, Nat.mul_one, Nat.sub_zero, Nat.sub_zero]
   have ev : viewC G 1 (.gs b 0 t n) = some (t, List.replicate t (eI i)) := by
    simp only [viewC, hG]
    rw [if_pos (by simp), List.drop_zero, Nat.mul_one, List.take_append_of_le_length (by simp), List.take_of_length_le (by simp)]
   refine wCp_mk (b := b) (off := t) (len := n - t) (m := t) (cs := List.replicate t (eI i) ++ List.replicate (n - t) (eI 0)) hG ev (by simp) ?_
   rw [Nat.mul_one, over_rep _ _ rfl ht2]
   simp -dsimp (disch := first | omega | (simp only [go_sem]; omega)) only [go_sem, seval, Nat.reduceEqDiff, Nat.reduceLeDiff]
   (repeat (first | with_reducible refine W.seq ?_ | with_reducible refine W.block ?_ | ((first | with_reducible refine W.reg ?_ | with_reducible refine W.skip ?_ | with_reducible refine W.exit ?_ | with_reducible refine W.ret ?_ | with_reducible refine W.ifc ?_); simp -dsimp (disch := first | omega | (simp only [go_sem]; omega)) only [go_sem, seval, Nat.reduceEqDiff, Nat.reduceLeDiff])))
   refine ⟨_, _, ?_, st_le (l' := [(7, .d (.gs b 0 n n)), (8, .d (.int .i64 (t + min (n - t) t : Nat)))]) (by (simp -dsimp (disch := first | omega | (simp only [go_sem]; omega)) only [go_sem, seval, Nat.reduceEqDiff, Nat.reduceLeDiff] <;> ((repeat' apply And.intro) <;> first | exact VLe.refl _ | (apply vle_int; omega) | (apply vle_int; simp; done) | exact VLe.own _ _ | exact VLe.nilown _ | exact VLe.norm _))), t + min (n - t) t, _, by omega, by omega, rfl, by simp [upd], rfl⟩
   omega
 · obtain rfl : t = n := by omega
   (repeat (first | with_reducible refine W.seq ?_ | with_reducible refine W.block ?_ | ((first | with_reducible refine W.reg ?_ | with_reducible refine W.skip ?_ | with_reducible refine W.exit ?_ | with_reducible refine W.ret ?_ | with_reducible refine W.ifc ?_); simp -dsimp (disch := first | omega | (simp only [go_sem]; omega)) only [go_sem, seval, Nat.reduceEqDiff, Nat.reduceLeDiff])))
   refine Fin.eq rfl ⟨rfl, _, .d _ _ (.gs b 0 t t 1 _ (List.replicate t (eI i)) hG (by simp) (by simp) ?_ ?_), rfl⟩
   · rw [← List.map_replicate]; exact eI_all _
   · intro j x y hx hy
     simp only [Nat.sub_self, List.replicate_zero, List.append_nil, List.drop_zero, Nat.mul_one] at hx
     rw [List.take_of_length_le (by simp)] at hx
     rw [← List.map_replicate, flat_int, List.map_replicate, hx] at hy
     cases hy
     exact .refl _
theorem open_flat (d : Dk) : ((opened d).map fun i => List.replicate (opAt d i).length i).flatten = openL d := by
 unfold opened openL
 rw [List.map_map, List.flatMap_def]
 generalize List.range d.cs.length = l
 induction l with
 | nil => rfl
 | cons a l ih =>
  by_cases h : opAt d (a : Int) = []
  · rw [List.filter_cons_of_neg (by simp [h]), ih, List.map_cons, List.flatten_cons, h]; rfl
  · rw [List.filter_cons_of_pos (by simp [h]), List.map_cons, List.flatten_cons, List.map_cons, List.flatten_cons, ih]; rfl
theorem flat_len_le {d : Dk} (j : Nat) : (((opened d).take j).map fun i => List.replicate (opAt d i).length i).flatten.length ≤ (openL d).length := by
 rw [← open_flat]
 conv => rhs; rw [← List.take_append_drop j (opened d)]
 rw [List.map_append, List.flatten_append, List.length_append]
 omega
theorem Open_ok (p : Nat) (d : Dk) (hl : (openL d).length ≤ 1000000000) : CallS Try.prog f_disk_Disk_Open [.gp p 0] [DiskA p d] (fun r post => r = .d (.list ((openL d).map eI)) ∧ post = [DiskA p d]) := by
 refine callS_of_W fol disk_Disk_Open_cp fun R G σ hs => ?_
 have hok : Okd d := by obtain ⟨_, _, _, _, h⟩ := DiskP.open hs; exact h.ok
 have hst := hok.st
 have hmost := hok.most
 simp -dsimp (disch := first | omega | (simp only [go_sem]; omega)) only [go_sem, seval, Nat.reduceEqDiff, Nat.reduceLeDiff]
 (repeat (first | with_reducible refine W.seq ?_ | with_reducible refine W.block ?_ | ((first | with_reducible refine W.reg ?_ | with_reducible refine W.skip ?_ | with_reducible refine W.exit ?_ | with_reducible refine W.ret ?_ | with_reducible refine W.ifc ?_); simp -dsimp (disch := first | omega | (simp only [go_sem]; omega)) only [go_sem, seval, Nat.reduceEqDiff, Nat.reduceLeDiff])))
 (refine wC_sq (sectors_ok p d) (hs) (by decide) ?_ ?_; (focus (simp -dsimp (disch := first | omega | (simp only [go_sem]; omega)) only [go_sem, seval, Nat.reduceEqDiff, Nat.reduceLeDiff] <;> rfl)))
 rintro _ _ G4 ⟨x, rfl, rfl⟩ hs4
 have hs4 : Sep (SlA 1 x ((opened d).map eI) :: DiskA p d :: R) G4 := hs4
 have hol : (opened d).length ≤ 65536 := by
  unfold opened
  rw [List.length_map]
  have := List.length_filter_le (fun (i : Nat) => decide (opAt d (i : Int) ≠ [])) (List.range d.cs.length)
  rw [List.length_range] at this
  omega
 have hv := hs4.gv
 have hxl := hv.len
 rw [List.length_map] at hxl
 obtain ⟨cb, r, cap, m, hd⟩ := DiskP.open (Sep.swap hs4)
 have hc := hd.cell
 simp -dsimp (disch := first | omega | (simp only [go_sem]; omega)) only [go_sem, seval, Nat.reduceEqDiff, Nat.reduceLeDiff, hxl]
 (repeat (first | with_reducible refine W.seq ?_ | with_reducible refine W.block ?_ | ((first | with_reducible refine W.reg ?_ | with_reducible refine W.skip ?_ | with_reducible refine W.exit ?_ | with_reducible refine W.ret ?_ | with_reducible refine W.ifc ?_); simp -dsimp (disch := first | omega | (simp only [go_sem]; omega)) only [go_sem, seval, Nat.reduceEqDiff, Nat.reduceLeDiff])))
 refine W.loop (fun n st => ∃ (j : Nat) (es : List D), j ≤ (opened d).length ∧ n = (opened d).length - j ∧ es = (((opened d).take j).map fun i => List.replicate (opAt d i).length i).flatten.map eI ∧
  st = (E [(0, .d (.gp p 0)), (3, .own 1 es), (7, .d x), (8, .d (.int .i64 (opened d).length)), (9, .d (.int .i64 j))], HB [], σ, G4))
  ⟨_, _, st_le (by (simp -dsimp (disch := first | omega | (simp only [go_sem]; omega)) only [go_sem, seval, Nat.reduceEqDiff, Nat.reduceLeDiff] <;> ((repeat' apply And.intro) <;> first | exact VLe.refl _ | (apply vle_int; omega) | (apply vle_int; simp; done) | exact VLe.own _ _ | exact VLe.nilown _ | exact VLe.norm _))), 0, [], by omega, rfl, rfl, rfl⟩ ?_
 rintro n st ⟨j, es, hj, rfl, hes, rfl⟩
 (repeat (first | with_reducible refine W.seq ?_ | with_reducible refine W.block ?_ | ((first | with_reducible refine W.reg ?_ | with_reducible refine W.skip ?_ | with_reducible refine W.exit ?_ | with_reducible refine W.ret ?_ | with_reducible refine W.ifc ?_); simp -dsimp (disch := first | omega | (simp only [go_sem]; omega)) only [go_sem, seval, Nat.reduceEqDiff, Nat.reduceLeDiff])))
 refine wG_dec (fun h1 => ?_) (fun h1 => ?_)
 · have hj' : j < (opened d).length := by omega
   obtain ⟨k, hk1, hk2, hk3, hk4⟩ := opened_get (List.getElem?_eq_getElem hj')
   have hgx := hv.inv (by intro e; rw [List.map_eq_nil_iff] at e; rw [e] at hj'; simp at hj')
   obtain ⟨bx, capx, csx, hx, hbx, hrx⟩ := hgx
   rw [List.length_map] at hx hrx
   subst hx
   have hldx := hrx.fld (i := j) (j := 0) (by simpa using hj') (by omega)
   rw [List.getElem_map, hk1] at hldx
   simp only [D.cells, List.getElem?_cons_zero, Option.map_some, Nat.mul_one, Nat.add_zero] at hldx
   obtain ⟨y, hl, hvy, _, _⟩ := hd.look k
   have hlen := hvy.len
   rw [List.length_map] at hlen
   have hop : opAt d k = d.cs[k].op := opAt_get hk2
   have hfew := hok.few d.cs[k] (List.getElem_mem hk2)
   rw [← hop] at hfew
   have hpos : 0 < (opAt d k).length := List.length_pos_iff.2 hk3
   have hle := flat_len_le (d := d) (j + 1)
   rw [List.take_succ_eq_append_getElem hj', List.map_append, List.flatten_append, List.length_append, hk1] at hle
   have hel : es.length = (((opened d).take j).map fun i => List.replicate (opAt d i).length i).flatten.length := by rw [hes, List.length_map]
   simp only [List.map_cons, List.map_nil, List.flatten_cons, List.flatten_nil, List.append_nil, List.length_replicate] at hle
   have hall : (List.replicate (opAt d k).length (eI k)).all (sizeOk 1) = true := by rw [← List.map_replicate]; exact eI_all _
   have hb : (es.length + (List.replicate (opAt d k).length (eI (k : Int))).length) * 8 ≤ 140737488355328 := by rw [List.length_replicate]; omega
   (repeat' (first | with_reducible refine W.seq ?_ | with_reducible refine W.block ?_ | ((first | with_reducible refine W.reg ?_ | with_reducible refine W.skip ?_ | with_reducible refine W.exit ?_ | with_reducible refine W.ret ?_ | with_reducible refine W.ifc ?_ | (apply wC_P (Repeat_ok k (opAt d k).length hpos (by omega)); (focus (simp -dsimp (disch := first | omega | (simp only [go_sem]; omega)) only [go_sem, seval, Nat.reduceEqDiff, Nat.reduceLeDiff] <;> rfl)); rintro _ rfl) | ((first | with_reducible refine wG_decE (fun _ hG => ?_) (fun _ hG => ?_) | with_reducible refine wG_decFE (fun _ hG => ?_) (fun _ hG => ?_)) <;> (try simp -dsimp only [hG, decide_true, decide_false, not_true_eq_false, not_false_eq_true]) <;> clear hG)) <;> (try simp -dsimp (disch := first | omega | (simp only [go_sem]; omega)) only [go_sem, seval, Nat.reduceEqDiff, Nat.reduceLeDiff, hldx, hbx, Nat.mul_one, hc, hl, hlen, hall])) | simp -dsimp (disch := first | omega | (simp only [go_sem]; omega)) only [go_sem, seval, Nat.reduceEqDiff, Nat.reduceLeDiff, hldx, hbx, Nat.mul_one, hc, hl, hlen, hall]))
   refine ⟨_, _, ?_, st_le (by (simp -dsimp (disch := first | omega | (simp only [go_sem]; omega)) only [go_sem, seval, Nat.reduceEqDiff, Nat.reduceLeDiff] <;> ((repeat' apply And.intro) <;> first | exact VLe.refl _ | (apply vle_int; omega) | (apply vle_int; simp; done) | exact VLe.own _ _ | exact VLe.nilown _ | exact VLe.norm _))), j + 1, _, by omega, rfl, ?_, rfl⟩
   · omega
   · rw [hes, List.take_succ_eq_append_getElem hj', List.map_append, List.flatten_append, List.map_append, hk1]
     simp only [List.map_cons, List.map_nil, List.flatten_cons, List.flatten_nil, List.append_nil, List.map_replicate]
 · obtain rfl : j = (opened d).length := by omega
   rw [List.take_length, open_flat] at hes
   subst hes
   (repeat (first | with_reducible refine W.seq ?_ | with_reducible refine W.block ?_ | ((first | with_reducible refine W.reg ?_ | with_reducible refine W.skip ?_ | with_reducible refine W.exit ?_ | with_reducible refine W.ret ?_ | with_reducible refine W.ifc ?_); simp -dsimp (disch := first | omega | (simp only [go_sem]; omega)) only [go_sem, seval, Nat.reduceEqDiff, Nat.reduceLeDiff])))
   exact Fin.eq rfl ⟨rfl, _, ⟨rfl, rfl⟩, hs4.tail⟩
end Go.Proofs.Ytioojmlhmhgeeaa
