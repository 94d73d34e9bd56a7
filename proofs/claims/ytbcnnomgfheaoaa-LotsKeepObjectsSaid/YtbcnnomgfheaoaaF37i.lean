/-
 Layer 37 (chunk), continued: finding an object, and rows of objects that may change.
 Conditions: of each contract as it says.
-/
import Derived.Test.YtbcnnomgfheaoaaF37a
import Derived.Test.YtbcnnomgfheaoaaS37
namespace Go.Proofs.Ytbcnnomgfheaoaa
open Go Go.E2 C37
set_option linter.unusedSimpArgs false
set_option maxHeartbeats 1000000
def cmpI (a b : Int) : Int := if a < b then -1 else if b < a then 1 else 0
theorem isNaN_ok (a : Int) : CallP Try.prog f_cmp_isNaN_int [.int .i64 a] (· = .d (.bool false)) := by
 refine callP_of_W fol cmp_isNaN_int_cp ?_
 simp -dsimp (disch := first | omega | (simp only [go_sem]; omega)) only [go_sem, seval, Nat.reduceEqDiff, Nat.reduceLeDiff]
 (repeat (first | with_reducible refine W.seq ?_ | with_reducible refine W.block ?_ | ((first | with_reducible refine W.reg ?_ | with_reducible refine W.skip ?_ | with_reducible refine W.exit ?_ | with_reducible refine W.ret ?_ | with_reducible refine W.ifc ?_); simp -dsimp (disch := first | omega | (simp only [go_sem]; omega)) only [go_sem, seval, Nat.reduceEqDiff, Nat.reduceLeDiff])))
 exact Fin.p rfl (by (first | rfl | (refine bT ?_; omega) | (refine bF ?_; omega) | (refine bI ?_; omega)))
theorem Compare_ok (a b : Int) : CallP Try.prog f_cmp_Compare_int [.int .i64 a, .int .i64 b] (· = .d (.int .i64 (cmpI a b))) := by
 refine callP_of_W fol cmp_Compare_int_cp ?_
 simp -dsimp (disch := first | omega | (simp only [go_sem]; omega)) only [go_sem, seval, Nat.reduceEqDiff, Nat.reduceLeDiff]
 (repeat' (first | with_reducible refine W.seq ?_ | with_reducible refine W.block ?_ | ((first | with_reducible refine W.reg ?_ | with_reducible refine W.skip ?_ | with_reducible refine W.exit ?_ | with_reducible refine W.ret ?_ | with_reducible refine W.ifc ?_ | (apply wC_P (isNaN_ok a); (focus (simp -dsimp (disch := first | omega | (simp only [go_sem]; omega)) only [go_sem, seval, Nat.reduceEqDiff, Nat.reduceLeDiff] <;> rfl)); rintro _ rfl) | (apply wC_P (isNaN_ok b); (focus (simp -dsimp (disch := first | omega | (simp only [go_sem]; omega)) only [go_sem, seval, Nat.reduceEqDiff, Nat.reduceLeDiff] <;> rfl)); rintro _ rfl) | ((first | with_reducible refine wG_decE (fun _ hG => ?_) (fun _ hG => ?_) | with_reducible refine wG_decFE (fun _ hG => ?_) (fun _ hG => ?_)) <;> (try simp -dsimp only [hG, decide_true, decide_false, not_true_eq_false, not_false_eq_true]) <;> clear hG)) <;> (try simp -dsimp (disch := first | omega | (simp only [go_sem]; omega)) only [go_sem, seval, Nat.reduceEqDiff, Nat.reduceLeDiff])) | simp -dsimp (disch := first | omega | (simp only [go_sem]; omega)) only [go_sem, seval, Nat.reduceEqDiff, Nat.reduceLeDiff]))
 all_goals (refine Fin.p rfl (iE ?_); unfold cmpI; first | (rw [if_pos (by omega)]) | (rw [if_neg (by omega), if_pos (by omega)]) | (rw [if_neg (by omega), if_neg (by omega)]))
theorem object1_ok (x : Ob) (n : Int) : CallP Try.prog f_chunk_object_1 [eB x, .int .i64 n] (· = .d (.int .i64 (cmpI x.id n))) := by
 refine callP_of_W fol chunk_object_1_cp ?_
 simp -dsimp (disch := first | omega | (simp only [go_sem]; omega)) only [go_sem, seval, Nat.reduceEqDiff, Nat.reduceLeDiff]
 (repeat' (first | with_reducible refine W.seq ?_ | with_reducible refine W.block ?_ | ((first | with_reducible refine W.reg ?_ | with_reducible refine W.skip ?_ | with_reducible refine W.exit ?_ | with_reducible refine W.ret ?_ | with_reducible refine W.ifc ?_ | (apply wC_P (Compare_ok x.id n); (focus (simp -dsimp (disch := first | omega | (simp only [go_sem]; omega)) only [go_sem, seval, Nat.reduceEqDiff, Nat.reduceLeDiff] <;> rfl)); rintro _ rfl) | ((first | with_reducible refine wG_decE (fun _ hG => ?_) (fun _ hG => ?_) | with_reducible refine wG_decFE (fun _ hG => ?_) (fun _ hG => ?_)) <;> (try simp -dsimp only [hG, decide_true, decide_false, not_true_eq_false, not_false_eq_true]) <;> clear hG)) <;> (try simp -dsimp (disch := first | omega | (simp only [go_sem]; omega)) only [go_sem, seval, Nat.reduceEqDiff, Nat.reduceLeDiff])) | simp -dsimp (disch := first | omega | (simp only [go_sem]; omega)) only [go_sem, seval, Nat.reduceEqDiff, Nat.reduceLeDiff]))
 all_goals exact Fin.p rfl rfl
theorem cmpI_neg {a b : Int} : cmpI a b < 0 ↔ a < b := by unfold cmpI; split <;> (try split) <;> omega
theorem cmpI_zero {a b : Int} : cmpI a b = 0 ↔ a = b := by unfold cmpI; split <;> (try split) <;> omega
theorem search_ok (l : List Ob) (n : Int) (hl : l.length ≤ 100000) (ho : l.Pairwise fun a b => a.id < b.id) :
 CallP Try.prog f_slices_BinarySearchFunc_api_LotObject_api_LotObject_int [.list (l.map eB), .int .i64 n, .fn f_chunk_object_1] (· = .tup [.int .i64 (place n l), .bool (decide (known n l))]) := by
 refine callP_of_W fol slices_BinarySearchFunc_api_LotObject_api_LotObject_int_cp ?_
 simp -dsimp (disch := first | omega | (simp only [go_sem]; omega)) only [go_sem, seval, Nat.reduceEqDiff, Nat.reduceLeDiff]
 (repeat (first | with_reducible refine W.seq ?_ | with_reducible refine W.block ?_ | ((first | with_reducible refine W.reg ?_ | with_reducible refine W.skip ?_ | with_reducible refine W.exit ?_ | with_reducible refine W.ret ?_ | with_reducible refine W.ifc ?_); simp -dsimp (disch := first | omega | (simp only [go_sem]; omega)) only [go_sem, seval, Nat.reduceEqDiff, Nat.reduceLeDiff])))
 refine W.loop (fun k st => ∃ i j, i ≤ j ∧ j ≤ l.length ∧ k = j - i ∧ (∀ (m : Nat) (h : m < l.length), m < i → l[m].id < n) ∧ (∀ (m : Nat) (h : m < l.length), j ≤ m → ¬ l[m].id < n) ∧
  st = (E [(0, .d (.list (l.map eB))), (1, .d (.int .i64 n)), (2, .d (.fn f_chunk_object_1)), (8, .d (.int .i64 l.length)), (9, .d (.int .i64 i)), (10, .d (.int .i64 j))], HB [], [], noGh))
  ⟨_, _, st_le (by (simp -dsimp (disch := first | omega | (simp only [go_sem]; omega)) only [go_sem, seval, Nat.reduceEqDiff, Nat.reduceLeDiff] <;> ((repeat' apply And.intro) <;> first | exact VLe.refl _ | (apply vle_int; omega) | (apply vle_int; simp; done) | exact VLe.own _ _ | exact VLe.nilown _ | exact VLe.norm _))), 0, l.length, by omega, by omega, rfl, fun m h h' => by omega, fun m h h' => by omega, rfl⟩ ?_
 rintro k st ⟨i, j, hij, hj, rfl, hp1, hp2, rfl⟩
 (repeat (first | with_reducible refine W.seq ?_ | with_reducible refine W.block ?_ | ((first | with_reducible refine W.reg ?_ | with_reducible refine W.skip ?_ | with_reducible refine W.exit ?_ | with_reducible refine W.ret ?_ | with_reducible refine W.ifc ?_); simp -dsimp (disch := first | omega | (simp only [go_sem]; omega)) only [go_sem, seval, Nat.reduceEqDiff, Nat.reduceLeDiff])))
 refine wG_dec (fun h1 => ?_) (fun h1 => ?_)
 · have hm : i ≤ (i + j) / 2 ∧ (i + j) / 2 < j := by omega
   have hml : (i + j) / 2 < l.length := by omega
   have e1 : ((((i : Int) + j) / 2).toNat) = (i + j) / 2 := by omega
   have e2 : ((i : Int) + j) / 2 = (((i + j) / 2 : Nat) : Int) := by omega
   (repeat (first | with_reducible refine W.seq ?_ | with_reducible refine W.block ?_ | ((first | with_reducible refine W.reg ?_ | with_reducible refine W.skip ?_ | with_reducible refine W.exit ?_ | with_reducible refine W.ret ?_ | with_reducible refine W.ifc ?_); simp -dsimp (disch := first | omega | (simp only [go_sem]; omega)) only [go_sem, seval, Nat.reduceEqDiff, Nat.reduceLeDiff])))
   try simp only [e1, e2, Int.toNat_natCast]
   (apply wC_P (object1_ok l[(i + j) / 2] n); (focus (simp -dsimp (disch := first | omega | (simp only [go_sem]; omega)) only [go_sem, seval, Nat.reduceEqDiff, Nat.reduceLeDiff] <;> rfl)); rintro _ rfl; simp -dsimp (disch := first | omega | (simp only [go_sem]; omega)) only [go_sem, seval, Nat.reduceEqDiff, Nat.reduceLeDiff])
   (repeat (first | with_reducible refine W.seq ?_ | with_reducible refine W.block ?_ | ((first | with_reducible refine W.reg ?_ | with_reducible refine W.skip ?_ | with_reducible refine W.exit ?_ | with_reducible refine W.ret ?_ | with_reducible refine W.ifc ?_); simp -dsimp (disch := first | omega | (simp only [go_sem]; omega)) only [go_sem, seval, Nat.reduceEqDiff, Nat.reduceLeDiff])))
   refine wG_dec (fun h => ?_) (fun h => ?_)
   · rw [cmpI_neg] at h
     (repeat (first | with_reducible refine W.seq ?_ | with_reducible refine W.block ?_ | ((first | with_reducible refine W.reg ?_ | with_reducible refine W.skip ?_ | with_reducible refine W.exit ?_ | with_reducible refine W.ret ?_ | with_reducible refine W.ifc ?_); simp -dsimp (disch := first | omega | (simp only [go_sem]; omega)) only [go_sem, seval, Nat.reduceEqDiff, Nat.reduceLeDiff])))
     refine ⟨_, _, ?_, st_le (by (simp -dsimp (disch := first | omega | (simp only [go_sem]; omega)) only [go_sem, seval, Nat.reduceEqDiff, Nat.reduceLeDiff] <;> ((repeat' apply And.intro) <;> first | exact VLe.refl _ | (apply vle_int; omega) | (apply vle_int; simp; done) | exact VLe.own _ _ | exact VLe.nilown _ | exact VLe.norm _))), (i + j) / 2 + 1, j, by omega, by omega, rfl, fun m hm' hlt => ?_, hp2, rfl⟩
     · omega
     · by_cases e : m = (i + j) / 2
       · subst e; omega
       · have := pair_get ho (i := m) hml (by omega); omega
   · rw [cmpI_neg] at h
     (repeat (first | with_reducible refine W.seq ?_ | with_reducible refine W.block ?_ | ((first | with_reducible refine W.reg ?_ | with_reducible refine W.skip ?_ | with_reducible refine W.exit ?_ | with_reducible refine W.ret ?_ | with_reducible refine W.ifc ?_); simp -dsimp (disch := first | omega | (simp only [go_sem]; omega)) only [go_sem, seval, Nat.reduceEqDiff, Nat.reduceLeDiff])))
     refine ⟨_, _, ?_, st_le (by (simp -dsimp (disch := first | omega | (simp only [go_sem]; omega)) only [go_sem, seval, Nat.reduceEqDiff, Nat.reduceLeDiff] <;> ((repeat' apply And.intro) <;> first | exact VLe.refl _ | (apply vle_int; omega) | (apply vle_int; simp; done) | exact VLe.own _ _ | exact VLe.nilown _ | exact VLe.norm _))), i, (i + j) / 2, by omega, by omega, rfl, hp1, fun m hm' hlt => ?_, rfl⟩
     · omega
     · by_cases e : m = (i + j) / 2
       · subst e; omega
       · have := pair_get ho (i := (i + j) / 2) hm' (by omega); omega
 · obtain rfl : i = j := by omega
   have hpos := place_eq hj hp1 hp2
   by_cases hi' : i < l.length
   · (repeat' (first | with_reducible refine W.seq ?_ | with_reducible refine W.block ?_ | ((first | with_reducible refine W.reg ?_ | with_reducible refine W.skip ?_ | with_reducible refine W.exit ?_ | with_reducible refine W.ret ?_ | with_reducible refine W.ifc ?_ | (apply wC_P (object1_ok l[i] n); (focus (simp -dsimp (disch := first | omega | (simp only [go_sem]; omega)) only [go_sem, seval, Nat.reduceEqDiff, Nat.reduceLeDiff] <;> rfl)); rintro _ rfl) | ((first | with_reducible refine wG_decE (fun _ hG => ?_) (fun _ hG => ?_) | with_reducible refine wG_decFE (fun _ hG => ?_) (fun _ hG => ?_)) <;> (try simp -dsimp only [hG, decide_true, decide_false, not_true_eq_false, not_false_eq_true]) <;> clear hG)) <;> (try simp -dsimp (disch := first | omega | (simp only [go_sem]; omega)) only [go_sem, seval, Nat.reduceEqDiff, Nat.reduceLeDiff])) | simp -dsimp (disch := first | omega | (simp only [go_sem]; omega)) only [go_sem, seval, Nat.reduceEqDiff, Nat.reduceLeDiff]))
     all_goals first | (exfalso; omega) | skip
     all_goals
      refine Fin.p rfl ?_
      rw [hpos]
      congr 4
      have : known n l ↔ cmpI l[i].id n = 0 := by
       rw [cmpI_zero]
       refine ⟨fun ⟨f, hf, h⟩ => ?_, fun h => ⟨l[i], List.getElem_mem _, by omega⟩⟩
       obtain ⟨m, hm, rfl⟩ := List.getElem_of_mem hf
       have h2 := hp2 i hi' (Nat.le_refl _)
       rcases Nat.lt_trichotomy m i with h3 | h3 | h3
       · have := hp1 m hm h3; omega
       · subst h3; omega
       · have := pair_get ho (i := i) hm h3; omega
      simp [this]
   · (repeat' (first | with_reducible refine W.seq ?_ | with_reducible refine W.block ?_ | ((first | with_reducible refine W.reg ?_ | with_reducible refine W.skip ?_ | with_reducible refine W.exit ?_ | with_reducible refine W.ret ?_ | with_reducible refine W.ifc ?_ | ((first | with_reducible refine wG_decE (fun _ hG => ?_) (fun _ hG => ?_) | with_reducible refine wG_decFE (fun _ hG => ?_) (fun _ hG => ?_)) <;> (try simp -dsimp only [hG, decide_true, decide_false, not_true_eq_false, not_false_eq_true]) <;> clear hG)) <;> (try simp -dsimp (disch := first | omega | (simp only [go_sem]; omega)) only [go_sem, seval, Nat.reduceEqDiff, Nat.reduceLeDiff])) | simp -dsimp (disch := first | omega | (simp only [go_sem]; omega)) only [go_sem, seval, Nat.reduceEqDiff, Nat.reduceLeDiff]))
     all_goals first | (exfalso; omega) | skip
     all_goals
      refine Fin.p rfl ?_
      rw [hpos]
      have : ¬ known n l := fun ⟨f, hf, h⟩ => by
       obtain ⟨m, hm, rfl⟩ := List.getElem_of_mem hf
       have := hp1 m hm (by omega); omega
      simp [this]
theorem object_ok (l : Lt) (n : Int) (hl : l.obs.length ≤ 100000) (ho : l.obs.Pairwise fun a b => a.id < b.id) :
 CallP Try.prog f_chunk_object [eL l, .int .i64 n] (· = .tup [.int .i64 (place n l.obs), .bool (decide (known n l.obs))]) := by
 refine callP_of_W fol chunk_object_cp ?_
 simp -dsimp (disch := first | omega | (simp only [go_sem]; omega)) only [go_sem, seval, Nat.reduceEqDiff, Nat.reduceLeDiff]
 (repeat (first | with_reducible refine W.seq ?_ | with_reducible refine W.block ?_ | ((first | with_reducible refine W.reg ?_ | with_reducible refine W.skip ?_ | with_reducible refine W.exit ?_ | with_reducible refine W.ret ?_ | with_reducible refine W.ifc ?_); simp -dsimp (disch := first | omega | (simp only [go_sem]; omega)) only [go_sem, seval, Nat.reduceEqDiff, Nat.reduceLeDiff])))
 (apply wC_P (search_ok l.obs n hl ho); (focus (simp -dsimp (disch := first | omega | (simp only [go_sem]; omega)) only [go_sem, seval, Nat.reduceEqDiff, Nat.reduceLeDiff] <;> rfl)); rintro _ rfl; simp -dsimp (disch := first | omega | (simp only [go_sem]; omega)) only [go_sem, seval, Nat.reduceEqDiff, Nat.reduceLeDiff])
 (repeat (first | with_reducible refine W.seq ?_ | with_reducible refine W.block ?_ | ((first | with_reducible refine W.reg ?_ | with_reducible refine W.skip ?_ | with_reducible refine W.exit ?_ | with_reducible refine W.ret ?_ | with_reducible refine W.ifc ?_); simp -dsimp (disch := first | omega | (simp only [go_sem]; omega)) only [go_sem, seval, Nat.reduceEqDiff, Nat.reduceLeDiff])))
 exact Fin.p rfl rfl
theorem gset_same (G : Gh) (b : Nat) (v : Option (List D)) : (G.set b v).c b = v := by simp
theorem overlaps_ok' (es : List D) (hs : es.all (sizeOk 3) = true) {b off n cap : Nat} {cs : List D} {σ : List Hp} {G : Gh} (hG : G b = some cs) :
 CallT Try.prog f_slices_overlaps_api_LotObject ([.list es, .gs b off n cap].map .d) σ G fun r σ' G' => σ' = σ ∧ G' = G ∧ r = .d (.bool false) :=
 overlaps_ok (fn := (Try.prog.funcs[f_slices_overlaps_api_LotObject]?).get (by kernel_rfl)) (((Try.prog.funcs[f_slices_overlaps_api_LotObject]?).get (by kernel_rfl)).params.getD 0 0) (((Try.prog.funcs[f_slices_overlaps_api_LotObject]?).get (by kernel_rfl)).resultTypes.getD 0 0)
  (match Try.prog.underlying (((Try.prog.funcs[f_slices_overlaps_api_LotObject]?).get (by kernel_rfl)).params.getD 0 0) with | some (.slice e) => e | _ => 0) (by kernel_rfl) (by kernel_rfl) (by kernel_rfl) (by kernel_rfl) (by kernel_rfl) (by kernel_rfl) (by kernel_rfl) (by decide) hs hG
theorem Insert_ok {x : D} {es : List D} {i : Nat} {v : D} (hs : sizeOk 3 v = true) (hi : i ≤ es.length) (hl : es.length ≤ 100000) (σ : List Hp) {G : Gh} (hx : GV 3 G x es) :
 CallT Try.prog f_slices_Insert_api_LotObject_api_LotObject ([x, .int .i64 i, .list [v]].map .d) σ G fun r σ' G' => σ' = σ ∧ ∃ x', r = .d x' ∧ GV 3 G' x' (es.take i ++ [v] ++ es.drop i) ∧ GTo x x' G G' := by
 refine callT_of_W fol slices_Insert_api_LotObject_api_LotObject_cp ?_
 have hv : [v].all (sizeOk 3) = true := by simp [hs]
 cases hx with
 | nil =>
  obtain rfl : i = 0 := by simpa using hi
  simp -dsimp (disch := first | omega | (simp only [go_sem]; omega)) only [go_sem, seval, Nat.reduceEqDiff, Nat.reduceLeDiff]
  (repeat (first | with_reducible refine W.seq ?_ | with_reducible refine W.block ?_ | ((first | with_reducible refine W.reg ?_ | with_reducible refine W.skip ?_ | with_reducible refine W.exit ?_ | with_reducible refine W.ret ?_ | with_reducible refine W.ifc ?_); simp -dsimp (disch := first | omega | (simp only [go_sem]; omega)) only [go_sem, seval, Nat.reduceEqDiff, Nat.reduceLeDiff])))
  refine appV_GV2 .nil (viewC_list hv) rfl hv (by rfl) (by show 1 * 48 ≤ mostBytes; decide) fun x' G' hg hto => ?_
  simp -dsimp (disch := first | omega | (simp only [go_sem]; omega)) only [go_sem, seval, Nat.reduceEqDiff, Nat.reduceLeDiff]
  (repeat (first | with_reducible refine W.seq ?_ | with_reducible refine W.block ?_ | ((first | with_reducible refine W.reg ?_ | with_reducible refine W.skip ?_ | with_reducible refine W.exit ?_ | with_reducible refine W.ret ?_ | with_reducible refine W.ifc ?_); simp -dsimp (disch := first | omega | (simp only [go_sem]; omega)) only [go_sem, seval, Nat.reduceEqDiff, Nat.reduceLeDiff])))
  exact Fin.eq rfl ⟨rfl, _, rfl, by simpa using hg, hto⟩
 | row b cap es cs hb hr =>
  have hcap := hr.fit
  simp -dsimp (disch := first | omega | (simp only [go_sem]; omega)) only [go_sem, seval, Nat.reduceEqDiff, Nat.reduceLeDiff]
  (repeat (first | with_reducible refine W.seq ?_ | with_reducible refine W.block ?_ | ((first | with_reducible refine W.reg ?_ | with_reducible refine W.skip ?_ | with_reducible refine W.exit ?_ | with_reducible refine W.ret ?_ | with_reducible refine W.ifc ?_); simp -dsimp (disch := first | omega | (simp only [go_sem]; omega)) only [go_sem, seval, Nat.reduceEqDiff, Nat.reduceLeDiff])))
  refine wG_dec (fun h1 => ?_) (fun h1 => ?_)
  · obtain rfl : i = es.length := by omega
    (repeat (first | with_reducible refine W.seq ?_ | with_reducible refine W.block ?_ | ((first | with_reducible refine W.reg ?_ | with_reducible refine W.skip ?_ | with_reducible refine W.exit ?_ | with_reducible refine W.ret ?_ | with_reducible refine W.ifc ?_); simp -dsimp (disch := first | omega | (simp only [go_sem]; omega)) only [go_sem, seval, Nat.reduceEqDiff, Nat.reduceLeDiff])))
    refine appV_GV2 (.row b cap es cs hb hr) (viewC_list hv) rfl hv (by rfl) (by show (es.length + 1) * 48 ≤ mostBytes; rw [mostBytes_eq]; omega) fun x' G' hg hto => ?_
    simp -dsimp (disch := first | omega | (simp only [go_sem]; omega)) only [go_sem, seval, Nat.reduceEqDiff, Nat.reduceLeDiff]
    (repeat (first | with_reducible refine W.seq ?_ | with_reducible refine W.block ?_ | ((first | with_reducible refine W.reg ?_ | with_reducible refine W.skip ?_ | with_reducible refine W.exit ?_ | with_reducible refine W.ret ?_ | with_reducible refine W.ifc ?_); simp -dsimp (disch := first | omega | (simp only [go_sem]; omega)) only [go_sem, seval, Nat.reduceEqDiff, Nat.reduceLeDiff])))
    exact Fin.eq rfl ⟨rfl, _, rfl, by simpa using hg, hto⟩
  · have hi' : i < es.length := by omega
    (repeat (first | with_reducible refine W.seq ?_ | with_reducible refine W.block ?_ | ((first | with_reducible refine W.reg ?_ | with_reducible refine W.skip ?_ | with_reducible refine W.exit ?_ | with_reducible refine W.ret ?_ | with_reducible refine W.ifc ?_); simp -dsimp (disch := first | omega | (simp only [go_sem]; omega)) only [go_sem, seval, Nat.reduceEqDiff, Nat.reduceLeDiff])))
    refine wG_dec (fun h2 => ?_) (fun h2 => ?_)
    · have e2 : ((es.length : Int) + 1 - i).toNat = es.length + 1 - i := by omega
      have e3 : i + (es.length + 1 - i) = es.length + 1 := by omega
      (repeat (first | with_reducible refine W.seq ?_ | with_reducible refine W.block ?_ | ((first | with_reducible refine W.reg ?_ | with_reducible refine W.skip ?_ | with_reducible refine W.exit ?_ | with_reducible refine W.ret ?_ | with_reducible refine W.ifc ?_); simp -dsimp (disch := first | omega | (simp only [go_sem]; omega)) only [go_sem, seval, Nat.reduceEqDiff, Nat.reduceLeDiff, ite_self, Nat.sub_zero])))
      have hbn : ∀ b', G b' = none → b ≠ b' := fun b' h e => by subst e; rw [hb] at h; cases h
      refine appN_mk (by omega) (by rw [e2, mostBytes_eq]; omega) ?_
      rw [e2, rep_flat]
      refine appW_row hb (hr.take (m := i) (c := cap) (by omega) (by omega) (Nat.le_refl _)) rfl (by rw [List.length_replicate]) (by simp [sizeOk, D.cells, D.one]) (by rw [e3, mostBytes_eq]; omega) (fun cs' hc => absurd hc (by omega)) fun b' cap' cs' _ hb' hr' => ?_
      rw [e3] at hr' ⊢
      have hcap' := hr'.fit
      have e4 : ((i : Int) + 1).toNat = i + 1 := by omega
      have e5 : es.length + 1 - (i + 1) = es.length - i := by omega
      have e6 : (cap = i) = False := by simp; omega
      have e7 : (cap' = i) = False := by simp; omega
      have e8 : (cap' = i + 1) = False := by simp; omega
      simp -dsimp (disch := first | omega | (simp only [go_sem]; omega)) only [go_sem, seval, Nat.reduceEqDiff, Nat.reduceLeDiff]
      (repeat (first | with_reducible refine W.seq ?_ | with_reducible refine W.block ?_ | ((first | with_reducible refine W.reg ?_ | with_reducible refine W.skip ?_ | with_reducible refine W.exit ?_ | with_reducible refine W.ret ?_ | with_reducible refine W.ifc ?_); simp -dsimp (disch := first | omega | (simp only [go_sem]; omega)) only [go_sem, seval, Nat.reduceEqDiff, Nat.reduceLeDiff, ite_self, Nat.sub_zero, Int.toNat_natCast, e4, e5, e6, e7, e8])))
      have hr2 := hr'.copyv (i := i) (m := 1) (len := es.length + 1 - i) hv rfl (by omega) (by omega)
      have hlt : (es.take i).length = i := List.length_take_of_le hi
      rw [(take_two _ _ _ i rfl hlt).1] at hr2
      refine wCp_mk (gset_same _ _ _) (viewC_list hv) (by have := hr'.ncs; omega) ?_
      revert hr2
      generalize over cs' _ _ = cs2
      generalize hX : List.drop (i + 1) _ = X
      intro hr2
      simp -dsimp (disch := first | omega | (simp only [go_sem]; omega)) only [go_sem, seval, Nat.reduceEqDiff, Nat.reduceLeDiff]
      (repeat (first | with_reducible refine W.seq ?_ | with_reducible refine W.block ?_ | ((first | with_reducible refine W.reg ?_ | with_reducible refine W.skip ?_ | with_reducible refine W.exit ?_ | with_reducible refine W.ret ?_ | with_reducible refine W.ifc ?_); simp -dsimp (disch := first | omega | (simp only [go_sem]; omega)) only [go_sem, seval, Nat.reduceEqDiff, Nat.reduceLeDiff, ite_self, Nat.sub_zero, Int.toNat_natCast, e4, e5, e6, e7, e8])))
      have hb2 : ∀ (c : Option (List D)) (G : Gh), G b = some cs → (G.set b' c).c b = some cs := fun c G h => by rw [Gh.set_c, upd_off (hbn b' hb')]; exact h
      refine wCp_mk (gset_same _ _ _) (hr.viewT (hb2 _ _ (hb2 _ _ hb)) hi) (by have := hr2.ncs; omega) ?_
      have hr3 := hr2.copyv (i := i + 1) (m := es.length - i) (len := es.length - i) (ys := es.drop i) (all_drop hr.all i) (by simp) (by omega) (by omega)
      have hl2 : (es.take i ++ [v] ++ X).length = es.length + 1 := hr2.len
      have hdn : (es.take i ++ [v] ++ X).drop (i + 1 + (es.length - i)) = [] := List.drop_of_length_le (by rw [hl2]; omega)
      rw [(take_two _ _ _ (i + 1) rfl (by simp [hlt])).1, hdn, List.append_nil] at hr3
      revert hr3
      generalize over cs2 _ _ = cs3
      intro hr3
      have hl3 : (es.take i ++ [v] ++ es.drop i).length = es.length + 1 := hr3.len
      simp -dsimp (disch := first | omega | (simp only [go_sem]; omega)) only [go_sem, seval, Nat.reduceEqDiff, Nat.reduceLeDiff]
      (repeat (first | with_reducible refine W.seq ?_ | with_reducible refine W.block ?_ | ((first | with_reducible refine W.reg ?_ | with_reducible refine W.skip ?_ | with_reducible refine W.exit ?_ | with_reducible refine W.ret ?_ | with_reducible refine W.ifc ?_); simp -dsimp (disch := first | omega | (simp only [go_sem]; omega)) only [go_sem, seval, Nat.reduceEqDiff, Nat.reduceLeDiff, ite_self, Nat.sub_zero, Int.toNat_natCast])))
      refine Fin.eq rfl ⟨rfl, _, rfl, ?_, .mk_new hb' (fun c hc => by rw [set_off hc, set_off hc, set_off hc]) rfl⟩
      rw [← hl3]
      exact .row _ _ _ _ (gset_same _ _ _) (by rw [hl3]; exact hr3)
    · have e1 : ((i : Int) + 1).toNat = i + 1 := by omega
      have e2 : ((es.length : Int) + 1).toNat = es.length + 1 := by omega
      have e5 : es.length + 1 - (i + 1) = es.length - i := by omega
      have e6 : (cap = i) = False := by simp; omega
      have e8 : (cap = i + 1) = False := by simp; omega
      (repeat (first | with_reducible refine W.seq ?_ | with_reducible refine W.block ?_ | ((first | with_reducible refine W.reg ?_ | with_reducible refine W.skip ?_ | with_reducible refine W.exit ?_ | with_reducible refine W.ret ?_ | with_reducible refine W.ifc ?_); simp -dsimp (disch := first | omega | (simp only [go_sem]; omega)) only [go_sem, seval, Nat.reduceEqDiff, Nat.reduceLeDiff, ite_self, Nat.sub_zero, e1, e2])))
      apply wC_g (overlaps_ok' [v] hv hb)
      focus (simp -dsimp (disch := first | omega | (simp only [go_sem]; omega)) only [go_sem, seval, Nat.reduceEqDiff, Nat.reduceLeDiff] <;> fail)
      focus (simp -dsimp (disch := first | omega | (simp only [go_sem]; omega)) only [go_sem, seval, Nat.reduceEqDiff, Nat.reduceLeDiff] <;> rfl)
      rintro _ G' ⟨rfl, rfl⟩
      simp -dsimp (disch := first | omega | (simp only [go_sem]; omega)) only [go_sem, seval, Nat.reduceEqDiff, Nat.reduceLeDiff]
      (repeat (first | with_reducible refine W.seq ?_ | with_reducible refine W.block ?_ | ((first | with_reducible refine W.reg ?_ | with_reducible refine W.skip ?_ | with_reducible refine W.exit ?_ | with_reducible refine W.ret ?_ | with_reducible refine W.ifc ?_); simp -dsimp (disch := first | omega | (simp only [go_sem]; omega)) only [go_sem, seval, Nat.reduceEqDiff, Nat.reduceLeDiff, ite_self, Nat.sub_zero, e1, e2, e5, e6, e8, Int.toNat_natCast])))
      have hcap2 : (es.length + 1) * 3 ≤ cs.length := by have := hr.room; omega
      have hvw : viewC G' 3 (.gs b (i * 3) (es.length + 1 - i) (cap - i)) = some (es.length + 1 - i, (cs.drop (i * 3)).take ((es.length + 1 - i) * 3)) := by
       have h0 : i * 3 + (es.length + 1 - i) * 3 ≤ cs.length := by omega
       simp only [viewC, hb, h0, if_true]
      refine wCp_mk hb hvw (by omega) ?_
      have hys : ((cs.drop (i * 3)).take ((es.length + 1 - i) * 3)).take (min (es.length - i) (es.length + 1 - i) * 3) = flat (es.drop i) := by
       rw [List.take_take, flat_drop i hr.all, ← hr.eq, List.drop_take]
       congr 1
       omega
      rw [hys]
      have hri := hr.ins (i := i) hi hv (m := 1) rfl (by omega)
      have hlo : (over cs (flat (es.drop i)) ((i + 1) * 3)).length = cs.length := over_length (by rw [flat_length (all_drop hr.all i), List.length_drop]; omega)
      revert hri hlo
      generalize over cs _ _ = cs2
      intro hri hlo
      simp -dsimp (disch := first | omega | (simp only [go_sem]; omega)) only [go_sem, seval, Nat.reduceEqDiff, Nat.reduceLeDiff]
      (repeat (first | with_reducible refine W.seq ?_ | with_reducible refine W.block ?_ | ((first | with_reducible refine W.reg ?_ | with_reducible refine W.skip ?_ | with_reducible refine W.exit ?_ | with_reducible refine W.ret ?_ | with_reducible refine W.ifc ?_); simp -dsimp (disch := first | omega | (simp only [go_sem]; omega)) only [go_sem, seval, Nat.reduceEqDiff, Nat.reduceLeDiff, ite_self, Nat.sub_zero, e1, e2, e5, e6, e8, Int.toNat_natCast])))
      refine wCp_mk (gset_same _ _ _) (viewC_list hv) (by omega) ?_
      have hfv : (flat [v]).take (min (es.length + 1 - i) [v].length * 3) = flat [v] := List.take_of_length_le (by rw [flat_length hv, Nat.min_eq_right (by show 1 ≤ _; omega)]; exact Nat.le_refl _)
      rw [hfv]
      revert hri
      generalize over cs2 _ _ = cs3
      intro hri
      have hl3 : (es.take i ++ [v] ++ es.drop i).length = es.length + 1 := hri.len
      simp -dsimp (disch := first | omega | (simp only [go_sem]; omega)) only [go_sem, seval, Nat.reduceEqDiff, Nat.reduceLeDiff]
      (repeat (first | with_reducible refine W.seq ?_ | with_reducible refine W.block ?_ | ((first | with_reducible refine W.reg ?_ | with_reducible refine W.skip ?_ | with_reducible refine W.exit ?_ | with_reducible refine W.ret ?_ | with_reducible refine W.ifc ?_); simp -dsimp (disch := first | omega | (simp only [go_sem]; omega)) only [go_sem, seval, Nat.reduceEqDiff, Nat.reduceLeDiff, ite_self, Nat.sub_zero])))
      refine Fin.eq rfl ⟨rfl, _, rfl, ?_, .mk_in (fun c hc => by rw [set_off hc, set_off hc]) rfl⟩
      rw [← hl3]
      exact .row _ _ _ _ (gset_same _ _ _) (by rw [hl3]; exact hri)
end Go.Proofs.Ytbcnnomgfheaoaa
