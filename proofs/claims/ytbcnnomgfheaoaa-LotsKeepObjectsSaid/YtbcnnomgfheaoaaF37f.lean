/-
 Layer 37 (chunk), continued: what a valid lot is, by the program.
 Conditions: of each contract as it says.
-/
import Derived.Test.YtbcnnomgfheaoaaF37c
namespace Go.Proofs.Ytbcnnomgfheaoaa
open Go Go.E2 C37
set_option linter.unusedSimpArgs false
set_option maxHeartbeats 1000000
abbrev eP (p : Str × Str) : D := .agg [.str p.1, .str p.2]
abbrev eN (n : Nat) : D := .int .i64 n
abbrev eTrue (_ : Unit) : D := .bool true
/-- The names of the first 'k' chunks, and their places. -/
structure Maps (l : Lt) (k r1 r2 : Nat) (G : Gh) : Prop where
 ne : r1 ≠ r2
 m1 : ∃ m, MapL [.s, .s] eP eTrue G r1 m ∧ ∀ p, (mget m p).isSome = true ↔ ∃ j, ∃ h : j < l.cks.length, j < k ∧ (l.cks[j].cls, l.cks[j].bytes) = p
 m2 : ∃ m, MapL [.i] eI eN G r2 m ∧ (∀ i j, mget m i = some j → j < k ∧ ∃ h : j < l.cks.length, l.cks[j].id = i) ∧ ∀ j (h : j < l.cks.length), j < k → (mget m l.cks[j].id).isSome = true
theorem getD_true (o : Option Unit) : (o.map eTrue).getD (.bool false) = .bool o.isSome := by cases o <;> rfl
theorem cell_map (us : List Int) {i : Nat} (h : i < us.length) : vCells false 1 (some (us.map eI)) i = some (.d (.int .i64 us[i])) := by
 simp [vCells, loadD, List.head?_drop, h, eI]
theorem over_map (us : List Int) {i : Nat} (h : i < us.length) (v : Int) : over (us.map eI) [.int .i64 v] i = (us.set i v).map eI := by
 unfold over
 rw [List.set_eq_take_append_cons_drop, if_pos h]
 simp [eI]
theorem pair_idx {l : List Ck} (h : l.Pairwise fun a b => a.id < b.id) {i j : Nat} (hi : i < l.length) (hj : j < l.length) (e : l[i] = l[j]) : i = j := by
 rcases Nat.lt_trichotomy i j with h1 | h1 | h1
 · have := List.pairwise_iff_getElem.1 h i j hi hj h1; rw [e] at this; omega
 · exact h1
 · have := List.pairwise_iff_getElem.1 h j i hj hi h1; rw [e] at this; omega
theorem rep_ints (n : Nat) : rep n [.int .i64 0] = List.replicate n (eI 0) := by
 induction n with
 | zero => rfl
 | succ n ih =>
  have : rep (n + 1) [.int .i64 0] = .int .i64 0 :: rep n [.int .i64 0] := by simp [rep, List.replicate_succ]
  rw [this, ih, List.replicate_succ]; rfl
open Classical in
theorem Valid_ok (l : Lt) (hl : smallL l) : CallP Try.prog f_chunk_Valid [eL l] (· = .d (.bool (decide (validL l)))) := by
 refine CallP.of_deep (callT_of_W fol chunk_Valid_cp ?_)
 have hl1 := hl.1
 have hl2 := hl.2.1
 have hfar : far = 1099511627776 := rfl
 simp -dsimp (disch := first | omega | (simp only [go_sem]; omega)) only [go_sem, seval, Nat.reduceEqDiff, Nat.reduceLeDiff]
 (repeat' (first | with_reducible refine W.seq ?_ | with_reducible refine W.block ?_ | ((first | with_reducible refine W.reg ?_ | with_reducible refine W.skip ?_ | with_reducible refine W.exit ?_ | with_reducible refine W.ret ?_ | with_reducible refine W.ifc ?_ | ((first | with_reducible refine wG_decE (fun _ hG => ?_) (fun _ hG => ?_) | with_reducible refine wG_decFE (fun _ hG => ?_) (fun _ hG => ?_)) <;> (try simp -dsimp only [hG, decide_true, decide_false, not_true_eq_false, not_false_eq_true]) <;> clear hG)) <;> (try simp -dsimp (disch := first | omega | (simp only [go_sem]; omega)) only [go_sem, seval, Nat.reduceEqDiff, Nat.reduceLeDiff])) | simp -dsimp (disch := first | omega | (simp only [go_sem]; omega)) only [go_sem, seval, Nat.reduceEqDiff, Nat.reduceLeDiff]))
 all_goals try (refine Fin.eq rfl ⟨rfl, _, .refl _, bF fun h => ?_⟩; have := h.1; omega)
 refine wNewM_mk fun r1 hr1 => ?_
 simp -dsimp (disch := first | omega | (simp only [go_sem]; omega)) only [go_sem, seval, Nat.reduceEqDiff, Nat.reduceLeDiff]
 (repeat (first | with_reducible refine W.seq ?_ | with_reducible refine W.block ?_ | ((first | with_reducible refine W.reg ?_ | with_reducible refine W.skip ?_ | with_reducible refine W.exit ?_ | with_reducible refine W.ret ?_ | with_reducible refine W.ifc ?_); simp -dsimp (disch := first | omega | (simp only [go_sem]; omega)) only [go_sem, seval, Nat.reduceEqDiff, Nat.reduceLeDiff])))
 refine wNewM_mk fun r2 hr2 => ?_
 simp -dsimp (disch := first | omega | (simp only [go_sem]; omega)) only [go_sem, seval, Nat.reduceEqDiff, Nat.reduceLeDiff]
 (repeat (first | with_reducible refine W.seq ?_ | with_reducible refine W.block ?_ | ((first | with_reducible refine W.reg ?_ | with_reducible refine W.skip ?_ | with_reducible refine W.exit ?_ | with_reducible refine W.ret ?_ | with_reducible refine W.ifc ?_); simp -dsimp (disch := first | omega | (simp only [go_sem]; omega)) only [go_sem, seval, Nat.reduceEqDiff, Nat.reduceLeDiff])))
 have hne : r1 ≠ r2 := by rintro rfl; simp at hr2
 refine W.loop (fun m st => ∃ k b6 b7 G, k ≤ l.cks.length ∧ m = l.cks.length - k ∧ (∀ j, j < k → okA l j) ∧ Maps l k r1 r2 G ∧
  st = (E [(1, .ptr 0 1 1 0), (3, .d (.mref r1)), (4, .d (.mref r2)), (41, .d (.list (l.cks.map eC))), (42, .d (.int .i64 l.cks.length)), (43, .d (.int .i64 k))], HB [(1, ⟨1, some [.int .i64 l.next, .list (l.cks.map eC), .list (l.obs.map eB)]⟩), (6, b6), (7, b7)], [], G))
  ⟨_, _, st_leB (by (simp -dsimp (disch := first | omega | (simp only [go_sem]; omega)) only [go_sem, seval, Nat.reduceEqDiff, Nat.reduceLeDiff] <;> ((repeat' apply And.intro) <;> first | exact VLe.refl _ | (apply vle_int; omega) | (apply vle_int; simp; done) | exact VLe.own _ _ | exact VLe.nilown _ | exact VLe.norm _))) (HB_pad [(1, _)] [6, 7] rfl).symm, 0, _, _, _, by omega, rfl, fun _ h => by omega, ⟨hne, ⟨[], (MapL.new keyE_str2).setM hne, fun p => by simp [mget]⟩, [], MapL.new (keyE_int _), fun _ _ h => (by cases h), fun _ _ h => by omega⟩, rfl⟩ ?_
 rintro m st ⟨k, b6, b7, G, hk, rfl, hlo, hM, rfl⟩
 (repeat (first | with_reducible refine W.seq ?_ | with_reducible refine W.block ?_ | ((first | with_reducible refine W.reg ?_ | with_reducible refine W.skip ?_ | with_reducible refine W.exit ?_ | with_reducible refine W.ret ?_ | with_reducible refine W.ifc ?_); simp -dsimp (disch := first | omega | (simp only [go_sem]; omega)) only [go_sem, seval, Nat.reduceEqDiff, Nat.reduceLeDiff])))
 refine wG_dec (fun h1 => ?_) (fun h1 => ?_)
 · have hk' : k < l.cks.length := by omega
   have hA := okA_get hk'
   have e3 : ((k : Int) - 1).toNat = k - 1 := by omega
   have fail : ¬ okA l k → ¬ validL l := fun h v => h (v.2.1 k)
   obtain ⟨-, ⟨m1, hm1, hk1⟩, m2, hm2, hk2, hk3⟩ := hM
   have hlook := hm1.look (.bool false) (l.cks[k].cls, l.cks[k].bytes)
   have hP : (mget m1 (l.cks[k].cls, l.cks[k].bytes)).isSome = decide (∃ j, ∃ h : j < l.cks.length, j < k ∧ (l.cks[j].cls, l.cks[j].bytes) = (l.cks[k].cls, l.cks[k].bytes)) := by
    rw [Bool.eq_iff_iff, hk1, decide_eq_true_iff]
   rw [getD_true, hP] at hlook
   (repeat' (first | with_reducible refine W.seq ?_ | with_reducible refine W.block ?_ | ((first | with_reducible refine W.reg ?_ | with_reducible refine W.skip ?_ | with_reducible refine W.exit ?_ | with_reducible refine W.ret ?_ | with_reducible refine W.ifc ?_ | ((first | with_reducible refine wG_decE (fun _ hG => ?_) (fun _ hG => ?_) | with_reducible refine wG_decFE (fun _ hG => ?_) (fun _ hG => ?_)) <;> (try simp -dsimp only [hG, decide_true, decide_false, not_true_eq_false, not_false_eq_true]) <;> clear hG)) <;> (try simp -dsimp (disch := first | omega | (simp only [go_sem]; omega)) only [go_sem, seval, Nat.reduceEqDiff, Nat.reduceLeDiff, hlook])) | simp -dsimp (disch := first | omega | (simp only [go_sem]; omega)) only [go_sem, seval, Nat.reduceEqDiff, Nat.reduceLeDiff, hlook]))
   all_goals try (refine Fin.eq rfl ⟨rfl, _, .refl _, bF (fail fun h => ?_)⟩; have := hA.1 h; omega)
   all_goals try (refine Fin.eq rfl ⟨rfl, _, .refl _, bF (fail fun h => ?_)⟩; have h3 := (hA.1 h).2.2.1 (by omega); simp only [e3] at *; omega)
   all_goals try (refine Fin.eq rfl ⟨rfl, _, .refl _, bF (fail fun h => ?_)⟩; obtain ⟨j, h5, h6, h7⟩ := ‹∃ j, ∃ h : j < l.cks.length, j < k ∧ (l.cks[j].cls, l.cks[j].bytes) = (l.cks[k].cls, l.cks[k].bytes)›; simp only [Prod.mk.injEq] at h7; exact (hA.1 h).2.2.2.2.2.2.1 j h6 h7)
   all_goals
    rename_i hnn hus
    have hprev : ∀ h : 0 < k, l.cks[k - 1].id < l.cks[k].id := fun h0 => by
     clear fail hA hlook hP
     simp only [e3] at *; omega
    have hok : okA l k := hA.2 ⟨by omega, by omega, hprev, by omega, by omega, by omega, fun i hi h => hnn ⟨i, by omega, hi, by simp only [Prod.mk.injEq]; exact h⟩, by omega⟩
    refine wGd_put (emb := eP) (vf := eTrue) hm1 (l.cks[k].cls, l.cks[k].bytes) () fun M1 hM1 => ?_
    simp -dsimp (disch := first | omega | (simp only [go_sem]; omega)) only [go_sem, seval, Nat.reduceEqDiff, Nat.reduceLeDiff]
    (repeat (first | with_reducible refine W.seq ?_ | with_reducible refine W.block ?_ | ((first | with_reducible refine W.reg ?_ | with_reducible refine W.skip ?_ | with_reducible refine W.exit ?_ | with_reducible refine W.ret ?_ | with_reducible refine W.ifc ?_); simp -dsimp (disch := first | omega | (simp only [go_sem]; omega)) only [go_sem, seval, Nat.reduceEqDiff, Nat.reduceLeDiff])))
    refine wGd_put (emb := eI) (vf := eN) (hm2.setM (fun e => hne e.symm)) l.cks[k].id k fun M2 hM2 => ?_
    simp -dsimp (disch := first | omega | (simp only [go_sem]; omega)) only [go_sem, seval, Nat.reduceEqDiff, Nat.reduceLeDiff]
    (repeat (first | with_reducible refine W.seq ?_ | with_reducible refine W.block ?_ | ((first | with_reducible refine W.reg ?_ | with_reducible refine W.skip ?_ | with_reducible refine W.exit ?_ | with_reducible refine W.ret ?_ | with_reducible refine W.ifc ?_); simp -dsimp (disch := first | omega | (simp only [go_sem]; omega)) only [go_sem, seval, Nat.reduceEqDiff, Nat.reduceLeDiff])))
    have hinj : ∀ j (h : j < l.cks.length), j < k → l.cks[j].id ≠ l.cks[k].id := fun j h hj => by
     have hp := adj_pair (f := Ck.id) (l := l.cks.take (k + 1)) fun i x y hi hx hy => by
      rw [List.getElem?_take] at hx hy
      split at hx
      · split at hy
        · rename_i a b
          have : okA l i := by
           by_cases e : i = k
           · rw [e]; exact hok
           · exact hlo i (by omega)
          exact (this x hx).2.2.1 y hi hy
        · cases hy
      · cases hx
     have := List.pairwise_iff_getElem.1 hp j k (by simp; omega) (by simp; omega) hj
     simp only [List.getElem_take] at this
     omega
    refine ⟨_, _, ?_, st_leB (by (simp -dsimp (disch := first | omega | (simp only [go_sem]; omega)) only [go_sem, seval, Nat.reduceEqDiff, Nat.reduceLeDiff] <;> ((repeat' apply And.intro) <;> first | exact VLe.refl _ | (apply vle_int; omega) | (apply vle_int; simp; done) | exact VLe.own _ _ | exact VLe.nilown _ | exact VLe.norm _))) rfl, k + 1, _, _, _, by omega, rfl, fun j hj => ?_, ⟨hne, ⟨_, hM1.setM hne, fun p => ?_⟩, _, hM2, fun i j hi => ?_, fun j hj hlt => ?_⟩, rfl⟩
    · omega
    · by_cases e : j = k
      · rw [e]; exact hok
      · exact hlo j (by omega)
    · rw [mget_put]
      by_cases e : p = (l.cks[k].cls, l.cks[k].bytes)
      · rw [if_pos e]
        exact ⟨fun _ => ⟨k, hk', by omega, e.symm⟩, fun _ => rfl⟩
      · rw [if_neg e, hk1]
        constructor
        · rintro ⟨j, h5, h6, h7⟩; exact ⟨j, h5, by omega, h7⟩
        · rintro ⟨j, h5, h6, h7⟩
          refine ⟨j, h5, ?_, h7⟩
          have : j ≠ k := by rintro rfl; exact e h7.symm
          omega
    · rw [mget_put] at hi
      split at hi
      · rename_i e
        cases hi
        exact ⟨by omega, hk', e.symm⟩
      · obtain ⟨h5, h6⟩ := hk2 i j hi
        exact ⟨by omega, h6⟩
    · rw [mget_put]
      by_cases e : j = k
      · subst e; rw [if_pos rfl]; rfl
      · rw [if_neg (hinj j hj (by omega))]
        exact hk3 j hj (by omega)
 · obtain rfl : k = l.cks.length := by omega
   have hA : ∀ k, okA l k := fun k => by
    rcases Nat.lt_or_ge k l.cks.length with h | h
    · exact hlo k h
    · exact okA_out h
   have hpw := pairA hA
   obtain ⟨-, -, m2, hm2, hk2, hk3⟩ := hM
   clear hlo
   (repeat (first | with_reducible refine W.seq ?_ | with_reducible refine W.block ?_ | ((first | with_reducible refine W.reg ?_ | with_reducible refine W.skip ?_ | with_reducible refine W.exit ?_ | with_reducible refine W.ret ?_ | with_reducible refine W.ifc ?_); simp -dsimp (disch := first | omega | (simp only [go_sem]; omega)) only [go_sem, seval, Nat.reduceEqDiff, Nat.reduceLeDiff])))
   refine wP_mk (by omega) ?_
   refine wNew_mk fun bu hbu => ?_
   simp -dsimp (disch := first | omega | (simp only [go_sem]; omega)) only [go_sem, seval, Nat.reduceEqDiff, Nat.reduceLeDiff]
   (repeat (first | with_reducible refine W.seq ?_ | with_reducible refine W.block ?_ | ((first | with_reducible refine W.reg ?_ | with_reducible refine W.skip ?_ | with_reducible refine W.exit ?_ | with_reducible refine W.ret ?_ | with_reducible refine W.ifc ?_); simp -dsimp (disch := first | omega | (simp only [go_sem]; omega)) only [go_sem, seval, Nat.reduceEqDiff, Nat.reduceLeDiff])))
   refine W.loop (fun m st => ∃ k b10 G, ∃ us : List Int, k ≤ l.obs.length ∧ m = l.obs.length - k ∧ (∀ j, j < k → okO l j) ∧ MapL [.i] eI eN G r2 m2 ∧ G.c bu = some (us.map eI) ∧ us.length = l.cks.length ∧ (∀ i (h : i < us.length) (h2 : i < l.cks.length), us[i] = usesOf (l.obs.take k) l.cks[i].id) ∧
    st = (E [(1, .ptr 0 1 1 0), (4, .d (.mref r2)), (8, .d (.gs bu 0 l.cks.length l.cks.length)), (119, .d (.list (l.obs.map eB))), (120, .d (.int .i64 l.obs.length)), (121, .d (.int .i64 k))], HB [(1, ⟨1, some [.int .i64 l.next, .list (l.cks.map eC), .list (l.obs.map eB)]⟩), (6, b6), (7, b7), (10, b10)], [], G))
    ⟨_, _, st_leB (by (simp -dsimp (disch := first | omega | (simp only [go_sem]; omega)) only [go_sem, seval, Nat.reduceEqDiff, Nat.reduceLeDiff] <;> ((repeat' apply And.intro) <;> first | exact VLe.refl _ | (apply vle_int; omega) | (apply vle_int; simp; done) | exact VLe.own _ _ | exact VLe.nilown _ | exact VLe.norm _))) (HB_pad [(1, _), (6, _), (7, _)] [10] rfl).symm, 0, _, _, List.replicate l.cks.length (0 : Int), by omega, rfl, fun _ h => by omega, hm2.set, by simp [rep_ints], by simp, fun i h h2 => by simp [usesOf], rfl⟩ ?_
   rintro m st ⟨k, b10, G1, us, hk, rfl, hlo, hm3, hus, hul, huv, rfl⟩
   (repeat (first | with_reducible refine W.seq ?_ | with_reducible refine W.block ?_ | ((first | with_reducible refine W.reg ?_ | with_reducible refine W.skip ?_ | with_reducible refine W.exit ?_ | with_reducible refine W.ret ?_ | with_reducible refine W.ifc ?_); simp -dsimp (disch := first | omega | (simp only [go_sem]; omega)) only [go_sem, seval, Nat.reduceEqDiff, Nat.reduceLeDiff])))
   refine wG_dec (fun h1 => ?_) (fun h1 => ?_)
   · have hk' : k < l.obs.length := by omega
     have hO := okO_get hk'
     have hcl := hl.2.2 _ (List.getElem_mem hk')
     have e3 : ((k : Int) - 1).toNat = k - 1 := by omega
     have fail : ¬ okO l k → ¬ validL l := fun h v => h (v.2.2.2 k)
     (repeat' (first | with_reducible refine W.seq ?_ | with_reducible refine W.block ?_ | ((first | with_reducible refine W.reg ?_ | with_reducible refine W.skip ?_ | with_reducible refine W.exit ?_ | with_reducible refine W.ret ?_ | with_reducible refine W.ifc ?_ | ((first | with_reducible refine wG_decE (fun _ hG => ?_) (fun _ hG => ?_) | with_reducible refine wG_decFE (fun _ hG => ?_) (fun _ hG => ?_)) <;> (try simp -dsimp only [hG, decide_true, decide_false, not_true_eq_false, not_false_eq_true]) <;> clear hG)) <;> (try simp -dsimp (disch := first | omega | (simp only [go_sem]; omega)) only [go_sem, seval, Nat.reduceEqDiff, Nat.reduceLeDiff])) | simp -dsimp (disch := first | omega | (simp only [go_sem]; omega)) only [go_sem, seval, Nat.reduceEqDiff, Nat.reduceLeDiff]))
     all_goals try (exact Fin.eq rfl ⟨rfl, _, .refl _, bF (fail fun h => by have := hO.1 h; omega)⟩)
     all_goals try (refine Fin.eq rfl ⟨rfl, _, .refl _, bF (fail fun h => ?_)⟩; have h3 := (hO.1 h).2.2.1 (by omega); simp only [e3] at *; omega)
     all_goals
      have hid : 1 ≤ l.obs[k].id ∧ l.obs[k].id ≤ far ∧ (∀ h : 0 < k, l.obs[k - 1].id < l.obs[k].id) ∧ l.obs[k].cls.length ≤ 65536 := by
       refine ⟨by omega, by omega, fun h0 => ?_, by omega⟩
       clear fail hO hlo huv hk3
       simp only [e3] at *; omega
      refine W.loop (fun m st => ∃ i n G, ∃ us : List Int, i ≤ l.obs[k].chunks.length ∧ m = l.obs[k].chunks.length - i ∧ (∀ j (hj : j < l.obs[k].chunks.length), j < i → ∃ c ∈ l.cks, c.id = l.obs[k].chunks[j] ∧ c.cls = l.obs[k].cls) ∧
       MapL [.i] eI eN G r2 m2 ∧ G.c bu = some (us.map eI) ∧ us.length = l.cks.length ∧ (∀ a (h : a < us.length) (h2 : a < l.cks.length), us[a] = usesOf (l.obs.take k) l.cks[a].id + (l.obs[k].chunks.take i).count l.cks[a].id) ∧
       n = (textOf l.cks (l.obs[k].chunks.take i)).length ∧ n ≤ 65536 ∧
       st = (E [(1, .ptr 0 1 1 0), (4, .d (.mref r2)), (8, .d (.gs bu 0 l.cks.length l.cks.length)), (10, .ptr 0 10 (b10.g + 1) 0), (11, .d (.int .i64 (n : Nat))), (119, .d (.list (l.obs.map eB))), (120, .d (.int .i64 l.obs.length)), (121, .d (.int .i64 k)),
           (157, .d (.list (l.obs[k].chunks.map eI))), (158, .d (.int .i64 l.obs[k].chunks.length)), (159, .d (.int .i64 i))],
        HB [(1, ⟨1, some [.int .i64 l.next, .list (l.cks.map eC), .list (l.obs.map eB)]⟩), (6, b6), (7, b7), (10, ⟨b10.g + 1, some [.int .i64 l.obs[k].id, .str l.obs[k].cls, .list (l.obs[k].chunks.map eI)]⟩)], [], G))
       ⟨_, _, st_le (l' := [(1, _), (4, _), (8, _), (10, _), (11, .d (.int .i64 (0 : Nat))), (119, _), (120, _), (121, _), (157, _), (158, _), (159, _)]) (by (simp -dsimp (disch := first | omega | (simp only [go_sem]; omega)) only [go_sem, seval, Nat.reduceEqDiff, Nat.reduceLeDiff] <;> ((repeat' apply And.intro) <;> first | exact VLe.refl _ | (apply vle_int; omega) | (apply vle_int; simp; done) | exact VLe.own _ _ | exact VLe.nilown _ | exact VLe.norm _))), 0, 0, _, us, by omega, rfl, fun _ _ h => by omega, hm3, hus, hul, fun a h h2 => by rw [huv a h h2, List.take_zero, List.count_nil]; rfl, rfl, by omega, rfl⟩ ?_
      rintro m st ⟨i, n, G2, us2, hi, rfl, hd, hm4, hus2, hul2, huv2, hn, hsz, rfl⟩
      (repeat (first | with_reducible refine W.seq ?_ | with_reducible refine W.block ?_ | ((first | with_reducible refine W.reg ?_ | with_reducible refine W.skip ?_ | with_reducible refine W.exit ?_ | with_reducible refine W.ret ?_ | with_reducible refine W.ifc ?_); simp -dsimp (disch := first | omega | (simp only [go_sem]; omega)) only [go_sem, seval, Nat.reduceEqDiff, Nat.reduceLeDiff])))
      refine wG_dec (fun h2 => ?_) (fun h2 => ?_)
      · have hi' : i < l.obs[k].chunks.length := by omega
        have hts := textOf_succ (cks := l.cks) hi'
        have hle := textOf_take_le l.cks l.obs[k].chunks (i + 1)
        have hlook := hm4.look2 (.int .i64 0) l.obs[k].chunks[i]
        cases hg : mget m2 l.obs[k].chunks[i] with
        | none =>
         simp only [hg, eI, Option.map_some, Option.map_none, Option.getD_some, Option.getD_none, Option.isSome_some, Option.isSome_none] at hlook
         (repeat (first | with_reducible refine W.seq ?_ | with_reducible refine W.block ?_ | ((first | with_reducible refine W.reg ?_ | with_reducible refine W.skip ?_ | with_reducible refine W.exit ?_ | with_reducible refine W.ret ?_ | with_reducible refine W.ifc ?_); simp -dsimp (disch := first | omega | (simp only [go_sem]; omega)) only [go_sem, seval, Nat.reduceEqDiff, Nat.reduceLeDiff, hlook])))
         refine Fin.eq rfl ⟨rfl, _, .refl _, bF (fail fun h => ?_)⟩
         obtain ⟨c, hc, h3, h4⟩ := (hO.1 h).2.2.2.2.1 _ (List.getElem_mem hi')
         obtain ⟨p, hp, rfl⟩ := List.getElem_of_mem hc
         have := hk3 p hp hp
         rw [h3, hg] at this; cases this
        | some c =>
         simp only [hg, eI, Option.map_some, Option.map_none, Option.getD_some, Option.getD_none, Option.isSome_some, Option.isSome_none] at hlook
         obtain ⟨hcl2, hcc, hcid⟩ := hk2 _ _ hg
         have hby : bytesOf l.cks l.obs[k].chunks[i] = l.cks[c].bytes := by unfold bytesOf; rw [← hcid, find_of hpw (List.getElem_mem hcc)]; rfl
         rw [hby] at hts
         have htl := congrArg List.length hts
         rw [List.length_append] at htl
         have hcb : l.cks[c].bytes.length ≤ 4096 := ((okA_get hcc).1 (hA c)).2.2.2.2.1
         have hcu : c < us2.length := by omega
         have hbd := huv2 c hcu hcc
         have hu1 := usesOf_le hl l.cks[c].id k
         have hcl3 : (l.obs[k].chunks.take i).count l.cks[c].id ≤ i := Nat.le_trans List.count_le_length (List.length_take_le _ _)
         have hcell := cell_map us2 hcu
         have hov := over_map us2 hcu (us2[c] + 1)
         have hfit : (c + 1 ≤ us2.length) = True := eq_true (by omega)
         (repeat' (first | with_reducible refine W.seq ?_ | with_reducible refine W.block ?_ | ((first | with_reducible refine W.reg ?_ | with_reducible refine W.skip ?_ | with_reducible refine W.exit ?_ | with_reducible refine W.ret ?_ | with_reducible refine W.ifc ?_ | ((first | with_reducible refine wG_decE (fun _ hG => ?_) (fun _ hG => ?_) | with_reducible refine wG_decFE (fun _ hG => ?_) (fun _ hG => ?_)) <;> (try simp -dsimp only [hG, decide_true, decide_false, not_true_eq_false, not_false_eq_true]) <;> clear hG)) <;> (try simp -dsimp (disch := first | omega | (simp only [go_sem]; omega)) only [go_sem, seval, Nat.reduceEqDiff, Nat.reduceLeDiff, hlook, hfit, hus2, hcell, hov, Nat.mul_one])) | simp -dsimp (disch := first | omega | (simp only [go_sem]; omega)) only [go_sem, seval, Nat.reduceEqDiff, Nat.reduceLeDiff, hlook, hfit, hus2, hcell, hov, Nat.mul_one]))
         · refine Fin.eq rfl ⟨rfl, _, .refl _, bF (fail fun h => ?_)⟩
           obtain ⟨d, hd, h3, h4⟩ := (hO.1 h).2.2.2.2.1 _ (List.getElem_mem hi')
           have := pair_inj (f := Ck.id) hpw hd (List.getElem_mem hcc) (by rw [h3, hcid])
           subst this
           contradiction
         · refine Fin.eq rfl ⟨rfl, _, .refl _, bF (fail fun h => ?_)⟩
           have := (hO.1 h).2.2.2.2.2
           omega
         · rename_i hcl hsz2
           refine ⟨_, _, ?_, st_le (by (simp -dsimp (disch := first | omega | (simp only [go_sem]; omega)) only [go_sem, seval, Nat.reduceEqDiff, Nat.reduceLeDiff] <;> ((repeat' apply And.intro) <;> first | exact VLe.refl _ | (apply vle_int; omega) | (apply vle_int; simp; done) | exact VLe.own _ _ | exact VLe.nilown _ | exact VLe.norm _))), i + 1, _, _, us2.set c (us2[c] + 1), ?_, rfl, fun j hj hlt => ?_, hm4.set, by rw [Gh.set_c, upd_at, ← over_map _ hcu]; rfl, by rw [List.length_set]; exact hul2, fun a h h2 => ?_, rfl, by omega, rfl⟩
           · omega
           · omega
           · by_cases ej : j = i
             · subst ej; exact ⟨_, List.getElem_mem hcc, hcid, by simpa using hcl⟩
             · exact hd j hj (by omega)
           · have hcs := count_succ hi' l.cks[a].id
             rw [List.getElem_set]
             by_cases ea : c = a
             · subst ea
               rw [if_pos rfl, hbd, hcs, if_pos hcid.symm]; omega
             · have hne2 : l.obs[k].chunks[i] ≠ l.cks[a].id := fun e => ea (by
                have h5 := pair_inj (f := Ck.id) hpw (List.getElem_mem hcc) (List.getElem_mem h2) (by rw [hcid, e])
                exact pair_idx hpw hcc h2 h5)
               rw [if_neg ea, huv2 a _ h2, hcs, if_neg hne2]; omega
      · obtain rfl : i = l.obs[k].chunks.length := by omega
        rw [List.take_length] at hn
        rw [hn] at hsz
        have hus3 := usesOf_succ hk'
        (repeat (first | with_reducible refine W.seq ?_ | with_reducible refine W.block ?_ | ((first | with_reducible refine W.reg ?_ | with_reducible refine W.skip ?_ | with_reducible refine W.exit ?_ | with_reducible refine W.ret ?_ | with_reducible refine W.ifc ?_); simp -dsimp (disch := first | omega | (simp only [go_sem]; omega)) only [go_sem, seval, Nat.reduceEqDiff, Nat.reduceLeDiff])))
        refine ⟨_, _, ?_, st_leB (by (simp -dsimp (disch := first | omega | (simp only [go_sem]; omega)) only [go_sem, seval, Nat.reduceEqDiff, Nat.reduceLeDiff] <;> ((repeat' apply And.intro) <;> first | exact VLe.refl _ | (apply vle_int; omega) | (apply vle_int; simp; done) | exact VLe.own _ _ | exact VLe.nilown _ | exact VLe.norm _))) rfl, k + 1, _, _, _, ?_, rfl, fun j hlt => ?_, hm4, hus2, hul2, fun a h h2 => ?_, rfl⟩
        · omega
        · omega
        · by_cases e : j = k
          · subst e
            refine hO.2 ⟨hid.1, hid.2.1, hid.2.2.1, hid.2.2.2, fun a ha => ?_, hsz⟩
            obtain ⟨p, hp, rfl⟩ := List.getElem_of_mem ha
            exact hd p hp hp
          · exact hlo j (by omega)
        · rw [huv2 a h h2, hus3, List.take_length]; omega
   · obtain rfl : k = l.obs.length := by omega
     have hO : ∀ k, okO l k := fun k => by
      rcases Nat.lt_or_ge k l.obs.length with h | h
      · exact hlo k h
      · exact okO_out h
     simp only [List.take_length] at huv
     (repeat (first | with_reducible refine W.seq ?_ | with_reducible refine W.block ?_ | ((first | with_reducible refine W.reg ?_ | with_reducible refine W.skip ?_ | with_reducible refine W.exit ?_ | with_reducible refine W.ret ?_ | with_reducible refine W.ifc ?_); simp -dsimp (disch := first | omega | (simp only [go_sem]; omega)) only [go_sem, seval, Nat.reduceEqDiff, Nat.reduceLeDiff])))
     refine W.loop (fun m st => ∃ k b17, k ≤ l.cks.length ∧ m = l.cks.length - k ∧ (∀ j, j < k → okU l j) ∧
      st = (E [(8, .d (.gs bu 0 l.cks.length l.cks.length)), (202, .d (.list (l.cks.map eC))), (203, .d (.int .i64 l.cks.length)), (204, .d (.int .i64 k))], HB [(1, ⟨1, some [.int .i64 l.next, .list (l.cks.map eC), .list (l.obs.map eB)]⟩), (6, b6), (7, b7), (10, b10), (17, b17)], [], G1))
      ⟨_, _, st_leB (by (simp -dsimp (disch := first | omega | (simp only [go_sem]; omega)) only [go_sem, seval, Nat.reduceEqDiff, Nat.reduceLeDiff] <;> ((repeat' apply And.intro) <;> first | exact VLe.refl _ | (apply vle_int; omega) | (apply vle_int; simp; done) | exact VLe.own _ _ | exact VLe.nilown _ | exact VLe.norm _))) (HB_pad [(1, _), (6, _), (7, _), (10, _)] [17] rfl).symm, 0, _, by omega, rfl, fun _ h => by omega, rfl⟩ ?_
     rintro m st ⟨k, b17, hk, rfl, hlo, rfl⟩
     (repeat (first | with_reducible refine W.seq ?_ | with_reducible refine W.block ?_ | ((first | with_reducible refine W.reg ?_ | with_reducible refine W.skip ?_ | with_reducible refine W.exit ?_ | with_reducible refine W.ret ?_ | with_reducible refine W.ifc ?_); simp -dsimp (disch := first | omega | (simp only [go_sem]; omega)) only [go_sem, seval, Nat.reduceEqDiff, Nat.reduceLeDiff])))
     refine wG_dec (fun h1 => ?_) (fun h1 => ?_)
     · have hk' : k < l.cks.length := by omega
       have hku : k < us.length := by omega
       have hU := okU_get hk'
       have hv := huv k hku hk'
       have hcell := cell_map us hku
       (repeat' (first | with_reducible refine W.seq ?_ | with_reducible refine W.block ?_ | ((first | with_reducible refine W.reg ?_ | with_reducible refine W.skip ?_ | with_reducible refine W.exit ?_ | with_reducible refine W.ret ?_ | with_reducible refine W.ifc ?_ | ((first | with_reducible refine wG_decE (fun _ hG => ?_) (fun _ hG => ?_) | with_reducible refine wG_decFE (fun _ hG => ?_) (fun _ hG => ?_)) <;> (try simp -dsimp only [hG, decide_true, decide_false, not_true_eq_false, not_false_eq_true]) <;> clear hG)) <;> (try simp -dsimp (disch := first | omega | (simp only [go_sem]; omega)) only [go_sem, seval, Nat.reduceEqDiff, Nat.reduceLeDiff, hus, hcell, Nat.mul_one])) | simp -dsimp (disch := first | omega | (simp only [go_sem]; omega)) only [go_sem, seval, Nat.reduceEqDiff, Nat.reduceLeDiff, hus, hcell, Nat.mul_one]))
       · refine Fin.eq rfl ⟨rfl, _, .refl _, bF fun h => ?_⟩
         have := hU.1 (h.2.2.1 k)
         omega
       · refine ⟨_, _, ?_, st_leB (by (simp -dsimp (disch := first | omega | (simp only [go_sem]; omega)) only [go_sem, seval, Nat.reduceEqDiff, Nat.reduceLeDiff] <;> ((repeat' apply And.intro) <;> first | exact VLe.refl _ | (apply vle_int; omega) | (apply vle_int; simp; done) | exact VLe.own _ _ | exact VLe.nilown _ | exact VLe.norm _))) rfl, k + 1, _, ?_, rfl, fun j hlt => ?_, rfl⟩
         · omega
         · omega
         · by_cases e : j = k
           · subst e; exact hU.2 (by omega)
           · exact hlo j (by omega)
     · obtain rfl : k = l.cks.length := by omega
       (repeat (first | with_reducible refine W.seq ?_ | with_reducible refine W.block ?_ | ((first | with_reducible refine W.reg ?_ | with_reducible refine W.skip ?_ | with_reducible refine W.exit ?_ | with_reducible refine W.ret ?_ | with_reducible refine W.ifc ?_); simp -dsimp (disch := first | omega | (simp only [go_sem]; omega)) only [go_sem, seval, Nat.reduceEqDiff, Nat.reduceLeDiff])))
       refine Fin.eq rfl ⟨rfl, _, .refl _, bT ⟨by omega, hA, fun k => ?_, hO⟩⟩
       rcases Nat.lt_or_ge k l.cks.length with h | h
       · exact hlo k h
       · exact okU_out h
end Go.Proofs.Ytbcnnomgfheaoaa
