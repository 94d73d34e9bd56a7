/-
 Layer 37 (chunk), continued: the law LotsForgetByClass.
 Conditions: of each contract as it says.
-/
import Derived.Test.YtbcnnomgfheaoaaF37v
import Derived.Test.YtbcnnomgfheaoaaS37e
namespace Go.Proofs.Ytbcnnomgfheaoaa
open Go Go.E2 C37
set_option linter.unusedSimpArgs false
set_option maxHeartbeats 4000000
theorem ex_take {α : Type} {P : α → Prop} {l : List α} {k : Nat} (hk : k < l.length) : (∃ y ∈ l.take (k + 1), P y) ↔ (∃ y ∈ l.take k, P y) ∨ P l[k] := by
 rw [List.take_succ_eq_append_getElem hk]
 constructor
 · rintro ⟨y, hy, h⟩
   rcases List.mem_append.1 hy with hy | hy
   · exact .inl ⟨y, hy, h⟩
   · obtain rfl := List.mem_singleton.1 hy; exact .inr h
 · rintro (⟨y, hy, h⟩ | h)
   · exact ⟨y, List.mem_append_left _ hy, h⟩
   · exact ⟨_, List.mem_append_right _ (List.mem_singleton.2 rfl), h⟩
open Classical in
theorem law5_ok (l : Lt) (p : Int) (hp : 0 ≤ p ∧ p ≤ 255) (cls : Str) : CallP Try.prog f_quietuslaw37_LotsForgetByClass [eL l, .int .u8 p, .str cls] (· = .d (.bool true)) := by
 refine callP_of_W fol quietuslaw37_LotsForgetByClass_cp ?_
 have easy : ¬ (fewL l 40 ∧ l.obs ≠ [] ∧ cls.length ≤ 100 ∧ validL l) ∨ (fewL l 40 ∧ l.obs ≠ [] ∧ cls.length ≤ 100 ∧ validL l) := (Classical.em _).symm
 rcases easy with h | ⟨hf, hne, hcl, hv⟩
 · have hlen : l.obs.length = 0 ↔ l.obs = [] := List.length_eq_zero_iff
   by_cases hf : fewL l 40
   · have hs := few_small hf
     have hV : validL l → (fewL l 40 ∧ l.obs ≠ [] ∧ cls.length ≤ 100) → False := fun a b => h ⟨b.1, b.2.1, b.2.2, a⟩
     by_cases hv : validL l
     · simp -dsimp (disch := first | omega | (simp only [go_sem]; omega)) only [go_sem, seval, Nat.reduceEqDiff, Nat.reduceLeDiff, hf]
       (repeat' (first | with_reducible refine W.seq ?_ | with_reducible refine W.block ?_ | ((first | with_reducible refine W.reg ?_ | with_reducible refine W.skip ?_ | with_reducible refine W.exit ?_ | with_reducible refine W.ret ?_ | with_reducible refine W.ifc ?_ | (apply wC_P (few_ok l); (focus (simp -dsimp (disch := first | omega | (simp only [go_sem]; omega)) only [go_sem, seval, Nat.reduceEqDiff, Nat.reduceLeDiff, hf] <;> rfl)); rintro _ rfl; try simp -dsimp (disch := first | omega | (simp only [go_sem]; omega)) only [go_sem, seval, Nat.reduceEqDiff, Nat.reduceLeDiff, hf]) | (apply wC_P (sanity_ok); (focus (simp -dsimp (disch := first | omega | (simp only [go_sem]; omega)) only [go_sem, seval, Nat.reduceEqDiff, Nat.reduceLeDiff] <;> rfl)); rintro _ rfl) | (apply wC_P (Valid_ok l hs); (focus (simp -dsimp (disch := first | omega | (simp only [go_sem]; omega)) only [go_sem, seval, Nat.reduceEqDiff, Nat.reduceLeDiff, hv] <;> rfl)); rintro _ rfl; try simp -dsimp (disch := first | omega | (simp only [go_sem]; omega)) only [go_sem, seval, Nat.reduceEqDiff, Nat.reduceLeDiff, hv]) | ((first | with_reducible refine wG_decE (fun _ hG => ?_) (fun _ hG => ?_) | with_reducible refine wG_decFE (fun _ hG => ?_) (fun _ hG => ?_)) <;> (try simp -dsimp only [hG, decide_true, decide_false, not_true_eq_false, not_false_eq_true]) <;> clear hG)) <;> (try simp -dsimp (disch := first | omega | (simp only [go_sem]; omega)) only [go_sem, seval, Nat.reduceEqDiff, Nat.reduceLeDiff, hf, hv])) | simp -dsimp (disch := first | omega | (simp only [go_sem]; omega)) only [go_sem, seval, Nat.reduceEqDiff, Nat.reduceLeDiff, hf, hv]))
       all_goals first | exact Fin.p rfl rfl | (exfalso; refine hV hv ⟨hf, fun e => ?_, ?_⟩ <;> first | omega | (have := hlen.2 (by assumption); omega)) | trace_state
     · simp -dsimp (disch := first | omega | (simp only [go_sem]; omega)) only [go_sem, seval, Nat.reduceEqDiff, Nat.reduceLeDiff, hf]
       (repeat' (first | with_reducible refine W.seq ?_ | with_reducible refine W.block ?_ | ((first | with_reducible refine W.reg ?_ | with_reducible refine W.skip ?_ | with_reducible refine W.exit ?_ | with_reducible refine W.ret ?_ | with_reducible refine W.ifc ?_ | (apply wC_P (few_ok l); (focus (simp -dsimp (disch := first | omega | (simp only [go_sem]; omega)) only [go_sem, seval, Nat.reduceEqDiff, Nat.reduceLeDiff, hf] <;> rfl)); rintro _ rfl; try simp -dsimp (disch := first | omega | (simp only [go_sem]; omega)) only [go_sem, seval, Nat.reduceEqDiff, Nat.reduceLeDiff, hf]) | (apply wC_P (sanity_ok); (focus (simp -dsimp (disch := first | omega | (simp only [go_sem]; omega)) only [go_sem, seval, Nat.reduceEqDiff, Nat.reduceLeDiff] <;> rfl)); rintro _ rfl) | (apply wC_P (Valid_ok l hs); (focus (simp -dsimp (disch := first | omega | (simp only [go_sem]; omega)) only [go_sem, seval, Nat.reduceEqDiff, Nat.reduceLeDiff, hv] <;> rfl)); rintro _ rfl; try simp -dsimp (disch := first | omega | (simp only [go_sem]; omega)) only [go_sem, seval, Nat.reduceEqDiff, Nat.reduceLeDiff, hv]) | ((first | with_reducible refine wG_decE (fun _ hG => ?_) (fun _ hG => ?_) | with_reducible refine wG_decFE (fun _ hG => ?_) (fun _ hG => ?_)) <;> (try simp -dsimp only [hG, decide_true, decide_false, not_true_eq_false, not_false_eq_true]) <;> clear hG)) <;> (try simp -dsimp (disch := first | omega | (simp only [go_sem]; omega)) only [go_sem, seval, Nat.reduceEqDiff, Nat.reduceLeDiff, hf, hv])) | simp -dsimp (disch := first | omega | (simp only [go_sem]; omega)) only [go_sem, seval, Nat.reduceEqDiff, Nat.reduceLeDiff, hf, hv]))
       all_goals first | exact Fin.p rfl rfl | trace_state
   · simp -dsimp (disch := first | omega | (simp only [go_sem]; omega)) only [go_sem, seval, Nat.reduceEqDiff, Nat.reduceLeDiff, hf]
     (repeat' (first | with_reducible refine W.seq ?_ | with_reducible refine W.block ?_ | ((first | with_reducible refine W.reg ?_ | with_reducible refine W.skip ?_ | with_reducible refine W.exit ?_ | with_reducible refine W.ret ?_ | with_reducible refine W.ifc ?_ | (apply wC_P (few_ok l); (focus (simp -dsimp (disch := first | omega | (simp only [go_sem]; omega)) only [go_sem, seval, Nat.reduceEqDiff, Nat.reduceLeDiff, hf] <;> rfl)); rintro _ rfl; try simp -dsimp (disch := first | omega | (simp only [go_sem]; omega)) only [go_sem, seval, Nat.reduceEqDiff, Nat.reduceLeDiff, hf]) | (apply wC_P (sanity_ok); (focus (simp -dsimp (disch := first | omega | (simp only [go_sem]; omega)) only [go_sem, seval, Nat.reduceEqDiff, Nat.reduceLeDiff] <;> rfl)); rintro _ rfl) | ((first | with_reducible refine wG_decE (fun _ hG => ?_) (fun _ hG => ?_) | with_reducible refine wG_decFE (fun _ hG => ?_) (fun _ hG => ?_)) <;> (try simp -dsimp only [hG, decide_true, decide_false, not_true_eq_false, not_false_eq_true]) <;> clear hG)) <;> (try simp -dsimp (disch := first | omega | (simp only [go_sem]; omega)) only [go_sem, seval, Nat.reduceEqDiff, Nat.reduceLeDiff, hf])) | simp -dsimp (disch := first | omega | (simp only [go_sem]; omega)) only [go_sem, seval, Nat.reduceEqDiff, Nat.reduceLeDiff, hf]))
     all_goals exact Fin.p rfl rfl
 · have hs := few_small hf
   have hlen : 0 < l.obs.length := List.length_pos_iff.2 hne
   obtain ⟨i, hi⟩ : ∃ i : Nat, (i : Int) = p % (l.obs.length : Int) := ⟨(p % (l.obs.length : Int)).toNat, by have := Int.emod_nonneg p (by omega : (l.obs.length : Int) ≠ 0); omega⟩
   have hil : i < l.obs.length := by have := Int.emod_lt_of_pos p (by omega : (0 : Int) < l.obs.length); omega
   have hv2 := valid_vl hv
   have hmod : p.tmod (l.obs.length : Int) = (i : Int) := by rw [hi]; exact Int.tmod_eq_emod_of_nonneg (by omega)
   obtain ⟨x, hx⟩ : ∃ x, x = l.obs[i] := ⟨_, rfl⟩
   have hxm : x ∈ l.obs := by rw [hx]; exact List.getElem_mem hil
   have hx2 : l.obs[i] = x := hx.symm
   obtain ⟨O, hO⟩ : ∃ O, O = l.obs.filter fun y => decide (y.id ≠ x.id) := ⟨_, rfl⟩
   have hob : objOf l x.id = some x := find_of (f := Ob.id) hv2.ids hxm
   have hdr : dropR l x.id = (⟨l.next, keepC O l.cks, O⟩, goneC O l.cks, 0) := by unfold dropR; rw [if_pos hv, hob, hO]; rfl
   have hD := Drop_ok l x.id hs
   rw [hdr] at hD
   have hgl : (goneC O l.cks).length ≤ 100000 := by
    have := keep_gone O l.cks
    have := hs.1
    omega
   obtain ⟨m, left, f, mv, pr, pf, p13, hM, hmb, hlb, hxc, hfz, hf13, hcase, hmoved⟩ : ∃ (m : Lt) (left : List Int) (f : Int) (mv : Bool) (pr pf p13 : Prop), CallP Try.prog f_chunk_Move [eL l, .int .i64 x.id, .str cls] (· = .tup [eL m, .list (left.map eI), .int .i64 f]) ∧ bigL m ∧ left.length ≤ 100000 ∧ (x.cls = cls) = pr ∧ (f = 0) = pf ∧ (f = 13) = p13 ∧
    ((pf = True ∧ p13 = False ∧ pr = True ∧ mv = true) ∨ (pf = False ∧ p13 = True ∧ pr = False ∧ mv = true) ∨ (pf = True ∧ p13 = False ∧ pr = False ∧ mv = false ∧ left = goneC O l.cks)) ∧
    (mv = false → ∀ c ∈ l.cks, usesOf O c.id ≠ 0 → ∃ z ∈ m.cks, z.id = c.id ∧ z.cls = c.cls ∧ z.bytes = c.bytes ∧ (z.uses = c.uses ∨ c.id ∈ x.chunks ∨ c.cls = cls)) := by
    have hM := Move_ok l x.id cls hs
    obtain ⟨hmb, hlb⟩ := moveR_big hs x.id cls
    rcases move_cases hv hxm hcl with ⟨e, h⟩ | ⟨e, h⟩ | ⟨l', e, h, h2⟩ <;> rw [h] at hM hmb hlb
    · exact ⟨_, _, _, true, True, True, False, hM, hmb, hlb, eq_true e, eq_true rfl, eq_false (by simp), .inl ⟨rfl, rfl, rfl, rfl⟩, fun h => by cases h⟩
    · exact ⟨_, _, _, true, False, False, True, hM, hmb, hlb, eq_false e, eq_false (by simp), eq_true rfl, .inr (.inl ⟨rfl, rfl, rfl, rfl⟩), fun h => by cases h⟩
    · exact ⟨_, _, _, false, False, True, False, hM, hmb, hlb, eq_false e, eq_true rfl, eq_false (by simp), .inr (.inr ⟨rfl, rfl, rfl, rfl, by rw [hO]; rfl⟩), fun _ => by rw [hO]; exact h2⟩
   have hgone := sameI_ok (goneC O l.cks) hgl
   have hxl := hs.2.2 x hxm
   have hl1 := hs.1
   have hl2 := hs.2.1
   have hmb1 := hmb.1
   have hkg := keep_gone O l.cks
   obtain ⟨K, hK⟩ : ∃ K, K = keepC O l.cks := ⟨_, rfl⟩
   rw [← hK] at hkg hD
   have hfd : ∀ c ∈ l.cks, usesOf O c.id ≠ 0 → ∃ z ∈ K, z.id = c.id ∧ z.cls = c.cls ∧ z.bytes = c.bytes ∧ (z.uses = c.uses ∨ c.id ∈ x.chunks) := by
    rw [hK, hO]; exact fun c hc => found_drop hv2 hxm hc
   have hgi : ∀ c ∈ l.cks, usesOf O c.id = 0 ↔ c.id ∈ x.chunks ∧ ¬ ∃ y ∈ l.obs, ¬ y.id = x.id ∧ y.cls = c.cls ∧ c.id ∈ y.chunks := by
    rw [hO]; exact fun c hc => gone_iff hv2 hxm hc
   rcases hcase with ⟨rfl, rfl, rfl, hmt⟩ | ⟨rfl, rfl, rfl, hmt⟩ | ⟨rfl, rfl, rfl, hmt, rfl⟩
   all_goals
    simp -dsimp (disch := first | omega | (simp only [go_sem]; omega)) only [go_sem, seval, Nat.reduceEqDiff, Nat.reduceLeDiff, hf]
    (repeat' (first | with_reducible refine W.seq ?_ | with_reducible refine W.block ?_ | ((first | with_reducible refine W.reg ?_ | with_reducible refine W.skip ?_ | with_reducible refine W.exit ?_ | with_reducible refine W.ret ?_ | with_reducible refine W.ifc ?_ | (apply wC_P (few_ok l); (focus (simp -dsimp (disch := first | omega | (simp only [go_sem]; omega)) only [go_sem, seval, Nat.reduceEqDiff, Nat.reduceLeDiff, hf] <;> rfl)); rintro _ rfl; try simp -dsimp (disch := first | omega | (simp only [go_sem]; omega)) only [go_sem, seval, Nat.reduceEqDiff, Nat.reduceLeDiff, hf]) | (apply wC_P (sanity_ok); (focus (simp -dsimp (disch := first | omega | (simp only [go_sem]; omega)) only [go_sem, seval, Nat.reduceEqDiff, Nat.reduceLeDiff] <;> rfl)); rintro _ rfl) | (apply wC_P (Valid_ok l hs); (focus (simp -dsimp (disch := first | omega | (simp only [go_sem]; omega)) only [go_sem, seval, Nat.reduceEqDiff, Nat.reduceLeDiff, hv] <;> rfl)); rintro _ rfl; try simp -dsimp (disch := first | omega | (simp only [go_sem]; omega)) only [go_sem, seval, Nat.reduceEqDiff, Nat.reduceLeDiff, hv]) | (apply wC_P (hD); (focus (simp -dsimp (disch := first | omega | (simp only [go_sem]; omega)) only [go_sem, seval, Nat.reduceEqDiff, Nat.reduceLeDiff] <;> rfl)); rintro _ rfl) | (apply wC_P (hM); (focus (simp -dsimp (disch := first | omega | (simp only [go_sem]; omega)) only [go_sem, seval, Nat.reduceEqDiff, Nat.reduceLeDiff] <;> rfl)); rintro _ rfl) | (apply wC_P (hgone); (focus (simp -dsimp (disch := first | omega | (simp only [go_sem]; omega)) only [go_sem, seval, Nat.reduceEqDiff, Nat.reduceLeDiff] <;> rfl)); rintro _ rfl) | ((first | with_reducible refine wG_decE (fun _ hG => ?_) (fun _ hG => ?_) | with_reducible refine wG_decFE (fun _ hG => ?_) (fun _ hG => ?_)) <;> (try simp -dsimp only [hG, decide_true, decide_false, not_true_eq_false, not_false_eq_true]) <;> clear hG)) <;> (try simp -dsimp (disch := first | omega | (simp only [go_sem]; omega)) only [go_sem, seval, Nat.reduceEqDiff, Nat.reduceLeDiff, hf, hv, hmod, hx2, hxc, hfz, hf13])) | simp -dsimp (disch := first | omega | (simp only [go_sem]; omega)) only [go_sem, seval, Nat.reduceEqDiff, Nat.reduceLeDiff, hf, hv, hmod, hx2, hxc, hfz, hf13]))
   all_goals try (exfalso; omega)
   all_goals
    refine W.loop (fun q st => ∃ j b16 b20 b24 b26, j ≤ l.cks.length ∧ q = l.cks.length - j ∧
     st = (E [(2, .d (.str cls)), (3, .ptr 0 3 1 0), (7, .ptr 0 7 1 0), (8, .ptr 0 8 1 0), (9, .d (.list ((goneC O l.cks).map eI))), (11, .ptr 0 11 1 0), (13, .d (.int .i64 f)), (14, .own 1 ((goneC O (l.cks.take j)).map eI)),
         (101, .d (.list (l.cks.map eC))), (102, .d (.int .i64 l.cks.length)), (103, .d (.int .i64 j))],
      HB [(3, ⟨1, some [.int .i64 l.next, .list (l.cks.map eC), .list (l.obs.map eB)]⟩), (7, ⟨1, some [.int .i64 x.id, .str x.cls, .list (x.chunks.map eI)]⟩), (8, ⟨1, some [.int .i64 l.next, .list (K.map eC), .list (O.map eB)]⟩),
       (11, ⟨1, some [.int .i64 m.next, .list (m.cks.map eC), .list (m.obs.map eB)]⟩), (16, b16), (20, b20), (24, b24), (26, b26)], [], noGh))
     ⟨_, _, st_leB (by (simp -dsimp (disch := first | omega | (simp only [go_sem]; omega)) only [go_sem, seval, Nat.reduceEqDiff, Nat.reduceLeDiff] <;> ((repeat' apply And.intro) <;> first | exact VLe.refl _ | (apply vle_int; omega) | (apply vle_int; simp; done) | exact VLe.own _ _ | exact VLe.nilown _ | exact VLe.norm _))) (HB_pad [(3, _), (7, _), (8, _), (11, _)] [16, 20, 24, 26] rfl).symm, 0, _, _, _, _, by omega, rfl, rfl⟩ ?_
    rintro q st ⟨j, b16, b20, b24, b26, hj, rfl, rfl⟩
    (repeat (first | with_reducible refine W.seq ?_ | with_reducible refine W.block ?_ | ((first | with_reducible refine W.reg ?_ | with_reducible refine W.skip ?_ | with_reducible refine W.exit ?_ | with_reducible refine W.ret ?_ | with_reducible refine W.ifc ?_); simp -dsimp (disch := first | omega | (simp only [go_sem]; omega)) only [go_sem, seval, Nat.reduceEqDiff, Nat.reduceLeDiff])))
    refine wG_dec (fun h1 => ?_) (fun h1 => ?_)
    · have hj' : j < l.cks.length := by omega
      obtain ⟨c, hc⟩ : ∃ c, c = l.cks[j] := ⟨_, rfl⟩
      have hc2 : l.cks[j] = c := hc.symm
      have hcm : c ∈ l.cks := by rw [hc]; exact List.getElem_mem hj'
      have hgi2 := hgi c hcm
      have hfd2 := hfd c hcm
      have hmd2 := fun e => hmoved e c hcm
      have hgs : goneC O (l.cks.take (j + 1)) = if 0 < usesOf O c.id then goneC O (l.cks.take j) else goneC O (l.cks.take j) ++ [c.id] := by rw [hc]; exact goneC_snoc hj'
      have hgl2 : (goneC O (l.cks.take j)).length ≤ 2000 := by
       have := keep_gone O (l.cks.take j)
       rw [List.length_take] at this; omega
      have hm : (c.id ∈ x.chunks) ∨ ¬ (c.id ∈ x.chunks) := Classical.em _
      obtain ⟨pm, hm, hm2⟩ : ∃ pm : Prop, (c.id ∈ x.chunks) = pm ∧ (pm = True ∨ pm = False) := ⟨_, rfl, by rcases hm with h | h; exact .inl (eq_true h); exact .inr (eq_false h)⟩
      rcases hm2 with rfl | rfl
      all_goals
       (repeat' (first | with_reducible refine W.seq ?_ | with_reducible refine W.block ?_ | ((first | with_reducible refine W.reg ?_ | with_reducible refine W.skip ?_ | with_reducible refine W.exit ?_ | with_reducible refine W.ret ?_ | with_reducible refine W.ifc ?_ | (apply wC_P (Has_ok x.chunks c.id hxl); (focus (simp -dsimp (disch := first | omega | (simp only [go_sem]; omega)) only [go_sem, seval, Nat.reduceEqDiff, Nat.reduceLeDiff] <;> rfl)); rintro _ rfl) | ((first | with_reducible refine wG_decE (fun _ hG => ?_) (fun _ hG => ?_) | with_reducible refine wG_decFE (fun _ hG => ?_) (fun _ hG => ?_)) <;> (try simp -dsimp only [hG, decide_true, decide_false, not_true_eq_false, not_false_eq_true]) <;> clear hG)) <;> (try simp -dsimp (disch := first | omega | (simp only [go_sem]; omega)) only [go_sem, seval, Nat.reduceEqDiff, Nat.reduceLeDiff, hf, hc2, hm])) | simp -dsimp (disch := first | omega | (simp only [go_sem]; omega)) only [go_sem, seval, Nat.reduceEqDiff, Nat.reduceLeDiff, hf, hc2, hm]))
       refine W.loop (fun q st => ∃ k b b20, k ≤ l.obs.length ∧ q = l.obs.length - k ∧ b = decide (∃ y ∈ l.obs.take k, ¬ y.id = x.id ∧ y.cls = c.cls ∧ c.id ∈ y.chunks) ∧
        st = (E [(2, .d (.str cls)), (3, .ptr 0 3 1 0), (7, .ptr 0 7 1 0), (8, .ptr 0 8 1 0), (9, .d (.list ((goneC O l.cks).map eI))), (11, .ptr 0 11 1 0), (13, .d (.int .i64 f)), (14, .own 1 ((goneC O (l.cks.take j)).map eI)), (16, .ptr 0 16 (b16.g + 1) 0), (17, .d (.bool b)), (18, .d (.bool (decide (c.id ∈ x.chunks)))), (101, .d (.list (l.cks.map eC))), (102, .d (.int .i64 l.cks.length)), (103, .d (.int .i64 j)), (113, .d (.list (l.obs.map eB))), (114, .d (.int .i64 l.obs.length)), (115, .d (.int .i64 k))],
         HB [(3, ⟨1, some [.int .i64 l.next, .list (l.cks.map eC), .list (l.obs.map eB)]⟩), (7, ⟨1, some [.int .i64 x.id, .str x.cls, .list (x.chunks.map eI)]⟩), (8, ⟨1, some [.int .i64 l.next, .list (K.map eC), .list (O.map eB)]⟩), (11, ⟨1, some [.int .i64 m.next, .list (m.cks.map eC), .list (m.obs.map eB)]⟩), (16, ⟨b16.g + 1, some [.int .i64 c.id, .str c.cls, .str c.bytes, .int .i64 c.uses]⟩), (20, b20), (24, b24), (26, b26)], [], noGh))
        ⟨_, _, st_leB (by (simp -dsimp (disch := first | omega | (simp only [go_sem]; omega)) only [go_sem, seval, Nat.reduceEqDiff, Nat.reduceLeDiff, hm] <;> ((repeat' apply And.intro) <;> first | exact VLe.refl _ | (apply vle_int; omega) | (apply vle_int; simp; done) | exact VLe.own _ _ | exact VLe.nilown _ | exact VLe.norm _))) rfl, 0, false, _, by omega, rfl, by simp, rfl⟩ ?_
       rintro q st ⟨k, b, b20, hk, rfl, hb, rfl⟩
       (repeat (first | with_reducible refine W.seq ?_ | with_reducible refine W.block ?_ | ((first | with_reducible refine W.reg ?_ | with_reducible refine W.skip ?_ | with_reducible refine W.exit ?_ | with_reducible refine W.ret ?_ | with_reducible refine W.ifc ?_); simp -dsimp (disch := first | omega | (simp only [go_sem]; omega)) only [go_sem, seval, Nat.reduceEqDiff, Nat.reduceLeDiff])))
       refine wG_dec (fun h2 => ?_) (fun h2 => ?_)
       · have hk' : k < l.obs.length := by omega
         have hyl := hs.2.2 _ (List.getElem_mem hk')
         have hO2 := ex_take (P := fun y : Ob => ¬ y.id = x.id ∧ y.cls = c.cls ∧ c.id ∈ y.chunks) hk'
         have hb' : b = true ↔ (∃ y ∈ l.obs.take k, ¬ y.id = x.id ∧ y.cls = c.cls ∧ c.id ∈ y.chunks) := by rw [hb, decide_eq_true_iff]
         clear hb
         cases b
         all_goals
          (repeat' (first | with_reducible refine W.seq ?_ | with_reducible refine W.block ?_ | ((first | with_reducible refine W.reg ?_ | with_reducible refine W.skip ?_ | with_reducible refine W.exit ?_ | with_reducible refine W.ret ?_ | with_reducible refine W.ifc ?_ | (apply wC_P (Has_ok l.obs[k].chunks c.id hyl); (focus (simp -dsimp (disch := first | omega | (simp only [go_sem]; omega)) only [go_sem, seval, Nat.reduceEqDiff, Nat.reduceLeDiff] <;> rfl)); rintro _ rfl) | ((first | with_reducible refine wG_decE (fun _ hG => ?_) (fun _ hG => ?_) | with_reducible refine wG_decFE (fun _ hG => ?_) (fun _ hG => ?_)) <;> (try simp -dsimp only [hG, decide_true, decide_false, not_true_eq_false, not_false_eq_true]) <;> clear hG)) <;> (try simp -dsimp (disch := first | omega | (simp only [go_sem]; omega)) only [go_sem, seval, Nat.reduceEqDiff, Nat.reduceLeDiff, hf, hm])) | simp -dsimp (disch := first | omega | (simp only [go_sem]; omega)) only [go_sem, seval, Nat.reduceEqDiff, Nat.reduceLeDiff, hf, hm]))
         all_goals
          first
          | (refine ⟨_, _, ?_, st_leB ?_ rfl, k + 1, true, _, by omega, rfl, ?_, rfl⟩; (focus omega); (focus (simp -dsimp (disch := first | omega | (simp only [go_sem]; omega)) only [go_sem, seval, Nat.reduceEqDiff, Nat.reduceLeDiff, hm] <;> ((repeat' apply And.intro) <;> first | exact VLe.refl _ | (apply vle_int; omega) | (apply vle_int; simp; done) | exact VLe.own _ _ | exact VLe.nilown _ | exact VLe.norm _))); (refine Bool.eq_iff_iff.2 (Iff.trans ?_ decide_eq_true_iff.symm); rw [hO2, ← hb']; first | (simp [‹¬ l.obs[k].id = x.id›, ‹l.obs[k].cls = c.cls›]; done) | (simp [‹¬ l.obs[k].id = x.id›, ‹¬ l.obs[k].cls = c.cls›]; done) | (simp [Classical.not_not.1 ‹¬¬l.obs[k].id = x.id›]; done) | (simp; done)))
          | (refine ⟨_, _, ?_, st_leB ?_ rfl, k + 1, false, _, by omega, rfl, ?_, rfl⟩; (focus omega); (focus (simp -dsimp (disch := first | omega | (simp only [go_sem]; omega)) only [go_sem, seval, Nat.reduceEqDiff, Nat.reduceLeDiff, hm] <;> ((repeat' apply And.intro) <;> first | exact VLe.refl _ | (apply vle_int; omega) | (apply vle_int; simp; done) | exact VLe.own _ _ | exact VLe.nilown _ | exact VLe.norm _))); (refine Bool.eq_iff_iff.2 (Iff.trans ?_ decide_eq_true_iff.symm); rw [hO2, ← hb']; first | (simp [‹¬ l.obs[k].id = x.id›, ‹l.obs[k].cls = c.cls›]; done) | (simp [‹¬ l.obs[k].id = x.id›, ‹¬ l.obs[k].cls = c.cls›]; done) | (simp [Classical.not_not.1 ‹¬¬l.obs[k].id = x.id›]; done) | (simp; done)))
          | (refine ⟨_, _, ?_, st_leB ?_ rfl, k + 1, decide (c.id ∈ l.obs[k].chunks), _, by omega, rfl, ?_, rfl⟩; (focus omega); (focus (simp -dsimp (disch := first | omega | (simp only [go_sem]; omega)) only [go_sem, seval, Nat.reduceEqDiff, Nat.reduceLeDiff, hm] <;> ((repeat' apply And.intro) <;> first | exact VLe.refl _ | (apply vle_int; omega) | (apply vle_int; simp; done) | exact VLe.own _ _ | exact VLe.nilown _ | exact VLe.norm _))); (refine Bool.eq_iff_iff.2 (Iff.trans ?_ decide_eq_true_iff.symm); rw [hO2, ← hb']; first | (simp [‹¬ l.obs[k].id = x.id›, ‹l.obs[k].cls = c.cls›]; done) | (simp [‹¬ l.obs[k].id = x.id›, ‹¬ l.obs[k].cls = c.cls›]; done) | (simp [Classical.not_not.1 ‹¬¬l.obs[k].id = x.id›]; done) | (simp; done)))
       · obtain rfl : k = l.obs.length := by omega
         rw [List.take_length] at hb
         have hb' : b = true ↔ ∃ y ∈ l.obs, ¬ y.id = x.id ∧ y.cls = c.cls ∧ c.id ∈ y.chunks := by rw [hb, decide_eq_true_iff]
         rw [← hb', hm] at hgi2
         clear hb hb'
         cases b
         all_goals
          (repeat' (first | with_reducible refine W.seq ?_ | with_reducible refine W.block ?_ | ((first | with_reducible refine W.reg ?_ | with_reducible refine W.skip ?_ | with_reducible refine W.exit ?_ | with_reducible refine W.ret ?_ | with_reducible refine W.ifc ?_ | ((first | with_reducible refine wG_decE (fun _ hG => ?_) (fun _ hG => ?_) | with_reducible refine wG_decFE (fun _ hG => ?_) (fun _ hG => ?_)) <;> (try simp -dsimp only [hG, decide_true, decide_false, not_true_eq_false, not_false_eq_true]) <;> clear hG)) <;> (try simp -dsimp (disch := first | omega | (simp only [go_sem]; omega)) only [go_sem, seval, Nat.reduceEqDiff, Nat.reduceLeDiff, hf, hm, hfz, hxc])) | simp -dsimp (disch := first | omega | (simp only [go_sem]; omega)) only [go_sem, seval, Nat.reduceEqDiff, Nat.reduceLeDiff, hf, hm, hfz, hxc]))
         all_goals try (
          have hu : ¬ 0 < usesOf O c.id := by have := hgi2.2 (by simp); omega
          rw [if_neg hu] at hgs
          refine ⟨_, _, ?_, st_leB (by (simp -dsimp (disch := first | omega | (simp only [go_sem]; omega)) only [go_sem, seval, Nat.reduceEqDiff, Nat.reduceLeDiff, hgs, List.map_append, List.map_cons, List.map_nil] <;> ((repeat' apply And.intro) <;> first | exact VLe.refl _ | (apply vle_int; omega) | (apply vle_int; simp; done) | exact VLe.own _ _ | exact VLe.nilown _ | exact VLe.norm _))) rfl, j + 1, _, _, _, _, by omega, rfl, rfl⟩
          omega)
         all_goals
          have hu : 0 < usesOf O c.id := Nat.pos_of_ne_zero fun e => by have := hgi2.1 e; simp at this
          rw [if_pos hu] at hgs
          have hfd3 := hfd2 (by omega)
          have hmd3 := fun e => hmd2 e (by omega)
          refine W.loop (fun q st => ∃ k b b24, k ≤ K.length ∧ q = K.length - k ∧ b = decide (∃ z ∈ K.take k, z.id = c.id ∧ z.cls = c.cls ∧ z.bytes = c.bytes ∧ (z.uses = c.uses ∨ c.id ∈ x.chunks)) ∧
           st = (E [(2, .d (.str cls)), (3, .ptr 0 3 1 0), (7, .ptr 0 7 1 0), (8, .ptr 0 8 1 0), (9, .d (.list ((goneC O l.cks).map eI))), (11, .ptr 0 11 1 0), (13, .d (.int .i64 f)), (14, .own 1 ((goneC O (l.cks.take j)).map eI)), (16, .ptr 0 16 (b16.g + 1) 0), (18, .d (.bool (decide (c.id ∈ x.chunks)))), (21, .d (.bool b)), (22, .d (.bool mv)), (101, .d (.list (l.cks.map eC))), (102, .d (.int .i64 l.cks.length)), (103, .d (.int .i64 j)), (161, .d (.list (K.map eC))), (162, .d (.int .i64 K.length)), (163, .d (.int .i64 k))],
            HB [(3, ⟨1, some [.int .i64 l.next, .list (l.cks.map eC), .list (l.obs.map eB)]⟩), (7, ⟨1, some [.int .i64 x.id, .str x.cls, .list (x.chunks.map eI)]⟩), (8, ⟨1, some [.int .i64 l.next, .list (K.map eC), .list (O.map eB)]⟩), (11, ⟨1, some [.int .i64 m.next, .list (m.cks.map eC), .list (m.obs.map eB)]⟩), (16, ⟨b16.g + 1, some [.int .i64 c.id, .str c.cls, .str c.bytes, .int .i64 c.uses]⟩), (20, b20), (24, b24), (26, b26)], [], noGh))
           ⟨_, _, st_leB (by (simp -dsimp (disch := first | omega | (simp only [go_sem]; omega)) only [go_sem, seval, Nat.reduceEqDiff, Nat.reduceLeDiff, hm, hmt] <;> ((repeat' apply And.intro) <;> first | exact VLe.refl _ | (apply vle_int; omega) | (apply vle_int; simp; done) | exact VLe.own _ _ | exact VLe.nilown _ | exact VLe.norm _))) rfl, 0, false, _, by omega, rfl, by simp, rfl⟩ ?_
          rintro q st ⟨k, b, b24, hk, rfl, hb, rfl⟩
          (repeat (first | with_reducible refine W.seq ?_ | with_reducible refine W.block ?_ | ((first | with_reducible refine W.reg ?_ | with_reducible refine W.skip ?_ | with_reducible refine W.exit ?_ | with_reducible refine W.ret ?_ | with_reducible refine W.ifc ?_); simp -dsimp (disch := first | omega | (simp only [go_sem]; omega)) only [go_sem, seval, Nat.reduceEqDiff, Nat.reduceLeDiff])))
          refine wG_dec (fun h2 => ?_) (fun h2 => ?_)
          · have hk' : k < K.length := by omega
            have hO2 := ex_take (P := fun z : Ck => z.id = c.id ∧ z.cls = c.cls ∧ z.bytes = c.bytes ∧ (z.uses = c.uses ∨ c.id ∈ x.chunks)) hk'
            have hb' : b = true ↔ (∃ z ∈ K.take k, z.id = c.id ∧ z.cls = c.cls ∧ z.bytes = c.bytes ∧ (z.uses = c.uses ∨ c.id ∈ x.chunks)) := by rw [hb, decide_eq_true_iff]
            clear hb
            cases b
            all_goals
             (repeat' (first | with_reducible refine W.seq ?_ | with_reducible refine W.block ?_ | ((first | with_reducible refine W.reg ?_ | with_reducible refine W.skip ?_ | with_reducible refine W.exit ?_ | with_reducible refine W.ret ?_ | with_reducible refine W.ifc ?_ | ((first | with_reducible refine wG_decE (fun _ hG => ?_) (fun _ hG => ?_) | with_reducible refine wG_decFE (fun _ hG => ?_) (fun _ hG => ?_)) <;> (try simp -dsimp only [hG, decide_true, decide_false, not_true_eq_false, not_false_eq_true]) <;> clear hG)) <;> (try simp -dsimp (disch := first | omega | (simp only [go_sem]; omega)) only [go_sem, seval, Nat.reduceEqDiff, Nat.reduceLeDiff, hf, hm, hmt])) | simp -dsimp (disch := first | omega | (simp only [go_sem]; omega)) only [go_sem, seval, Nat.reduceEqDiff, Nat.reduceLeDiff, hf, hm, hmt]))
            all_goals
             first
             | (refine ⟨_, _, ?_, st_leB ?_ rfl, k + 1, true, _, by omega, rfl, ?_, rfl⟩; (focus omega); (focus (simp -dsimp (disch := first | omega | (simp only [go_sem]; omega)) only [go_sem, seval, Nat.reduceEqDiff, Nat.reduceLeDiff, hm, hmt] <;> ((repeat' apply And.intro) <;> first | exact VLe.refl _ | (apply vle_int; omega) | (apply vle_int; simp; done) | exact VLe.own _ _ | exact VLe.nilown _ | exact VLe.norm _))); (refine Bool.eq_iff_iff.2 (Iff.trans ?_ decide_eq_true_iff.symm); rw [hO2, ← hb']; first | (simp [‹K[k].id = c.id›, ‹K[k].cls = c.cls›, ‹K[k].bytes = c.bytes›, ‹K[k].uses = c.uses›, hm]; done) | (simp [‹K[k].id = c.id›, ‹K[k].cls = c.cls›, ‹K[k].bytes = c.bytes›, ‹¬K[k].uses = c.uses›, hm]; done) | (simp [‹K[k].id = c.id›, ‹K[k].cls = c.cls›, ‹K[k].bytes = c.bytes›, hm]; done) | (simp [‹K[k].id = c.id›, ‹K[k].cls = c.cls›, ‹¬K[k].bytes = c.bytes›]; done) | (simp [‹K[k].id = c.id›, ‹¬K[k].cls = c.cls›]; done) | (simp [‹¬K[k].id = c.id›]; done) | (simp []; done)))
             | (refine ⟨_, _, ?_, st_leB ?_ rfl, k + 1, false, _, by omega, rfl, ?_, rfl⟩; (focus omega); (focus (simp -dsimp (disch := first | omega | (simp only [go_sem]; omega)) only [go_sem, seval, Nat.reduceEqDiff, Nat.reduceLeDiff, hm, hmt] <;> ((repeat' apply And.intro) <;> first | exact VLe.refl _ | (apply vle_int; omega) | (apply vle_int; simp; done) | exact VLe.own _ _ | exact VLe.nilown _ | exact VLe.norm _))); (refine Bool.eq_iff_iff.2 (Iff.trans ?_ decide_eq_true_iff.symm); rw [hO2, ← hb']; first | (simp [‹K[k].id = c.id›, ‹K[k].cls = c.cls›, ‹K[k].bytes = c.bytes›, ‹K[k].uses = c.uses›, hm]; done) | (simp [‹K[k].id = c.id›, ‹K[k].cls = c.cls›, ‹K[k].bytes = c.bytes›, ‹¬K[k].uses = c.uses›, hm]; done) | (simp [‹K[k].id = c.id›, ‹K[k].cls = c.cls›, ‹K[k].bytes = c.bytes›, hm]; done) | (simp [‹K[k].id = c.id›, ‹K[k].cls = c.cls›, ‹¬K[k].bytes = c.bytes›]; done) | (simp [‹K[k].id = c.id›, ‹¬K[k].cls = c.cls›]; done) | (simp [‹¬K[k].id = c.id›]; done) | (simp []; done)))
             | (refine ⟨_, _, ?_, st_leB ?_ rfl, k + 1, decide (K[k].uses = c.uses), _, by omega, rfl, ?_, rfl⟩; (focus omega); (focus (simp -dsimp (disch := first | omega | (simp only [go_sem]; omega)) only [go_sem, seval, Nat.reduceEqDiff, Nat.reduceLeDiff, hm, hmt] <;> ((repeat' apply And.intro) <;> first | exact VLe.refl _ | (apply vle_int; omega) | (apply vle_int; simp; done) | exact VLe.own _ _ | exact VLe.nilown _ | exact VLe.norm _))); (refine Bool.eq_iff_iff.2 (Iff.trans ?_ decide_eq_true_iff.symm); rw [hO2, ← hb']; first | (simp [‹K[k].id = c.id›, ‹K[k].cls = c.cls›, ‹K[k].bytes = c.bytes›, ‹K[k].uses = c.uses›, hm]; done) | (simp [‹K[k].id = c.id›, ‹K[k].cls = c.cls›, ‹K[k].bytes = c.bytes›, ‹¬K[k].uses = c.uses›, hm]; done) | (simp [‹K[k].id = c.id›, ‹K[k].cls = c.cls›, ‹K[k].bytes = c.bytes›, hm]; done) | (simp [‹K[k].id = c.id›, ‹K[k].cls = c.cls›, ‹¬K[k].bytes = c.bytes›]; done) | (simp [‹K[k].id = c.id›, ‹¬K[k].cls = c.cls›]; done) | (simp [‹¬K[k].id = c.id›]; done) | (simp []; done)))
          · obtain rfl : k = K.length := by omega
            rw [List.take_length] at hb
            have hbt : b = true := by rw [hb, decide_eq_true_iff]; exact hfd3
            subst hbt
            clear hb
            (repeat (first | with_reducible refine W.seq ?_ | with_reducible refine W.block ?_ | ((first | with_reducible refine W.reg ?_ | with_reducible refine W.skip ?_ | with_reducible refine W.exit ?_ | with_reducible refine W.ret ?_ | with_reducible refine W.ifc ?_); simp -dsimp (disch := first | omega | (simp only [go_sem]; omega)) only [go_sem, seval, Nat.reduceEqDiff, Nat.reduceLeDiff])))
            refine W.loop (fun q st => ∃ k b b26, k ≤ m.cks.length ∧ q = m.cks.length - k ∧ b = decide (mv = true ∨ ∃ z ∈ m.cks.take k, z.id = c.id ∧ z.cls = c.cls ∧ z.bytes = c.bytes ∧ (z.uses = c.uses ∨ c.id ∈ x.chunks ∨ c.cls = cls)) ∧
             st = (E [(2, .d (.str cls)), (3, .ptr 0 3 1 0), (7, .ptr 0 7 1 0), (8, .ptr 0 8 1 0), (9, .d (.list ((goneC O l.cks).map eI))), (11, .ptr 0 11 1 0), (13, .d (.int .i64 f)), (14, .own 1 ((goneC O (l.cks.take j)).map eI)), (16, .ptr 0 16 (b16.g + 1) 0), (18, .d (.bool (decide (c.id ∈ x.chunks)))), (21, .d (.bool true)), (22, .d (.bool b)), (101, .d (.list (l.cks.map eC))), (102, .d (.int .i64 l.cks.length)), (103, .d (.int .i64 j)), (201, .d (.list (m.cks.map eC))), (202, .d (.int .i64 m.cks.length)), (203, .d (.int .i64 k))],
              HB [(3, ⟨1, some [.int .i64 l.next, .list (l.cks.map eC), .list (l.obs.map eB)]⟩), (7, ⟨1, some [.int .i64 x.id, .str x.cls, .list (x.chunks.map eI)]⟩), (8, ⟨1, some [.int .i64 l.next, .list (K.map eC), .list (O.map eB)]⟩), (11, ⟨1, some [.int .i64 m.next, .list (m.cks.map eC), .list (m.obs.map eB)]⟩), (16, ⟨b16.g + 1, some [.int .i64 c.id, .str c.cls, .str c.bytes, .int .i64 c.uses]⟩), (20, b20), (24, b24), (26, b26)], [], noGh))
             ⟨_, _, st_leB (by (simp -dsimp (disch := first | omega | (simp only [go_sem]; omega)) only [go_sem, seval, Nat.reduceEqDiff, Nat.reduceLeDiff, hm, hmt] <;> ((repeat' apply And.intro) <;> first | exact VLe.refl _ | (apply vle_int; omega) | (apply vle_int; simp; done) | exact VLe.own _ _ | exact VLe.nilown _ | exact VLe.norm _))) rfl, 0, mv, _, by omega, rfl, by simp, rfl⟩ ?_
            rintro q st ⟨k, b, b26, hk, rfl, hb, rfl⟩
            (repeat (first | with_reducible refine W.seq ?_ | with_reducible refine W.block ?_ | ((first | with_reducible refine W.reg ?_ | with_reducible refine W.skip ?_ | with_reducible refine W.exit ?_ | with_reducible refine W.ret ?_ | with_reducible refine W.ifc ?_); simp -dsimp (disch := first | omega | (simp only [go_sem]; omega)) only [go_sem, seval, Nat.reduceEqDiff, Nat.reduceLeDiff])))
            refine wG_dec (fun h2 => ?_) (fun h2 => ?_)
            · have hk' : k < m.cks.length := by omega
              have hO3 : (mv = true ∨ ∃ z ∈ m.cks.take (k + 1), z.id = c.id ∧ z.cls = c.cls ∧ z.bytes = c.bytes ∧ (z.uses = c.uses ∨ c.id ∈ x.chunks ∨ c.cls = cls)) ↔ (mv = true ∨ ∃ z ∈ m.cks.take k, z.id = c.id ∧ z.cls = c.cls ∧ z.bytes = c.bytes ∧ (z.uses = c.uses ∨ c.id ∈ x.chunks ∨ c.cls = cls)) ∨ (m.cks[k].id = c.id ∧ m.cks[k].cls = c.cls ∧ m.cks[k].bytes = c.bytes ∧ (m.cks[k].uses = c.uses ∨ c.id ∈ x.chunks ∨ c.cls = cls)) := by
               rw [ex_take (P := fun z : Ck => z.id = c.id ∧ z.cls = c.cls ∧ z.bytes = c.bytes ∧ (z.uses = c.uses ∨ c.id ∈ x.chunks ∨ c.cls = cls)) hk', or_assoc]
              have hb' : b = true ↔ (mv = true ∨ ∃ z ∈ m.cks.take k, z.id = c.id ∧ z.cls = c.cls ∧ z.bytes = c.bytes ∧ (z.uses = c.uses ∨ c.id ∈ x.chunks ∨ c.cls = cls)) := by rw [hb, decide_eq_true_iff]
              clear hb
              cases b
              all_goals
               (repeat' (first | with_reducible refine W.seq ?_ | with_reducible refine W.block ?_ | ((first | with_reducible refine W.reg ?_ | with_reducible refine W.skip ?_ | with_reducible refine W.exit ?_ | with_reducible refine W.ret ?_ | with_reducible refine W.ifc ?_ | ((first | with_reducible refine wG_decE (fun _ hG => ?_) (fun _ hG => ?_) | with_reducible refine wG_decFE (fun _ hG => ?_) (fun _ hG => ?_)) <;> (try simp -dsimp only [hG, decide_true, decide_false, not_true_eq_false, not_false_eq_true]) <;> clear hG)) <;> (try simp -dsimp (disch := first | omega | (simp only [go_sem]; omega)) only [go_sem, seval, Nat.reduceEqDiff, Nat.reduceLeDiff, hf, hm])) | simp -dsimp (disch := first | omega | (simp only [go_sem]; omega)) only [go_sem, seval, Nat.reduceEqDiff, Nat.reduceLeDiff, hf, hm]))
              all_goals
               first
              | (refine ⟨_, _, ?_, st_leB ?_ rfl, k + 1, true, _, by omega, rfl, ?_, rfl⟩; (focus omega); (focus (simp -dsimp (disch := first | omega | (simp only [go_sem]; omega)) only [go_sem, seval, Nat.reduceEqDiff, Nat.reduceLeDiff, hm, hmt] <;> ((repeat' apply And.intro) <;> first | exact VLe.refl _ | (apply vle_int; omega) | (apply vle_int; simp; done) | exact VLe.own _ _ | exact VLe.nilown _ | exact VLe.norm _))); (refine Bool.eq_iff_iff.2 (Iff.trans ?_ decide_eq_true_iff.symm); rw [hO3, ← hb']; first | (simp [‹m.cks[k].id = c.id›, ‹m.cks[k].cls = c.cls›, ‹m.cks[k].bytes = c.bytes›, ‹m.cks[k].uses = c.uses›, hm]; done) | (simp [‹m.cks[k].id = c.id›, ‹m.cks[k].cls = c.cls›, ‹m.cks[k].bytes = c.bytes›, ‹¬m.cks[k].uses = c.uses›, hm]; done) | (simp [‹m.cks[k].id = c.id›, ‹m.cks[k].cls = c.cls›, ‹m.cks[k].bytes = c.bytes›, hm]; done) | (simp [‹m.cks[k].id = c.id›, ‹m.cks[k].cls = c.cls›, ‹¬m.cks[k].bytes = c.bytes›]; done) | (simp [‹m.cks[k].id = c.id›, ‹¬m.cks[k].cls = c.cls›]; done) | (simp [‹¬m.cks[k].id = c.id›]; done) | (simp []; done)))
              | (refine ⟨_, _, ?_, st_leB ?_ rfl, k + 1, false, _, by omega, rfl, ?_, rfl⟩; (focus omega); (focus (simp -dsimp (disch := first | omega | (simp only [go_sem]; omega)) only [go_sem, seval, Nat.reduceEqDiff, Nat.reduceLeDiff, hm, hmt] <;> ((repeat' apply And.intro) <;> first | exact VLe.refl _ | (apply vle_int; omega) | (apply vle_int; simp; done) | exact VLe.own _ _ | exact VLe.nilown _ | exact VLe.norm _))); (refine Bool.eq_iff_iff.2 (Iff.trans ?_ decide_eq_true_iff.symm); rw [hO3, ← hb']; first | (simp [‹m.cks[k].id = c.id›, ‹m.cks[k].cls = c.cls›, ‹m.cks[k].bytes = c.bytes›, ‹m.cks[k].uses = c.uses›, hm]; done) | (simp [‹m.cks[k].id = c.id›, ‹m.cks[k].cls = c.cls›, ‹m.cks[k].bytes = c.bytes›, ‹¬m.cks[k].uses = c.uses›, hm]; done) | (simp [‹m.cks[k].id = c.id›, ‹m.cks[k].cls = c.cls›, ‹m.cks[k].bytes = c.bytes›, hm]; done) | (simp [‹m.cks[k].id = c.id›, ‹m.cks[k].cls = c.cls›, ‹¬m.cks[k].bytes = c.bytes›]; done) | (simp [‹m.cks[k].id = c.id›, ‹¬m.cks[k].cls = c.cls›]; done) | (simp [‹¬m.cks[k].id = c.id›]; done) | (simp []; done)))
              | (refine ⟨_, _, ?_, st_leB ?_ rfl, k + 1, decide (m.cks[k].uses = c.uses), _, by omega, rfl, ?_, rfl⟩; (focus omega); (focus (simp -dsimp (disch := first | omega | (simp only [go_sem]; omega)) only [go_sem, seval, Nat.reduceEqDiff, Nat.reduceLeDiff, hm, hmt] <;> ((repeat' apply And.intro) <;> first | exact VLe.refl _ | (apply vle_int; omega) | (apply vle_int; simp; done) | exact VLe.own _ _ | exact VLe.nilown _ | exact VLe.norm _))); (refine Bool.eq_iff_iff.2 (Iff.trans ?_ decide_eq_true_iff.symm); rw [hO3, ← hb']; first | (simp [‹m.cks[k].id = c.id›, ‹m.cks[k].cls = c.cls›, ‹m.cks[k].bytes = c.bytes›, ‹m.cks[k].uses = c.uses›, hm]; done) | (simp [‹m.cks[k].id = c.id›, ‹m.cks[k].cls = c.cls›, ‹m.cks[k].bytes = c.bytes›, ‹¬m.cks[k].uses = c.uses›, hm]; done) | (simp [‹m.cks[k].id = c.id›, ‹m.cks[k].cls = c.cls›, ‹m.cks[k].bytes = c.bytes›, hm]; done) | (simp [‹m.cks[k].id = c.id›, ‹m.cks[k].cls = c.cls›, ‹¬m.cks[k].bytes = c.bytes›]; done) | (simp [‹m.cks[k].id = c.id›, ‹¬m.cks[k].cls = c.cls›]; done) | (simp [‹¬m.cks[k].id = c.id›]; done) | (simp []; done)))
              | (refine ⟨_, _, ?_, st_leB ?_ rfl, k + 1, decide (c.cls = cls), _, by omega, rfl, ?_, rfl⟩; (focus omega); (focus (simp -dsimp (disch := first | omega | (simp only [go_sem]; omega)) only [go_sem, seval, Nat.reduceEqDiff, Nat.reduceLeDiff, hm, hmt] <;> ((repeat' apply And.intro) <;> first | exact VLe.refl _ | (apply vle_int; omega) | (apply vle_int; simp; done) | exact VLe.own _ _ | exact VLe.nilown _ | exact VLe.norm _))); (refine Bool.eq_iff_iff.2 (Iff.trans ?_ decide_eq_true_iff.symm); rw [hO3, ← hb']; first | (simp [‹m.cks[k].id = c.id›, ‹m.cks[k].cls = c.cls›, ‹m.cks[k].bytes = c.bytes›, ‹m.cks[k].uses = c.uses›, hm]; done) | (simp [‹m.cks[k].id = c.id›, ‹m.cks[k].cls = c.cls›, ‹m.cks[k].bytes = c.bytes›, ‹¬m.cks[k].uses = c.uses›, hm]; done) | (simp [‹m.cks[k].id = c.id›, ‹m.cks[k].cls = c.cls›, ‹m.cks[k].bytes = c.bytes›, hm]; done) | (simp [‹m.cks[k].id = c.id›, ‹m.cks[k].cls = c.cls›, ‹¬m.cks[k].bytes = c.bytes›]; done) | (simp [‹m.cks[k].id = c.id›, ‹¬m.cks[k].cls = c.cls›]; done) | (simp [‹¬m.cks[k].id = c.id›]; done) | (simp []; done)))
            · obtain rfl : k = m.cks.length := by omega
              rw [List.take_length] at hb
              have hbt : b = true := by
               rw [hb, decide_eq_true_iff]
               cases mv with
               | true => exact .inl rfl
               | false => exact .inr (hmd3 rfl)
              subst hbt
              clear hb
              (repeat' (first | with_reducible refine W.seq ?_ | with_reducible refine W.block ?_ | ((first | with_reducible refine W.reg ?_ | with_reducible refine W.skip ?_ | with_reducible refine W.exit ?_ | with_reducible refine W.ret ?_ | with_reducible refine W.ifc ?_ | ((first | with_reducible refine wG_decE (fun _ hG => ?_) (fun _ hG => ?_) | with_reducible refine wG_decFE (fun _ hG => ?_) (fun _ hG => ?_)) <;> (try simp -dsimp only [hG, decide_true, decide_false, not_true_eq_false, not_false_eq_true]) <;> clear hG)) <;> (try simp -dsimp (disch := first | omega | (simp only [go_sem]; omega)) only [go_sem, seval, Nat.reduceEqDiff, Nat.reduceLeDiff])) | simp -dsimp (disch := first | omega | (simp only [go_sem]; omega)) only [go_sem, seval, Nat.reduceEqDiff, Nat.reduceLeDiff]))
              refine ⟨_, _, ?_, st_leB (by (simp -dsimp (disch := first | omega | (simp only [go_sem]; omega)) only [go_sem, seval, Nat.reduceEqDiff, Nat.reduceLeDiff, hgs] <;> ((repeat' apply And.intro) <;> first | exact VLe.refl _ | (apply vle_int; omega) | (apply vle_int; simp; done) | exact VLe.own _ _ | exact VLe.nilown _ | exact VLe.norm _))) rfl, j + 1, _, _, _, _, by omega, rfl, rfl⟩
              omega
    · obtain rfl : j = l.cks.length := by omega
      rw [List.take_length]
      (repeat' (first | with_reducible refine W.seq ?_ | with_reducible refine W.block ?_ | ((first | with_reducible refine W.reg ?_ | with_reducible refine W.skip ?_ | with_reducible refine W.exit ?_ | with_reducible refine W.ret ?_ | with_reducible refine W.ifc ?_ | (apply wC_P (sanity_ok); (focus (simp -dsimp (disch := first | omega | (simp only [go_sem]; omega)) only [go_sem, seval, Nat.reduceEqDiff, Nat.reduceLeDiff] <;> rfl)); rintro _ rfl) | (apply wC_P (hgone); (focus (simp -dsimp (disch := first | omega | (simp only [go_sem]; omega)) only [go_sem, seval, Nat.reduceEqDiff, Nat.reduceLeDiff] <;> rfl)); rintro _ rfl) | ((first | with_reducible refine wG_decE (fun _ hG => ?_) (fun _ hG => ?_) | with_reducible refine wG_decFE (fun _ hG => ?_) (fun _ hG => ?_)) <;> (try simp -dsimp only [hG, decide_true, decide_false, not_true_eq_false, not_false_eq_true]) <;> clear hG)) <;> (try simp -dsimp (disch := first | omega | (simp only [go_sem]; omega)) only [go_sem, seval, Nat.reduceEqDiff, Nat.reduceLeDiff, eq_self])) | simp -dsimp (disch := first | omega | (simp only [go_sem]; omega)) only [go_sem, seval, Nat.reduceEqDiff, Nat.reduceLeDiff, eq_self]))
      all_goals exact Fin.p rfl (bT (by omega)).symm
end Go.Proofs.Ytbcnnomgfheaoaa
