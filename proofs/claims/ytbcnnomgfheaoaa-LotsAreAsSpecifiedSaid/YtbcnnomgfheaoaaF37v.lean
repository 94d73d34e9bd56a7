/-
 Layer 37 (chunk), continued: the law LotsAreAsSpecified.
 Conditions: of each contract as it says.
-/
import Derived.Test.YtbcnnomgfheaoaaF37u
namespace Go.Proofs.Ytbcnnomgfheaoaa
open Go Go.E2 C37
set_option linter.unusedSimpArgs false
set_option maxHeartbeats 4000000
def bigL (l : Lt) : Prop := l.cks.length ≤ 100000 ∧ l.obs.length ≤ 100000 ∧ ∀ o ∈ l.obs, o.chunks.length ≤ 100000
theorem big_zero : bigL ⟨0, [], []⟩ := ⟨by simp, by simp, by simp⟩
theorem few_small {l : Lt} (h : fewL l 40) : smallL l := ⟨by have := h.1; omega, by have := h.2.1; omega, fun o ho => by have := h.2.2 o ho; omega⟩
theorem small_big {l : Lt} (h : smallL l) : bigL l := ⟨by have := h.1; omega, by have := h.2.1; omega, h.2.2⟩
theorem putCs_ids (cls : Str) : ∀ (st : Int × List Ck) (ss : List Str), (putCs cls st ss).2.length = ss.length
 | _, [] => rfl
 | st, s :: ss => by simp only [putCs, List.length_cons, putCs_ids cls _ ss]
theorem mem_insO {x y : Ob} {l : List Ob} (h : y ∈ insO x l) : y = x ∨ y ∈ l := by
 unfold insO at h
 rcases List.mem_append.1 h with h | h
 · exact .inr (List.mem_of_mem_take h)
 · rcases List.mem_cons.1 h with h | h
   · exact .inl h
   · exact .inr (List.mem_of_mem_drop h)
theorem addL_big {l : Lt} {id : Int} {cls : Str} {parts : List Str} (hl : ∀ o ∈ l.obs, o.chunks.length ≤ 100000) (hp : parts.length ≤ 100000) : bigL (addL l id cls parts).1 := by
 unfold addL
 dsimp only
 split
 · exact big_zero
 · rename_i h
   refine ⟨by simp only; omega, by simp only; omega, fun o ho => ?_⟩
   rcases mem_insO ho with rfl | h2
   · simp only; rw [putCs_ids]; exact hp
   · exact hl o h2
theorem without_big {l : Lt} (h : smallL l) (id : Int) : bigL (without l id).1 ∧ (without l id).2.length ≤ 100000 ∧ ∀ o ∈ (without l id).1.obs, o.chunks.length ≤ 100000 := by
 have h1 := h.1
 have h2 := h.2.1
 have hf : ∀ o ∈ (without l id).1.obs, o.chunks.length ≤ 100000 := fun o ho => h.2.2 o (List.mem_filter.1 ho).1
 refine ⟨⟨?_, ?_, hf⟩, ?_, hf⟩
 · have := keepC_len (l.obs.filter fun o => decide (o.id ≠ id)) l.cks
   exact Nat.le_trans this (by omega)
 · exact Nat.le_trans (List.length_filter_le _ _) (by omega)
 · show ((l.cks.filter _).map _).length ≤ 100000
   rw [List.length_map]
   exact Nat.le_trans (List.length_filter_le _ _) (by omega)
theorem putR_big {l : Lt} (h : smallL l) (c : Ct) (id : Int) (cls data : Str) (hd : data.length ≤ 65536) : bigL (putR l c id cls data).1 := by
 unfold putR
 split
 · split
   · exact big_zero
   · split
     · exact big_zero
     · split
       · exact big_zero
       · refine addL_big h.2.2 ?_
         unfold cutR
         split
         · split
           · exact Nat.zero_le _
           · have := cutN_len c data data.length 0 0; unfold cutL; simp only; omega
         · exact Nat.zero_le _
 · exact big_zero
theorem dropR_big {l : Lt} (h : smallL l) (id : Int) : bigL (dropR l id).1 ∧ (dropR l id).2.1.length ≤ 100000 := by
 unfold dropR
 split
 · split
   · exact ⟨(without_big h id).1, (without_big h id).2.1⟩
   · exact ⟨big_zero, by simp⟩
 · exact ⟨big_zero, by simp⟩
theorem moveR_big {l : Lt} (h : smallL l) (id : Int) (cls : Str) : bigL (moveR l id cls).1 ∧ (moveR l id cls).2.1.length ≤ 100000 := by
 unfold moveR
 split
 · split
   · exact ⟨big_zero, by simp⟩
   · rename_i o ho
     have hm := List.mem_of_find?_eq_some ho
     split
     · exact ⟨big_zero, by simp⟩
     · split
       · exact ⟨small_big h, by simp⟩
       · dsimp only
         split
         · exact ⟨big_zero, by simp⟩
         · exact ⟨addL_big (without_big h id).2.2 (by unfold textsOf; rw [List.length_map]; exact h.2.2 o hm), (without_big h id).2.1⟩
 · exact ⟨big_zero, by simp⟩
open Classical in
theorem law3_ok (l : Lt) (c : Ct) (id : Int) (cls data : Str) : CallP Try.prog f_quietuslaw37_LotsAreAsSpecified [eL l, eT c, .int .i64 id, .agg [.str cls, .str data]] (· = .d (.bool true)) := by
 refine callP_of_W fol quietuslaw37_LotsAreAsSpecified_cp ?_
 by_cases hf : fewL l 40
 · have hs := few_small hf
   by_cases hd : data.length ≤ 400
   · have hd2 : ¬ (400 < data.length) := by omega
     have hp := putR_big hs c id cls data (by omega)
     obtain ⟨hr1, hr2⟩ := dropR_big hs id
     obtain ⟨hm1, hm2⟩ := moveR_big hs id cls
     simp -dsimp (disch := first | omega | (simp only [go_sem]; omega)) only [go_sem, seval, Nat.reduceEqDiff, Nat.reduceLeDiff, hf]
     (repeat' (first | with_reducible refine W.seq ?_ | with_reducible refine W.block ?_ | ((first | with_reducible refine W.reg ?_ | with_reducible refine W.skip ?_ | with_reducible refine W.exit ?_ | with_reducible refine W.ret ?_ | with_reducible refine W.ifc ?_ | (apply wC_P (few_ok l); (focus (simp -dsimp (disch := first | omega | (simp only [go_sem]; omega)) only [go_sem, seval, Nat.reduceEqDiff, Nat.reduceLeDiff, hf] <;> rfl)); rintro _ rfl; try simp -dsimp (disch := first | omega | (simp only [go_sem]; omega)) only [go_sem, seval, Nat.reduceEqDiff, Nat.reduceLeDiff, hf]) | (apply wC_P (sanity_ok); (focus (simp -dsimp (disch := first | omega | (simp only [go_sem]; omega)) only [go_sem, seval, Nat.reduceEqDiff, Nat.reduceLeDiff] <;> rfl)); rintro _ rfl) | (apply wC_P (Get_ok l id hs); (focus (simp -dsimp (disch := first | omega | (simp only [go_sem]; omega)) only [go_sem, seval, Nat.reduceEqDiff, Nat.reduceLeDiff] <;> rfl)); rintro _ rfl) | (apply wC_P (Put_ok l c id cls data hs); (focus (simp -dsimp (disch := first | omega | (simp only [go_sem]; omega)) only [go_sem, seval, Nat.reduceEqDiff, Nat.reduceLeDiff] <;> rfl)); rintro _ rfl) | (apply wC_P (Drop_ok l id hs); (focus (simp -dsimp (disch := first | omega | (simp only [go_sem]; omega)) only [go_sem, seval, Nat.reduceEqDiff, Nat.reduceLeDiff] <;> rfl)); rintro _ rfl) | (apply wC_P (Move_ok l id cls hs); (focus (simp -dsimp (disch := first | omega | (simp only [go_sem]; omega)) only [go_sem, seval, Nat.reduceEqDiff, Nat.reduceLeDiff] <;> rfl)); rintro _ rfl) | (apply wC_P (refGet_ok l id hs); (focus (simp -dsimp (disch := first | omega | (simp only [go_sem]; omega)) only [go_sem, seval, Nat.reduceEqDiff, Nat.reduceLeDiff] <;> rfl)); rintro _ rfl) | (apply wC_P (refPut_ok l c id cls data hs); (focus (simp -dsimp (disch := first | omega | (simp only [go_sem]; omega)) only [go_sem, seval, Nat.reduceEqDiff, Nat.reduceLeDiff, eCh] <;> rfl)); rintro _ rfl; try simp -dsimp (disch := first | omega | (simp only [go_sem]; omega)) only [go_sem, seval, Nat.reduceEqDiff, Nat.reduceLeDiff, eCh]) | (apply wC_P (refDrop_ok l id hs); (focus (simp -dsimp (disch := first | omega | (simp only [go_sem]; omega)) only [go_sem, seval, Nat.reduceEqDiff, Nat.reduceLeDiff, eCh] <;> rfl)); rintro _ rfl; try simp -dsimp (disch := first | omega | (simp only [go_sem]; omega)) only [go_sem, seval, Nat.reduceEqDiff, Nat.reduceLeDiff, eCh]) | (apply wC_P (refMove_ok l id cls hs); (focus (simp -dsimp (disch := first | omega | (simp only [go_sem]; omega)) only [go_sem, seval, Nat.reduceEqDiff, Nat.reduceLeDiff, eCh] <;> rfl)); rintro _ rfl; try simp -dsimp (disch := first | omega | (simp only [go_sem]; omega)) only [go_sem, seval, Nat.reduceEqDiff, Nat.reduceLeDiff, eCh]) | (apply wC_P (same_ok (putR l c id cls data).1 hp); (focus (simp -dsimp (disch := first | omega | (simp only [go_sem]; omega)) only [go_sem, seval, Nat.reduceEqDiff, Nat.reduceLeDiff] <;> rfl)); rintro _ rfl) | (apply wC_P (same_ok (dropR l id).1 hr1); (focus (simp -dsimp (disch := first | omega | (simp only [go_sem]; omega)) only [go_sem, seval, Nat.reduceEqDiff, Nat.reduceLeDiff] <;> rfl)); rintro _ rfl) | (apply wC_P (same_ok (moveR l id cls).1 hm1); (focus (simp -dsimp (disch := first | omega | (simp only [go_sem]; omega)) only [go_sem, seval, Nat.reduceEqDiff, Nat.reduceLeDiff] <;> rfl)); rintro _ rfl) | (apply wC_P (sameI_ok (dropR l id).2.1 hr2); (focus (simp -dsimp (disch := first | omega | (simp only [go_sem]; omega)) only [go_sem, seval, Nat.reduceEqDiff, Nat.reduceLeDiff] <;> rfl)); rintro _ rfl) | (apply wC_P (sameI_ok (moveR l id cls).2.1 hm2); (focus (simp -dsimp (disch := first | omega | (simp only [go_sem]; omega)) only [go_sem, seval, Nat.reduceEqDiff, Nat.reduceLeDiff] <;> rfl)); rintro _ rfl) | (apply wC_P (Valid_ok l hs); (focus (simp -dsimp (disch := first | omega | (simp only [go_sem]; omega)) only [go_sem, seval, Nat.reduceEqDiff, Nat.reduceLeDiff] <;> rfl)); rintro _ rfl) | (apply wC_P (refValid_ok l hs); (focus (simp -dsimp (disch := first | omega | (simp only [go_sem]; omega)) only [go_sem, seval, Nat.reduceEqDiff, Nat.reduceLeDiff] <;> rfl)); rintro _ rfl) | ((first | with_reducible refine wG_decE (fun _ hG => ?_) (fun _ hG => ?_) | with_reducible refine wG_decFE (fun _ hG => ?_) (fun _ hG => ?_)) <;> (try simp -dsimp only [hG, decide_true, decide_false, not_true_eq_false, not_false_eq_true]) <;> clear hG)) <;> (try simp -dsimp (disch := first | omega | (simp only [go_sem]; omega)) only [go_sem, seval, Nat.reduceEqDiff, Nat.reduceLeDiff, hf, hd2, eq_self])) | simp -dsimp (disch := first | omega | (simp only [go_sem]; omega)) only [go_sem, seval, Nat.reduceEqDiff, Nat.reduceLeDiff, hf, hd2, eq_self]))
     all_goals first | (exfalso; omega) | exact Fin.p rfl rfl | trace_state
   · simp -dsimp (disch := first | omega | (simp only [go_sem]; omega)) only [go_sem, seval, Nat.reduceEqDiff, Nat.reduceLeDiff, hf]
     (repeat' (first | with_reducible refine W.seq ?_ | with_reducible refine W.block ?_ | ((first | with_reducible refine W.reg ?_ | with_reducible refine W.skip ?_ | with_reducible refine W.exit ?_ | with_reducible refine W.ret ?_ | with_reducible refine W.ifc ?_ | (apply wC_P (few_ok l); (focus (simp -dsimp (disch := first | omega | (simp only [go_sem]; omega)) only [go_sem, seval, Nat.reduceEqDiff, Nat.reduceLeDiff, hf] <;> rfl)); rintro _ rfl; try simp -dsimp (disch := first | omega | (simp only [go_sem]; omega)) only [go_sem, seval, Nat.reduceEqDiff, Nat.reduceLeDiff, hf]) | (apply wC_P (sanity_ok); (focus (simp -dsimp (disch := first | omega | (simp only [go_sem]; omega)) only [go_sem, seval, Nat.reduceEqDiff, Nat.reduceLeDiff] <;> rfl)); rintro _ rfl) | ((first | with_reducible refine wG_decE (fun _ hG => ?_) (fun _ hG => ?_) | with_reducible refine wG_decFE (fun _ hG => ?_) (fun _ hG => ?_)) <;> (try simp -dsimp only [hG, decide_true, decide_false, not_true_eq_false, not_false_eq_true]) <;> clear hG)) <;> (try simp -dsimp (disch := first | omega | (simp only [go_sem]; omega)) only [go_sem, seval, Nat.reduceEqDiff, Nat.reduceLeDiff, hf])) | simp -dsimp (disch := first | omega | (simp only [go_sem]; omega)) only [go_sem, seval, Nat.reduceEqDiff, Nat.reduceLeDiff, hf]))
     all_goals first | (exfalso; omega) | exact Fin.p rfl rfl
 · simp -dsimp (disch := first | omega | (simp only [go_sem]; omega)) only [go_sem, seval, Nat.reduceEqDiff, Nat.reduceLeDiff, hf]
   (repeat' (first | with_reducible refine W.seq ?_ | with_reducible refine W.block ?_ | ((first | with_reducible refine W.reg ?_ | with_reducible refine W.skip ?_ | with_reducible refine W.exit ?_ | with_reducible refine W.ret ?_ | with_reducible refine W.ifc ?_ | (apply wC_P (few_ok l); (focus (simp -dsimp (disch := first | omega | (simp only [go_sem]; omega)) only [go_sem, seval, Nat.reduceEqDiff, Nat.reduceLeDiff, hf] <;> rfl)); rintro _ rfl; try simp -dsimp (disch := first | omega | (simp only [go_sem]; omega)) only [go_sem, seval, Nat.reduceEqDiff, Nat.reduceLeDiff, hf]) | (apply wC_P (sanity_ok); (focus (simp -dsimp (disch := first | omega | (simp only [go_sem]; omega)) only [go_sem, seval, Nat.reduceEqDiff, Nat.reduceLeDiff] <;> rfl)); rintro _ rfl) | ((first | with_reducible refine wG_decE (fun _ hG => ?_) (fun _ hG => ?_) | with_reducible refine wG_decFE (fun _ hG => ?_) (fun _ hG => ?_)) <;> (try simp -dsimp only [hG, decide_true, decide_false, not_true_eq_false, not_false_eq_true]) <;> clear hG)) <;> (try simp -dsimp (disch := first | omega | (simp only [go_sem]; omega)) only [go_sem, seval, Nat.reduceEqDiff, Nat.reduceLeDiff, hf])) | simp -dsimp (disch := first | omega | (simp only [go_sem]; omega)) only [go_sem, seval, Nat.reduceEqDiff, Nat.reduceLeDiff, hf]))
   all_goals first | (exfalso; omega) | exact Fin.p rfl rfl
end Go.Proofs.Ytbcnnomgfheaoaa
