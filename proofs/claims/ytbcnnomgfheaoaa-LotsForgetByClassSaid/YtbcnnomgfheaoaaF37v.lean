/-
 Layer 37 (chunk), continued: the law LotsAreAsSpecified.
 Conditions: of each contract as it says.
-/
import Derived.Test.YtbcnnomgfheaoaaF37u
namespace Go.Proofs.Ytbcnnomgfheaoaa
open Go Go.E2 C37
set_option linter.unusedSimpArgs false
set_option maxHeartbeats 4000000
def bigL (l : Lt) : Prop := l.cks.length ≤ 100000 ∧ l.obs.length ≤ 100000 ∧ ∀ o ∈ l.obs, o.chunks.length ≤ 100000
theorem big_zero : bigL ⟨0, [], []⟩ := ⟨by simp, by simp, by simp⟩
theorem few_small {l : Lt} (h : fewL l 40) : smallL l := ⟨by have := h.1; omega, by have := h.2.1; omega, fun o ho => by have := h.2.2 o ho; omega⟩
theorem small_big {l : Lt} (h : smallL l) : bigL l := ⟨by have := h.1; omega, by have := h.2.1; omega, h.2.2⟩
theorem putCs_ids (cls : Str) : ∀ (st : Int × List Ck) (ss : List Str), (putCs cls st ss).2.length = ss.length
 | _, [] => rfl
 | st, s :: ss => by simp only [putCs, List.length_cons, putCs_ids cls _ ss]
theorem mem_insO {x y : Ob} {l : List Ob} (h : y ∈ insO x l) : y = x ∨ y ∈ l := by
 unfold insO at h
 rcases List.mem_append.1 h with h | h
 · exact .inr (List.mem_of_mem_take h)
 · rcases List.mem_cons.1 h with h | h
   · exact .inl h
   · exact .inr (List.mem_of_mem_drop h)
theorem addL_big {l : Lt} {id : Int} {cls : Str} {parts : List Str} (hl : ∀ o ∈ l.obs, o.chunks.length ≤ 100000) (hp : parts.length ≤ 100000) : bigL (addL l id cls parts).1 := by
 unfold addL
 dsimp only
 split
 · exact big_zero
 · rename_i h
   refine ⟨by simp only; omega, by simp only; omega, fun o ho => ?_⟩
   rcases mem_insO ho with rfl | h2
   · simp only; rw [putCs_ids]; exact hp
   · exact hl o h2
theorem without_big {l : Lt} (h : smallL l) (id : Int) : bigL (without l id).1 ∧ (without l id).2.length ≤ 100000 ∧ ∀ o ∈ (without l id).1.obs, o.chunks.length ≤ 100000 := by
 have h1 := h.1
 have h2 := h.2.1
 have hf : ∀ o ∈ (without l id).1.obs, o.chunks.length ≤ 100000 := fun o ho => h.2.2 o (List.mem_filter.1 ho).1
 refine ⟨⟨?_, ?_, hf⟩, ?_, hf⟩
 · have := keepC_len (l.obs.filter fun o => decide (o.id ≠ id)) l.cks
   exact Nat.le_trans this (by omega)
 · exact Nat.le_trans (List.length_filter_le _ _) (by omega)
 · show ((l.cks.filter _).map _).length ≤ 100000
   rw [List.length_map]
   exact Nat.le_trans (List.length_filter_le _ _) (by omega)
theorem moveR_big {l : Lt} (h : smallL l) (id : Int) (cls : Str) : bigL (moveR l id cls).1 ∧ (moveR l id cls).2.1.length ≤ 100000 := by
 unfold moveR
 split
 · split
   · exact ⟨big_zero, by simp⟩
   · rename_i o ho
     have hm := List.mem_of_find?_eq_some ho
     split
     · exact ⟨big_zero, by simp⟩
     · split
       · exact ⟨small_big h, by simp⟩
       · dsimp only
         split
         · exact ⟨big_zero, by simp⟩
         · exact ⟨addL_big (without_big h id).2.2 (by unfold textsOf; rw [List.length_map]; exact h.2.2 o hm), (without_big h id).2.1⟩
 · exact ⟨big_zero, by simp⟩
end Go.Proofs.Ytbcnnomgfheaoaa
