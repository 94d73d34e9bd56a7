/-
  Layer 24 (link): what a row of acts reads as.
  Conditions: none.
-/
import Derived.Test.YtedmmfbebecobaaF24o
import Derived.Test.YtedmmfbebecobaaF24t
namespace Go.Proofs.Ytedmmfbebecobaa
open Go Go.E2 C24
theorem rd65 : Reads Try.prog 65 false (fun d => ∃ a : Ac, okA a ∧ d = eA a) :=
  reads_mono (reads_struct (Rs := [rI .u8, rI .u8]) (fs := fieldsOf Try.prog 65) (by kernel_rfl) (lay_of (l := [(0, 5), (1, 5)]) (by kernel_rfl)
    ⟨rfl, rd5, by kernel_rfl, rd5, trivial⟩) (by kernel_rfl)) (by
    rintro d ⟨parts, hp, rfl⟩
    obtain ⟨_, _, rfl, ⟨a, ha, rfl⟩, hp1⟩ := parts_cons hp
    obtain ⟨_, _, rfl, ⟨b, hb, rfl⟩, hp2⟩ := parts_cons hp1
    obtain rfl := parts_nil hp2
    exact ⟨⟨a, b⟩, ⟨wf_u8 ha, wf_u8 hb⟩, rfl⟩)
theorem rv59 : ReadsV Try.prog 59 (fun d => ∃ l : List Ac, (∀ a ∈ l, okA a) ∧ d = .list (l.map eA)) :=
  readsV_mono (readsV_slice (e := 65) (sz := 2) (by kernel_rfl) (by kernel_rfl) (by decide) rd65) (by
    rintro d ⟨es, h, _, _, rfl⟩
    obtain ⟨l, hl, rfl⟩ := exists_map h
    exact ⟨l, hl, rfl⟩)
theorem lay1 : LayV Try.prog [59] [fun d => ∃ l : List Ac, (∀ a ∈ l, okA a) ∧ d = .list (l.map eA)] := ⟨rv59, trivial⟩
theorem call1 {g : FuncId} (h : ∀ (l : List Ac), (∀ a ∈ l, okA a) → CallP Try.prog g [.list (l.map eA)] (· = .d (.bool true))) : ∀ xs, Parts [fun d => ∃ l : List Ac, (∀ a ∈ l, okA a) ∧ d = .list (l.map eA)] xs → CallP Try.prog g xs (· = .d (.bool true)) := by
  intro xs hp
  obtain ⟨_, _, rfl, ⟨l, hl, rfl⟩, hp1⟩ := parts_cons hp
  obtain rfl := parts_nil hp1
  exact h l hl
end Go.Proofs.Ytedmmfbebecobaa
