/-
 Layer 37 (chunk): what the arguments of the statements read as; the statements LotsCutAsSpecified and LotsFallInStep.
 Conditions: none; every input.
-/
import Derived.Test.YtbcnnomgfheaoaaF37w
import Derived.Test.YtbcnnomgfheaoaaEL1
import Derived.JoinedOf
import Derived.Test.YtbcnnomgfheaoaaRows
import Derived.Test.YtbcnnomgfheaoaaF37v
namespace Go.Proofs.Ytbcnnomgfheaoaa
open Go Go.E2 C37
open Go.ChangeShapes Go.WideShapes Go.RowKit
abbrev rI (k : IntKind) : D → Prop := fun d => ∃ n, (Lit.int k n).wf = true ∧ d = .int k n
abbrev rS : D → Prop := fun d => ∃ s : List UInt8, s.length ≤ maxLen ∧ d = .str s
abbrev rT : D → Prop := fun d => ∃ c : Ct, d = eT c
theorem rd3 : Reads Try.prog 3 false (rI .i64) := reads_int (by kernel_rfl)
theorem rd9 : Reads Try.prog 9 false rS := reads_string (by kernel_rfl)
set_option maxRecDepth 100000 in
theorem rd23 : Reads Try.prog 23 false rT :=
 reads_mono (reads_struct (Rs := [rI .i64, rI .i64, rI .i64]) (fs := fieldsOf Try.prog 23) (by kernel_rfl) (lay_of (l := [(0, 3), (1, 3), (2, 3)]) (by kernel_rfl)
  ⟨rfl, rd3, by kernel_rfl, rd3, by kernel_rfl, rd3, trivial⟩) (by kernel_rfl)) (by
  rintro d ⟨parts, hp, rfl⟩
  obtain ⟨_, _, rfl, ⟨a, _, rfl⟩, hp1⟩ := parts_cons hp
  obtain ⟨_, _, rfl, ⟨b, _, rfl⟩, hp2⟩ := parts_cons hp1
  obtain ⟨_, _, rfl, ⟨c, _, rfl⟩, hp3⟩ := parts_cons hp2
  obtain rfl := parts_nil hp3
  exact ⟨⟨a, b, c⟩, rfl⟩)
set_option maxRecDepth 100000 in
theorem rv23 : ReadsV Try.prog 23 rT := readsV_struct (fs := fieldsOf Try.prog 23) (by kernel_rfl) rd23 (fun d ⟨o, e⟩ => ⟨_, e⟩)
theorem own : ownKnob Try.prog.godebug = none := by kernel_rfl
end Go.Proofs.Ytbcnnomgfheaoaa
/-
 Layer 37 (chunk): what the arguments of the statement LotsAreAsSpecified read as; the statement.
 Conditions: none; every input.
-/
namespace Go.Proofs.Ytbcnnomgfheaoaa
open Go Go.E2 C37
open Go.ChangeShapes Go.WideShapes Go.RowKit
end Go.Proofs.Ytbcnnomgfheaoaa
