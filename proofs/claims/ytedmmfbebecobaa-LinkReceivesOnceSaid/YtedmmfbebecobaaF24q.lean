/-
  Layer 24 (link): the statement LinkReceivesOnce: whatever the input, it returns true, and the input reads as it did.
  Conditions: none; every input.
-/
import Derived.Test.YtedmmfbebecobaaF24o
import Derived.Test.YtedmmfbebecobaaF24n
import Derived.JoinedOf
namespace Go.Proofs.Ytedmmfbebecobaa
open Go Go.E2 C24
open Go.ChangeShapes Go.WideShapes Go.RowKit
set_option maxRecDepth 100000 in
theorem once_lifted (os : Os) (started : os.Started) (H : Type) (enc : TypeId × Value → H) :
    ReturnsInHanded {} Try.checked os 4 .any (Rows.linkReceivesOnceSpec.pre6 enc Try.prog Try.f4 Rows.linkReceivesOnceRow.domain false) (Rows.linkReceivesOnceSpec.post enc Try.prog Try.f4 false true false false) := by
  refine returnsInHanded_of_change (C := Try.checked) own started (by kernel_rfl) Try.func4
    (ChangeSpec.witness6 (enc := enc) (C := Try.checked) false ⟨#[], #[.agg #[.int .i64 0, .slice none 0 0], .agg #[.bool false, .int .i64 0, .string .empty]], []⟩ 8 (by kernel_rfl) (by kernel_rfl) (by kernel_rfl) (by kernel_rfl)) ?_
  intro W base args ds gs before hval hW _ _
  exact law_contract (Rs := [fun d => ∃ i : In, d = eI i, fun d => ∃ f : Fr, True ∧ d = eF f]) (tb := 4) ⟨_, _, Try.func4, rfl, rfl⟩ rfl lay2 (by kernel_rfl) (by kernel_rfl)
    (fun H ds h => by
      match ds, h with
      | [d1, d2], _ => exact ⟨rfl, rfl, rfl⟩)
    (call2 once_ok) hval hW
theorem once_said : Rows.LinkReceivesOnceSaid :=
  OpenClaim.holds_of_wide 4 Try.f4 rfl rfl rfl rfl rfl rfl rfl ⟨rfl, rfl, rfl, rfl, rfl⟩ rfl rfl rfl rfl rfl (by kernel_rfl) Try.func4 (by kernel_rfl)
    (of_decide_eq_true (by kernel_rfl)) (by unfold Func.isWrapper; first | (rw [if_pos (by decide +kernel)]; kernel_rfl) | (rw [if_neg (by decide +kernel)]; exact ⟨rfl, rfl⟩))
    (fun os started H enc _ => once_lifted os started H enc)
end Go.Proofs.Ytedmmfbebecobaa
