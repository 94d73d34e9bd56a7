/-
  Layer 24 (link): the statement LinkCatchesUp: whatever the input, it returns true, and the input reads as it did.
  Conditions: none; every input.
-/
import Derived.Test.YtedmmfbebecobaaF24u
import Derived.Test.YtedmmfbebecobaaF24x
import Derived.JoinedOf
namespace Go.Proofs.Ytedmmfbebecobaa
open Go Go.E2 C24
open Go.ChangeShapes Go.WideShapes Go.RowKit
set_option maxRecDepth 100000 in
theorem catches_lifted (os : Os) (started : os.Started) (H : Type) (enc : TypeId × Value → H) :
    ReturnsInHanded {} Try.checked os 7 .any (Rows.linkCatchesUpSpec.pre6 enc Try.prog Try.f7 Rows.linkCatchesUpRow.domain false) (Rows.linkCatchesUpSpec.post enc Try.prog Try.f7 false true false false) := by
  refine returnsInHanded_of_change (C := Try.checked) own started (by kernel_rfl) Try.func7
    (ChangeSpec.witness6 (enc := enc) (C := Try.checked) false ⟨#[], #[.slice none 0 0], []⟩ 8 (by kernel_rfl) (by kernel_rfl) (by kernel_rfl) (by kernel_rfl)) ?_
  intro W base args ds gs before hval hW _ _
  exact law_contract (Rs := [fun d => ∃ l : List Ac, (∀ a ∈ l, okA a) ∧ d = .list (l.map eA)]) (tb := 4) ⟨_, _, Try.func7, rfl, rfl⟩ rfl lay1 (by kernel_rfl) (by kernel_rfl)
    (fun H ds h => by
      match ds, h with
      | [d1], _ => exact ⟨rfl, rfl, rfl⟩)
    (call1 catches_ok) hval hW
theorem catches_said : Rows.LinkCatchesUpSaid :=
  OpenClaim.holds_of_wide 7 Try.f7 rfl rfl rfl rfl rfl rfl rfl ⟨rfl, rfl, rfl, rfl, rfl⟩ rfl rfl rfl rfl rfl (by kernel_rfl) Try.func7 (by kernel_rfl)
    (of_decide_eq_true (by kernel_rfl)) (by unfold Func.isWrapper; first | (rw [if_pos (by decide +kernel)]; kernel_rfl) | (rw [if_neg (by decide +kernel)]; exact ⟨rfl, rfl⟩))
    (fun os started H enc _ => catches_lifted os started H enc)
end Go.Proofs.Ytedmmfbebecobaa
