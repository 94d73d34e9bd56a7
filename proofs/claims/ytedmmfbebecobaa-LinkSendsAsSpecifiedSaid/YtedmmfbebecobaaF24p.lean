/-
  Layer 24 (link): the statement LinkSendsAsSpecified: whatever the input, it returns true, and the input reads as it did.
  Conditions: none; every input.
-/
import Derived.Test.YtedmmfbebecobaaF24o
import Derived.Test.YtedmmfbebecobaaF24m
import Derived.JoinedOf
namespace Go.Proofs.Ytedmmfbebecobaa
open Go Go.E2 C24
open Go.ChangeShapes Go.WideShapes Go.RowKit
set_option maxRecDepth 100000 in
theorem sends_lifted (os : Os) (started : os.Started) (H : Type) (enc : TypeId × Value → H) :
    ReturnsInHanded {} Try.checked os 3 .any (Rows.linkSendsAsSpecifiedSpec.pre6 enc Try.prog Try.f3 Rows.linkSendsAsSpecifiedRow.domain false) (Rows.linkSendsAsSpecifiedSpec.post enc Try.prog Try.f3 false true false false) := by
  refine returnsInHanded_of_change (C := Try.checked) own started (by kernel_rfl) Try.func3
    (ChangeSpec.witness6 (enc := enc) (C := Try.checked) false ⟨#[], #[.agg #[.int .i64 0, .int .i64 0, .string .empty, .slice none 0 0], .string .empty, .int .i64 0], []⟩ 8 (by kernel_rfl) (by kernel_rfl) (by kernel_rfl) (by kernel_rfl)) ?_
  intro W base args ds gs before hval hW _ _
  exact law_contract (Rs := [fun d => ∃ o : Out, d = eO o, rS, rI .i64]) (tb := 4) ⟨_, _, Try.func3, rfl, rfl⟩ rfl lay3 (by kernel_rfl) (by kernel_rfl)
    (fun H ds h => by
      match ds, h with
      | [d1, d2, d3], _ => exact ⟨rfl, rfl, rfl⟩)
    (call3 sends_ok) hval hW
theorem sends_said : Rows.LinkSendsAsSpecifiedSaid :=
  OpenClaim.holds_of_wide 3 Try.f3 rfl rfl rfl rfl rfl rfl rfl ⟨rfl, rfl, rfl, rfl, rfl⟩ rfl rfl rfl rfl rfl (by kernel_rfl) Try.func3 (by kernel_rfl)
    (of_decide_eq_true (by kernel_rfl)) (by unfold Func.isWrapper; first | (rw [if_pos (by decide +kernel)]; kernel_rfl) | (rw [if_neg (by decide +kernel)]; exact ⟨rfl, rfl⟩))
    (fun os started H enc _ => sends_lifted os started H enc)
end Go.Proofs.Ytedmmfbebecobaa
