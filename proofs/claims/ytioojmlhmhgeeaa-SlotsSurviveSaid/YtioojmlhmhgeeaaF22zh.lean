/-
 Layer 22 (slots): the statement SlotsSurvive.
 Conditions: none; every input.
-/
import Derived.Test.YtioojmlhmhgeeaaF22zg
import Derived.Test.YtioojmlhmhgeeaaF22zf
namespace Go.Proofs.Ytioojmlhmhgeeaa
open Go Go.E2 C22
open Go.ChangeShapes Go.WideShapes Go.RowKit
theorem laySv : LayV Try.prog [22] [rQ] := ⟨rv22', trivial⟩
theorem callSv : ∀ xs, Parts [rQ] xs → CallP Try.prog f_quietuslaw22_SlotsSurvive xs (· = .d (.bool true)) := by
 intro xs hp
 obtain ⟨_, _, rfl, ⟨l, hl, rfl⟩, hp1⟩ := parts_cons hp
 obtain rfl := parts_nil hp1
 exact survive_ok l hl
set_option maxRecDepth 100000 in
theorem survive_lifted (os : Os) (started : os.Started) (H : Type) (enc : TypeId × Value → H) :
 ReturnsInHanded {} Try.checked os 8 .any (Rows.slotsSurviveSpec.pre6 enc Try.prog Try.f8 Rows.slotsSurviveRow.domain false) (Rows.slotsSurviveSpec.post enc Try.prog Try.f8 false true false false) := by
 refine returnsInHanded_of_change (C := Try.checked) own started (by kernel_rfl) Try.func8
  (ChangeSpec.witness6 (enc := enc) (C := Try.checked) false ⟨#[], #[.slice none 0 0], []⟩ 8 (by kernel_rfl) (by kernel_rfl) (by kernel_rfl) (by kernel_rfl)) ?_
 intro W base args ds gs before hval hW _ _
 exact law_contract (Rs := [rQ]) (tb := 4) ⟨_, _, Try.func8, rfl, rfl⟩ rfl laySv (by kernel_rfl) (by kernel_rfl)
  (fun H ds h => by
    match ds, h with
    | [d1], _ => exact ⟨rfl, rfl, rfl⟩)
  callSv hval hW
theorem survive_said : Rows.SlotsSurviveSaid :=
 OpenClaim.holds_of_wide 8 Try.f8 rfl rfl rfl rfl rfl rfl rfl ⟨rfl, rfl, rfl, rfl, rfl⟩ rfl rfl rfl rfl rfl (by kernel_rfl) Try.func8 (by kernel_rfl)
  (of_decide_eq_true (by kernel_rfl)) (by unfold Func.isWrapper; first | (rw [if_pos (by decide +kernel)]; kernel_rfl) | (rw [if_neg (by decide +kernel)]; exact ⟨rfl, rfl⟩))
  (fun os started H enc _ => survive_lifted os started H enc)
end Go.Proofs.Ytioojmlhmhgeeaa
