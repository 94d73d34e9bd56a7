/-
  Layer 42 (cache): for every room and every list of operations, an item stays as it was unless it may go.
  Conditions: none; every input.
-/
import Derived.Test.YtpooocblijlabaaF42m
import Derived.Test.YtpooocblijlabaaF42r
import Derived.JoinedOf
namespace Go.Proofs.Ytpooocblijlabaa
open Go Go.E2 C42
open Go.ChangeShapes Go.WideShapes Go.RowKit
set_option maxRecDepth 100000 in
theorem keeps_lifted (os : Os) (started : os.Started) (H : Type) (enc : TypeId × Value → H) :
    ReturnsInHanded {} Try.checked os 7 .any (Rows.cacheKeepsSpec.pre6 enc Try.prog Try.f7 Rows.cacheKeepsRow.domain false) (Rows.cacheKeepsSpec.post enc Try.prog Try.f7 false true false false) := by
  refine returnsInHanded_of_change (C := Try.checked) own started (by kernel_rfl) Try.func7
    (ChangeSpec.witness6 (enc := enc) (C := Try.checked) false ⟨#[], #[.int .i64 0, .slice none 0 0], []⟩ 8 (by kernel_rfl) (by kernel_rfl) (by kernel_rfl) (by kernel_rfl)) ?_
  intro W base args ds gs before hval hW _ _
  exact law_contract (Rs := [rI .i64, fun d => ∃ l : List C42.Op, (∀ o ∈ l, okO o) ∧ d = .list (l.map eO)]) (tb := 4) ⟨_, _, Try.func7, rfl, rfl⟩ rfl lay2 (by kernel_rfl) (by kernel_rfl)
    (fun H ds h => by
      match ds, h with
      | [d1, d2], _ => exact ⟨rfl, rfl, rfl⟩)
    (call2 fun room l _ hl => keeps_ok room l fun o ho => ⟨(hl o ho).1, (hl o ho).2.1, (hl o ho).2.2⟩) hval hW
theorem keeps_said : Rows.CacheKeepsSaid :=
  OpenClaim.holds_of_wide 7 Try.f7 rfl rfl rfl rfl rfl rfl rfl ⟨rfl, rfl, rfl, rfl, rfl⟩ rfl rfl rfl rfl rfl (by kernel_rfl) Try.func7 (by kernel_rfl)
    (of_decide_eq_true (by kernel_rfl)) (by unfold Func.isWrapper; first | (rw [if_pos (by decide +kernel)]; kernel_rfl) | (rw [if_neg (by decide +kernel)]; exact ⟨rfl, rfl⟩))
    (fun os started H enc _ => keeps_lifted os started H enc)
end Go.Proofs.Ytpooocblijlabaa
