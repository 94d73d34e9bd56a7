/-
  Layer 42 (cache): for every room and every list of operations, what is got is what was put last, fresh enough, and not past its last tick.
  Conditions: none; every input.
-/
import Derived.Test.YtpooocblijlabaaF42m
import Derived.Test.YtpooocblijlabaaF42t
import Derived.JoinedOf
namespace Go.Proofs.Ytpooocblijlabaa
open Go Go.E2 C42
open Go.ChangeShapes Go.WideShapes Go.RowKit
set_option maxRecDepth 100000 in
theorem fresh_lifted (os : Os) (started : os.Started) (H : Type) (enc : TypeId × Value → H) :
    ReturnsInHanded {} Try.checked os 6 .any (Rows.cacheIsFreshSpec.pre6 enc Try.prog Try.f6 Rows.cacheIsFreshRow.domain false) (Rows.cacheIsFreshSpec.post enc Try.prog Try.f6 false true false false) := by
  refine returnsInHanded_of_change (C := Try.checked) own started (by kernel_rfl) Try.func6
    (ChangeSpec.witness6 (enc := enc) (C := Try.checked) false ⟨#[], #[.int .i64 0, .slice none 0 0], []⟩ 8 (by kernel_rfl) (by kernel_rfl) (by kernel_rfl) (by kernel_rfl)) ?_
  intro W base args ds gs before hval hW _ _
  exact law_contract (Rs := [rI .i64, fun d => ∃ l : List C42.Op, (∀ o ∈ l, okO o) ∧ d = .list (l.map eO)]) (tb := 4) ⟨_, _, Try.func6, rfl, rfl⟩ rfl lay2 (by kernel_rfl) (by kernel_rfl)
    (fun H ds h => by
      match ds, h with
      | [d1, d2], _ => exact ⟨rfl, rfl, rfl⟩)
    (call2 fun room l _ hl => fresh_ok room l fun o ho => ⟨(hl o ho).1, (hl o ho).2.1, (hl o ho).2.2⟩) hval hW
theorem fresh_said : Rows.CacheIsFreshSaid :=
  OpenClaim.holds_of_wide 6 Try.f6 rfl rfl rfl rfl rfl rfl rfl ⟨rfl, rfl, rfl, rfl, rfl⟩ rfl rfl rfl rfl rfl (by kernel_rfl) Try.func6 (by kernel_rfl)
    (of_decide_eq_true (by kernel_rfl)) (by unfold Func.isWrapper; first | (rw [if_pos (by decide +kernel)]; kernel_rfl) | (rw [if_neg (by decide +kernel)]; exact ⟨rfl, rfl⟩))
    (fun os started H enc _ => fresh_lifted os started H enc)
end Go.Proofs.Ytpooocblijlabaa
