/-
  Layer 37 (chunk): what the arguments of the statements read as; the statements LotsCutAsSpecified and LotsFallInStep.
  Conditions: none; every input.
-/
import Derived.Test.YtbcnnomgfheaoaaF37w
import Derived.Test.YtbcnnomgfheaoaaEL1
import Derived.JoinedOf
import Derived.Test.YtbcnnomgfheaoaaRows
namespace Go.Proofs.Ytbcnnomgfheaoaa
open Go Go.E2 C37
open Go.ChangeShapes Go.WideShapes Go.RowKit
abbrev rI (k : IntKind) : D → Prop := fun d => ∃ n, (Lit.int k n).wf = true ∧ d = .int k n
abbrev rS : D → Prop := fun d => ∃ s : List UInt8, s.length ≤ maxLen ∧ d = .str s
abbrev rT : D → Prop := fun d => ∃ c : Ct, d = eT c
theorem rd3 : Reads Try.prog 3 false (rI .i64) := reads_int (by kernel_rfl)
theorem rv9 : ReadsV Try.prog 9 rS := readsV_string (by kernel_rfl)
set_option maxRecDepth 100000 in
theorem rd23 : Reads Try.prog 23 false rT :=
  reads_mono (reads_struct (Rs := [rI .i64, rI .i64, rI .i64]) (fs := fieldsOf Try.prog 23) (by kernel_rfl) (lay_of (l := [(0, 3), (1, 3), (2, 3)]) (by kernel_rfl)
    ⟨rfl, rd3, by kernel_rfl, rd3, by kernel_rfl, rd3, trivial⟩) (by kernel_rfl)) (by
    rintro d ⟨parts, hp, rfl⟩
    obtain ⟨_, _, rfl, ⟨a, _, rfl⟩, hp1⟩ := parts_cons hp
    obtain ⟨_, _, rfl, ⟨b, _, rfl⟩, hp2⟩ := parts_cons hp1
    obtain ⟨_, _, rfl, ⟨c, _, rfl⟩, hp3⟩ := parts_cons hp2
    obtain rfl := parts_nil hp3
    exact ⟨⟨a, b, c⟩, rfl⟩)
set_option maxRecDepth 100000 in
theorem rv23 : ReadsV Try.prog 23 rT := readsV_struct (fs := fieldsOf Try.prog 23) (by kernel_rfl) rd23 (fun d ⟨o, e⟩ => ⟨_, e⟩)
theorem lay1 : LayV Try.prog [23, 9] [rT, rS] := ⟨rv23, rv9, trivial⟩
theorem call1 {f : FuncId} (h : ∀ (c : Ct) (s : Str), CallP Try.prog f [eT c, .str s] (· = .d (.bool true))) : ∀ xs, Parts [rT, rS] xs → CallP Try.prog f xs (· = .d (.bool true)) := by
  intro xs hp
  obtain ⟨_, _, rfl, ⟨c, rfl⟩, hp1⟩ := parts_cons hp
  obtain ⟨_, _, rfl, ⟨s, _, rfl⟩, hp2⟩ := parts_cons hp1
  obtain rfl := parts_nil hp2
  exact h c s
theorem own : ownKnob Try.prog.godebug = none := by kernel_rfl
set_option maxRecDepth 100000 in
theorem cut_lifted (os : Os) (started : os.Started) (H : Type) (enc : TypeId × Value → H) :
    ReturnsInHanded {} Try.checked os 3 .any (Rows.lotsCutAsSpecifiedSpec.pre6 enc Try.prog Try.f3 Rows.lotsCutAsSpecifiedRow.domain false) (Rows.lotsCutAsSpecifiedSpec.post enc Try.prog Try.f3 false true false false) := by
  refine returnsInHanded_of_change (C := Try.checked) own started (by kernel_rfl) Try.func3
    (ChangeSpec.witness6 (enc := enc) (C := Try.checked) false ⟨#[], #[.agg #[.int .i64 0, .int .i64 0, .int .i64 0], .string ⟨#[]⟩], []⟩ 8 (by kernel_rfl) (by kernel_rfl) (by kernel_rfl) (by kernel_rfl)) ?_
  intro W base args ds gs before hval hW _ _
  exact law_contract (Rs := [rT, rS]) (tb := 4) ⟨_, _, Try.func3, rfl, rfl⟩ rfl lay1 (by kernel_rfl) (by kernel_rfl)
    (fun H ds h => by
      match ds, h with
      | [d1, d2], _ => exact ⟨rfl, rfl, rfl⟩)
    (call1 law1_ok) hval hW
theorem cut_said : Rows.LotsCutAsSpecifiedSaid :=
  OpenClaim.holds_of_wide 3 Try.f3 rfl rfl rfl rfl rfl rfl rfl ⟨rfl, rfl, rfl, rfl, rfl⟩ rfl rfl rfl rfl rfl (by kernel_rfl) Try.func3 (by kernel_rfl)
    (of_decide_eq_true (by kernel_rfl)) (by unfold Func.isWrapper; first | (rw [if_pos (by decide +kernel)]; kernel_rfl) | (rw [if_neg (by decide +kernel)]; exact ⟨rfl, rfl⟩))
    (fun os started H enc _ => cut_lifted os started H enc)
end Go.Proofs.Ytbcnnomgfheaoaa
