/-
  Layer 37 (chunk): what the arguments of the statements read as; the statements LotsCutAsSpecified and LotsFallInStep.
  Conditions: none; every input.
-/
import Derived.Test.YtbcnnomgfheaoaaF37w
import Derived.Test.YtbcnnomgfheaoaaEL1
import Derived.JoinedOf
import Derived.Test.YtbcnnomgfheaoaaRows
namespace Go.Proofs.Ytbcnnomgfheaoaa
open Go Go.E2 C37
open Go.ChangeShapes Go.WideShapes Go.RowKit
abbrev rI (k : IntKind) : D → Prop := fun d => ∃ n, (Lit.int k n).wf = true ∧ d = .int k n
abbrev rS : D → Prop := fun d => ∃ s : List UInt8, s.length ≤ maxLen ∧ d = .str s
abbrev rT : D → Prop := fun d => ∃ c : Ct, d = eT c
theorem rd3 : Reads Try.prog 3 false (rI .i64) := reads_int (by kernel_rfl)
theorem rv9 : ReadsV Try.prog 9 rS := readsV_string (by kernel_rfl)
set_option maxRecDepth 100000 in
theorem rd23 : Reads Try.prog 23 false rT :=
  reads_mono (reads_struct (Rs := [rI .i64, rI .i64, rI .i64]) (fs := fieldsOf Try.prog 23) (by kernel_rfl) (lay_of (l := [(0, 3), (1, 3), (2, 3)]) (by kernel_rfl)
    ⟨rfl, rd3, by kernel_rfl, rd3, by kernel_rfl, rd3, trivial⟩) (by kernel_rfl)) (by
    rintro d ⟨parts, hp, rfl⟩
    obtain ⟨_, _, rfl, ⟨a, _, rfl⟩, hp1⟩ := parts_cons hp
    obtain ⟨_, _, rfl, ⟨b, _, rfl⟩, hp2⟩ := parts_cons hp1
    obtain ⟨_, _, rfl, ⟨c, _, rfl⟩, hp3⟩ := parts_cons hp2
    obtain rfl := parts_nil hp3
    exact ⟨⟨a, b, c⟩, rfl⟩)
set_option maxRecDepth 100000 in
theorem rv23 : ReadsV Try.prog 23 rT := readsV_struct (fs := fieldsOf Try.prog 23) (by kernel_rfl) rd23 (fun d ⟨o, e⟩ => ⟨_, e⟩)
theorem lay2 : LayV Try.prog [23, 9, 9, 9] [rT, rS, rS, rS] := ⟨rv23, rv9, rv9, rv9, trivial⟩
theorem call2 {f : FuncId} (h : ∀ (c : Ct) (a b t : Str), CallP Try.prog f [eT c, .str a, .str b, .str t] (· = .d (.bool true))) : ∀ xs, Parts [rT, rS, rS, rS] xs → CallP Try.prog f xs (· = .d (.bool true)) := by
  intro xs hp
  obtain ⟨_, _, rfl, ⟨c, rfl⟩, hp1⟩ := parts_cons hp
  obtain ⟨_, _, rfl, ⟨s, _, rfl⟩, hp2⟩ := parts_cons hp1
  obtain ⟨_, _, rfl, ⟨t, _, rfl⟩, hp3⟩ := parts_cons hp2
  obtain ⟨_, _, rfl, ⟨u, _, rfl⟩, hp4⟩ := parts_cons hp3
  obtain rfl := parts_nil hp4
  exact h c s t u
theorem own : ownKnob Try.prog.godebug = none := by kernel_rfl
set_option maxRecDepth 100000 in
theorem step_lifted (os : Os) (started : os.Started) (H : Type) (enc : TypeId × Value → H) :
    ReturnsInHanded {} Try.checked os 4 .any (Rows.lotsFallInStepSpec.pre6 enc Try.prog Try.f4 Rows.lotsFallInStepRow.domain false) (Rows.lotsFallInStepSpec.post enc Try.prog Try.f4 false true false false) := by
  refine returnsInHanded_of_change (C := Try.checked) own started (by kernel_rfl) Try.func4
    (ChangeSpec.witness6 (enc := enc) (C := Try.checked) false ⟨#[], #[.agg #[.int .i64 0, .int .i64 0, .int .i64 0], .string ⟨#[]⟩, .string ⟨#[]⟩, .string ⟨#[]⟩], []⟩ 8 (by kernel_rfl) (by kernel_rfl) (by kernel_rfl) (by kernel_rfl)) ?_
  intro W base args ds gs before hval hW _ _
  exact law_contract (Rs := [rT, rS, rS, rS]) (tb := 4) ⟨_, _, Try.func4, rfl, rfl⟩ rfl lay2 (by kernel_rfl) (by kernel_rfl)
    (fun H ds h => by
      match ds, h with
      | [d1, d2, d3, d4], _ => exact ⟨rfl, rfl, rfl⟩)
    (call2 law2_ok) hval hW
theorem step_said : Rows.LotsFallInStepSaid :=
  OpenClaim.holds_of_wide 4 Try.f4 rfl rfl rfl rfl rfl rfl rfl ⟨rfl, rfl, rfl, rfl, rfl⟩ rfl rfl rfl rfl rfl (by kernel_rfl) Try.func4 (by kernel_rfl)
    (of_decide_eq_true (by kernel_rfl)) (by unfold Func.isWrapper; first | (rw [if_pos (by decide +kernel)]; kernel_rfl) | (rw [if_neg (by decide +kernel)]; exact ⟨rfl, rfl⟩))
    (fun os started H enc _ => step_lifted os started H enc)
end Go.Proofs.Ytbcnnomgfheaoaa
