/-
 Layer 37 (chunk): the statement LotsForgetByClass.
 Conditions: none; every input.
-/
import Derived.Test.YtbcnnomgfheaoaaF37x
import Derived.Test.YtbcnnomgfheaoaaF37z
namespace Go.Proofs.Ytbcnnomgfheaoaa
open Go Go.E2 C37
open Go.ChangeShapes Go.WideShapes Go.RowKit
theorem rv5 : ReadsV Try.prog 5 (rI .u8) := readsV_int (by kernel_rfl)
theorem wf_u8 {n : Int} (h : (Lit.int .u8 n).wf = true) : 0 ≤ n ∧ n ≤ 255 := by simpa [Lit.wf, IntKind.min, IntKind.max, IntKind.signed, IntKind.bits] using h
theorem lay5 : LayV Try.prog [40, 5, 9] [rL, rI .u8, rS] := ⟨rv40, rv5, rv9, trivial⟩
theorem call5 {f : FuncId} (h : ∀ (l : Lt) (p : Int) (_ : 0 ≤ p ∧ p ≤ 255) (cls : Str), CallP Try.prog f [eL l, .int .u8 p, .str cls] (· = .d (.bool true))) : ∀ xs, Parts [rL, rI .u8, rS] xs → CallP Try.prog f xs (· = .d (.bool true)) := by
 intro xs hp
 obtain ⟨_, _, rfl, ⟨l, rfl⟩, hp1⟩ := parts_cons hp
 obtain ⟨_, _, rfl, ⟨n, hn, rfl⟩, hp2⟩ := parts_cons hp1
 obtain ⟨_, _, rfl, ⟨s, _, rfl⟩, hp3⟩ := parts_cons hp2
 obtain rfl := parts_nil hp3
 exact h l n (wf_u8 hn) s
set_option maxRecDepth 100000 in
theorem forget_lifted (os : Os) (started : os.Started) (H : Type) (enc : TypeId × Value → H) :
 ReturnsInHanded {} Try.checked os 7 .any (Rows.lotsForgetByClassSpec.pre6 enc Try.prog Try.f7 Rows.lotsForgetByClassRow.domain false) (Rows.lotsForgetByClassSpec.post enc Try.prog Try.f7 false true false false) := by
 refine returnsInHanded_of_change (C := Try.checked) own started (by kernel_rfl) Try.func7
  (ChangeSpec.witness6 (enc := enc) (C := Try.checked) false ⟨#[], #[.agg #[.int .i64 0, .slice none 0 0, .slice none 0 0], .int .u8 0, .string ⟨#[]⟩], []⟩ 8 (by kernel_rfl) (by kernel_rfl) (by kernel_rfl) (by kernel_rfl)) ?_
 intro W base args ds gs before hval hW _ _
 exact law_contract (Rs := [rL, rI .u8, rS]) (tb := 4) ⟨_, _, Try.func7, rfl, rfl⟩ rfl lay5 (by kernel_rfl) (by kernel_rfl)
  (fun H ds h => by
    match ds, h with
    | [d1, d2, d3], _ => exact ⟨rfl, rfl, rfl⟩)
  (call5 law5_ok) hval hW
theorem forget_said : Rows.LotsForgetByClassSaid :=
 OpenClaim.holds_of_wide 7 Try.f7 rfl rfl rfl rfl rfl rfl rfl ⟨rfl, rfl, rfl, rfl, rfl⟩ rfl rfl rfl rfl rfl (by kernel_rfl) Try.func7 (by kernel_rfl)
  (of_decide_eq_true (by kernel_rfl)) (by unfold Func.isWrapper; first | (rw [if_pos (by decide +kernel)]; kernel_rfl) | (rw [if_neg (by decide +kernel)]; exact ⟨rfl, rfl⟩))
  (fun os started H enc _ => forget_lifted os started H enc)
end Go.Proofs.Ytbcnnomgfheaoaa
