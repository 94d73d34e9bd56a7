/-
 Layer 22 (slots): the statement SlotsForget.
 Conditions: none; every input.
-/
import Derived.Test.YtioojmlhmhgeeaaF22zg
import Derived.Test.YtioojmlhmhgeeaaF22zj
namespace Go.Proofs.Ytioojmlhmhgeeaa
open Go Go.E2 C22
open Go.ChangeShapes Go.WideShapes Go.RowKit
theorem rv9' : ReadsV Try.prog 9 rS5 := readsV_string (by kernel_rfl)
theorem layFg : LayV Try.prog [22, 5, 9] [rQ, rI .u8, rS5] := ⟨rv22', rv5, rv9', trivial⟩
theorem callFg : ∀ xs, Parts [rQ, rI .u8, rS5] xs → CallP Try.prog f_zz0 xs (· = .d (.bool true)) := by
 intro xs hp
 obtain ⟨_, _, rfl, ⟨l, hl, rfl⟩, hp1⟩ := parts_cons hp
 obtain ⟨_, _, rfl, ⟨n, hn, rfl⟩, hp2⟩ := parts_cons hp1
 obtain ⟨_, _, rfl, ⟨s, _, rfl⟩, hp3⟩ := parts_cons hp2
 obtain rfl := parts_nil hp3
 exact forget_ok l hl n (wf_u8 hn).1 (wf_u8 hn).2 s
set_option maxRecDepth 100000 in
theorem forget_lifted (os : Os) (started : os.Started) (H : Type) (enc : TypeId × Value → H) :
 ReturnsInHanded {} Try.checked os 9 .any (Rows.slotsForgetSpec.pre6 enc Try.prog Try.f9 Rows.slotsForgetRow.domain false) (Rows.slotsForgetSpec.post enc Try.prog Try.f9 false true false false) := by
 refine returnsInHanded_of_change (C := Try.checked) own started (by kernel_rfl) Try.func9
  (ChangeSpec.witness6 (enc := enc) (C := Try.checked) false ⟨#[], #[.slice none 0 0, .int .u8 0, .string ByteArray.empty], []⟩ 8 (by kernel_rfl) (by kernel_rfl) (by kernel_rfl) (by kernel_rfl)) ?_
 intro W base args ds gs before hval hW _ _
 exact law_contract (Rs := [rQ, rI .u8, rS5]) (tb := 4) ⟨_, _, Try.func9, rfl, rfl⟩ rfl layFg (by kernel_rfl) (by kernel_rfl)
  (fun H ds h => by
    match ds, h with
    | [d1, d2, d3], _ => exact ⟨rfl, rfl, rfl⟩)
  callFg hval hW
theorem forget_said : Rows.SlotsForgetSaid :=
 OpenClaim.holds_of_wide 9 Try.f9 rfl rfl rfl rfl rfl rfl rfl ⟨rfl, rfl, rfl, rfl, rfl⟩ rfl rfl rfl rfl rfl (by kernel_rfl) Try.func9 (by kernel_rfl)
  (of_decide_eq_true (by kernel_rfl)) (by unfold Func.isWrapper; first | (rw [if_pos (by decide +kernel)]; kernel_rfl) | (rw [if_neg (by decide +kernel)]; exact ⟨rfl, rfl⟩))
  (fun os started H enc _ => forget_lifted os started H enc)
end Go.Proofs.Ytioojmlhmhgeeaa
