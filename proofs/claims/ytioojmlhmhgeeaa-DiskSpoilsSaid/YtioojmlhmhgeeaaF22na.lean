/-
 Layer 21 (disk): the statement DiskSpoils.
 Conditions: none; every input.
-/
import Derived.Test.YtioojmlhmhgeeaaF22u
import Derived.Test.YtioojmlhmhgeeaaF22n
namespace Go.Proofs.Ytioojmlhmhgeeaa
open Go Go.E2 C22
open Go.ChangeShapes Go.WideShapes Go.RowKit
theorem laySp : LayV Try.prog [46, 5, 71, 33] [rW, rI .u8, rI .u16, rN] := ⟨rv46, rv5, rv71, rv33, trivial⟩
theorem callSp : ∀ xs, Parts [rW, rI .u8, rI .u16, rN] xs → CallP Try.prog f_quietuslaw21_DiskSpoils xs (· = .d (.bool true)) := by
 intro xs hp
 obtain ⟨_, _, rfl, ⟨l, rfl⟩, hp1⟩ := parts_cons hp
 obtain ⟨_, _, rfl, ⟨n, hn, rfl⟩, hp2⟩ := parts_cons hp1
 obtain ⟨_, _, rfl, ⟨b, hb, rfl⟩, hp3⟩ := parts_cons hp2
 obtain ⟨_, _, rfl, ⟨k, hk, rfl⟩, hp4⟩ := parts_cons hp3
 obtain rfl := parts_nil hp4
 exact spoils_ok l n (wf_u8 hn).1 (wf_u8 hn).2 b (wf_u16 hb).1 (wf_u16 hb).2 k hk
set_option maxRecDepth 100000 in
theorem spoils_lifted (os : Os) (started : os.Started) (H : Type) (enc : TypeId × Value → H) :
 ReturnsInHanded {} Try.checked os 7 .any (Rows.diskSpoilsSpec.pre6 enc Try.prog Try.f7 Rows.diskSpoilsRow.domain false) (Rows.diskSpoilsSpec.post enc Try.prog Try.f7 false true false false) := by
 refine returnsInHanded_of_change (C := Try.checked) own started (by kernel_rfl) Try.func7
  (ChangeSpec.witness6 (enc := enc) (C := Try.checked) false ⟨#[], #[.slice none 0 0, .int .u8 0, .int .u16 0, .slice none 0 0], []⟩ 8 (by kernel_rfl) (by kernel_rfl) (by kernel_rfl) (by kernel_rfl)) ?_
 intro W base args ds gs before hval hW _ _
 exact law_contract (Rs := [rW, rI .u8, rI .u16, rN]) (tb := 4) ⟨_, _, Try.func7, rfl, rfl⟩ rfl laySp (by kernel_rfl) (by kernel_rfl)
  (fun H ds h => by
    match ds, h with
    | [d1, d2, d3, d4], _ => exact ⟨rfl, rfl, rfl⟩)
  callSp hval hW
theorem spoils_said : Rows.DiskSpoilsSaid :=
 OpenClaim.holds_of_wide 7 Try.f7 rfl rfl rfl rfl rfl rfl rfl ⟨rfl, rfl, rfl, rfl, rfl⟩ rfl rfl rfl rfl rfl (by kernel_rfl) Try.func7 (by kernel_rfl)
  (of_decide_eq_true (by kernel_rfl)) (by unfold Func.isWrapper; first | (rw [if_pos (by decide +kernel)]; kernel_rfl) | (rw [if_neg (by decide +kernel)]; exact ⟨rfl, rfl⟩))
  (fun os started H enc _ => spoils_lifted os started H enc)
end Go.Proofs.Ytioojmlhmhgeeaa
