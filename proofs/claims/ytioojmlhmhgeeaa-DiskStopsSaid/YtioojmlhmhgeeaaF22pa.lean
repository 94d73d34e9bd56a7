/-
 Layer 21 (disk): the statement DiskStops.
 Conditions: none; every input.
-/
import Derived.Test.YtioojmlhmhgeeaaF22u
import Derived.Test.YtioojmlhmhgeeaaF22p
namespace Go.Proofs.Ytioojmlhmhgeeaa
open Go Go.E2 C22
open Go.ChangeShapes Go.WideShapes Go.RowKit
theorem laySt : LayV Try.prog [46, 5, 33] [rW, rI .u8, rN] := ⟨rv46, rv5, rv33, trivial⟩
theorem callSt {g : FuncId} (h : ∀ (l : List Wr) (sn : Int) (_ : 0 ≤ sn) (_ : sn < 256) (keep : List Int), CallP Try.prog g [.list (l.map eW), .int .u8 sn, .list (keep.map eI)] (· = .d (.bool true))) : ∀ xs, Parts [rW, rI .u8, rN] xs → CallP Try.prog g xs (· = .d (.bool true)) := by
 intro xs hp
 obtain ⟨_, _, rfl, ⟨l, rfl⟩, hp1⟩ := parts_cons hp
 obtain ⟨_, _, rfl, ⟨n, hn, rfl⟩, hp2⟩ := parts_cons hp1
 obtain ⟨_, _, rfl, ⟨k, _, rfl⟩, hp3⟩ := parts_cons hp2
 obtain rfl := parts_nil hp3
 exact h l n (wf_u8 hn).1 (wf_u8 hn).2 k
set_option maxRecDepth 100000 in
theorem stops_lifted (os : Os) (started : os.Started) (H : Type) (enc : TypeId × Value → H) :
 ReturnsInHanded {} Try.checked os 6 .any (Rows.diskStopsSpec.pre6 enc Try.prog Try.f6 Rows.diskStopsRow.domain false) (Rows.diskStopsSpec.post enc Try.prog Try.f6 false true false false) := by
 refine returnsInHanded_of_change (C := Try.checked) own started (by kernel_rfl) Try.func6
  (ChangeSpec.witness6 (enc := enc) (C := Try.checked) false ⟨#[], #[.slice none 0 0, .int .u8 0, .slice none 0 0], []⟩ 8 (by kernel_rfl) (by kernel_rfl) (by kernel_rfl) (by kernel_rfl)) ?_
 intro W base args ds gs before hval hW _ _
 exact law_contract (Rs := [rW, rI .u8, rN]) (tb := 4) ⟨_, _, Try.func6, rfl, rfl⟩ rfl laySt (by kernel_rfl) (by kernel_rfl)
  (fun H ds h => by
    match ds, h with
    | [d1, d2, d3], _ => exact ⟨rfl, rfl, rfl⟩)
  (callSt stops_ok) hval hW
theorem stops_said : Rows.DiskStopsSaid :=
 OpenClaim.holds_of_wide 6 Try.f6 rfl rfl rfl rfl rfl rfl rfl ⟨rfl, rfl, rfl, rfl, rfl⟩ rfl rfl rfl rfl rfl (by kernel_rfl) Try.func6 (by kernel_rfl)
  (of_decide_eq_true (by kernel_rfl)) (by unfold Func.isWrapper; first | (rw [if_pos (by decide +kernel)]; kernel_rfl) | (rw [if_neg (by decide +kernel)]; exact ⟨rfl, rfl⟩))
  (fun os started H enc _ => stops_lifted os started H enc)
end Go.Proofs.Ytioojmlhmhgeeaa
