/-
 Layer 22 (slots): the statement SlotsKeepApart.
 Conditions: none; every input.
-/
import Derived.Test.YtioojmlhmhgeeaaF22u
import Derived.Test.YtioojmlhmhgeeaaF22zb
namespace Go.Proofs.Ytioojmlhmhgeeaa
open Go Go.E2 C22
open Go.ChangeShapes Go.WideShapes Go.RowKit
abbrev rS : D → Prop := fun d => ∃ s : List UInt8, s.length ≤ maxLen ∧ d = .str s
abbrev rO : D → Prop := fun d => ∃ l : List Op4, d = .list (l.map eO)
theorem rd9 : Reads Try.prog 9 false rS := reads_string (by kernel_rfl)
theorem rd33 : Reads Try.prog 33 false rN :=
 reads_mono (reads_slice (s := false) (e := 3) (sz := 1) (by kernel_rfl) (by kernel_rfl) (by decide) rd3) (by
  rintro d ⟨es, h, hl, _, rfl⟩
  obtain ⟨l, rfl⟩ := exists_map (f := eI) (fun d ⟨n, _, e⟩ => ⟨n, e⟩) h
  rw [List.length_map] at hl
  exact ⟨l, hl, rfl⟩)
set_option maxRecDepth 100000 in
theorem rd37 : Reads Try.prog 37 false (fun d => ∃ o : Op4, True ∧ d = eO o) :=
 reads_mono (reads_struct (Rs := [rI .i64, rI .i64, rS, rN]) (fs := fieldsOf Try.prog 37) (by kernel_rfl) (lay_of (l := [(0, 3), (1, 3), (2, 9), (3, 33)]) (by kernel_rfl)
  ⟨rfl, rd3, by kernel_rfl, rd3, by kernel_rfl, rd9, by kernel_rfl, rd33, trivial⟩) (by kernel_rfl)) (by
  rintro d ⟨parts, hp, rfl⟩
  obtain ⟨_, _, rfl, ⟨a, _, rfl⟩, hp1⟩ := parts_cons hp
  obtain ⟨_, _, rfl, ⟨b, _, rfl⟩, hp2⟩ := parts_cons hp1
  obtain ⟨_, _, rfl, ⟨c, _, rfl⟩, hp3⟩ := parts_cons hp2
  obtain ⟨_, _, rfl, ⟨k, _, rfl⟩, hp4⟩ := parts_cons hp3
  obtain rfl := parts_nil hp4
  exact ⟨⟨a, b, c, k⟩, trivial, rfl⟩)
set_option maxRecDepth 100000 in
theorem rv22 : ReadsV Try.prog 22 rO :=
 readsV_mono (readsV_slice (e := 37) (sz := 4) (by kernel_rfl) (by kernel_rfl) (by decide) rd37) (by
  rintro d ⟨es, h, _, _, rfl⟩
  obtain ⟨l, rfl⟩ := exists_map (f := eO) (fun d ⟨o, _, e⟩ => ⟨o, e⟩) h
  exact ⟨l, rfl⟩)
theorem layAp : LayV Try.prog [22, 5] [rO, rI .u8] := ⟨rv22, rv5, trivial⟩
theorem callAp : ∀ xs, Parts [rO, rI .u8] xs → CallP Try.prog f_quietuslaw22_SlotsKeepApart xs (· = .d (.bool true)) := by
 intro xs hp
 obtain ⟨_, _, rfl, ⟨l, rfl⟩, hp1⟩ := parts_cons hp
 obtain ⟨_, _, rfl, ⟨n, hn, rfl⟩, hp2⟩ := parts_cons hp1
 obtain rfl := parts_nil hp2
 exact apart_ok l n (wf_u8 hn).1 (wf_u8 hn).2
set_option maxRecDepth 100000 in
theorem apart_lifted (os : Os) (started : os.Started) (H : Type) (enc : TypeId × Value → H) :
 ReturnsInHanded {} Try.checked os 3 .any (Rows.slotsKeepApartSpec.pre6 enc Try.prog Try.f3 Rows.slotsKeepApartRow.domain false) (Rows.slotsKeepApartSpec.post enc Try.prog Try.f3 false true false false) := by
 refine returnsInHanded_of_change (C := Try.checked) own started (by kernel_rfl) Try.func3
  (ChangeSpec.witness6 (enc := enc) (C := Try.checked) false ⟨#[], #[.slice none 0 0, .int .u8 0], []⟩ 8 (by kernel_rfl) (by kernel_rfl) (by kernel_rfl) (by kernel_rfl)) ?_
 intro W base args ds gs before hval hW _ _
 exact law_contract (Rs := [rO, rI .u8]) (tb := 4) ⟨_, _, Try.func3, rfl, rfl⟩ rfl layAp (by kernel_rfl) (by kernel_rfl)
  (fun H ds h => by
    match ds, h with
    | [d1, d2], _ => exact ⟨rfl, rfl, rfl⟩)
  callAp hval hW
theorem apart_said : Rows.SlotsKeepApartSaid :=
 OpenClaim.holds_of_wide 3 Try.f3 rfl rfl rfl rfl rfl rfl rfl ⟨rfl, rfl, rfl, rfl, rfl⟩ rfl rfl rfl rfl rfl (by kernel_rfl) Try.func3 (by kernel_rfl)
  (of_decide_eq_true (by kernel_rfl)) (by unfold Func.isWrapper; first | (rw [if_pos (by decide +kernel)]; kernel_rfl) | (rw [if_neg (by decide +kernel)]; exact ⟨rfl, rfl⟩))
  (fun os started H enc _ => apart_lifted os started H enc)
end Go.Proofs.Ytioojmlhmhgeeaa
