/-
 Layer 37 (chunk): the statement LotsKeepObjects.
 Conditions: none; every input.
-/
import Derived.Test.YtbcnnomgfheaoaaF37x
import Derived.Test.YtbcnnomgfheaoaaF37zb
namespace Go.Proofs.Ytbcnnomgfheaoaa
open Go Go.E2 C37
open Go.ChangeShapes Go.WideShapes Go.RowKit
set_option maxRecDepth 100000 in
theorem rd65 : Reads Try.prog 65 false (fun d => ∃ o : O4, True ∧ d = eO4 o) :=
 reads_mono (reads_struct (Rs := [rI .i64, rI .i64, rS, rS]) (fs := fieldsOf Try.prog 65) (by kernel_rfl) (lay_of (l := [(0, 3), (1, 3), (2, 9), (3, 9)]) (by kernel_rfl)
  ⟨rfl, rd3, by kernel_rfl, rd3, by kernel_rfl, rd9, by kernel_rfl, rd9, trivial⟩) (by kernel_rfl)) (by
  rintro d ⟨parts, hp, rfl⟩
  obtain ⟨_, _, rfl, ⟨a, _, rfl⟩, hp1⟩ := parts_cons hp
  obtain ⟨_, _, rfl, ⟨b, _, rfl⟩, hp2⟩ := parts_cons hp1
  obtain ⟨_, _, rfl, ⟨c, _, rfl⟩, hp3⟩ := parts_cons hp2
  obtain ⟨_, _, rfl, ⟨e, _, rfl⟩, hp4⟩ := parts_cons hp3
  obtain rfl := parts_nil hp4
  exact ⟨⟨a, b, c, e⟩, trivial, rfl⟩)
abbrev rO : D → Prop := fun d => ∃ l : List O4, d = .list (l.map eO4)
set_option maxRecDepth 100000 in
theorem rv62 : ReadsV Try.prog 62 rO :=
 readsV_mono (readsV_slice (e := 65) (sz := 4) (by kernel_rfl) (by kernel_rfl) (by decide) rd65) (by
  rintro d ⟨es, h, _, _, rfl⟩
  obtain ⟨l, _, rfl⟩ := exists_map h
  exact ⟨l, rfl⟩)
theorem lay4 : LayV Try.prog [23, 62] [rT, rO] := ⟨rv23, rv62, trivial⟩
theorem call4 {g : FuncId} (h : ∀ (c : Ct) (l : List O4), CallP Try.prog g [eT c, .list (l.map eO4)] (· = .d (.bool true))) : ∀ xs, Parts [rT, rO] xs → CallP Try.prog g xs (· = .d (.bool true)) := by
 intro xs hp
 obtain ⟨_, _, rfl, ⟨c, rfl⟩, hp1⟩ := parts_cons hp
 obtain ⟨_, _, rfl, ⟨l, rfl⟩, hp2⟩ := parts_cons hp1
 obtain rfl := parts_nil hp2
 exact h c l
set_option maxRecDepth 100000 in
theorem keep_lifted (os : Os) (started : os.Started) (H : Type) (enc : TypeId × Value → H) :
 ReturnsInHanded {} Try.checked os 6 .any (Rows.lotsKeepObjectsSpec.pre6 enc Try.prog Try.f6 Rows.lotsKeepObjectsRow.domain false) (Rows.lotsKeepObjectsSpec.post enc Try.prog Try.f6 false true false false) := by
 refine returnsInHanded_of_change (C := Try.checked) own started (by kernel_rfl) Try.func6
  (ChangeSpec.witness6 (enc := enc) (C := Try.checked) false ⟨#[], #[.agg #[.int .i64 0, .int .i64 0, .int .i64 0], .slice none 0 0], []⟩ 8 (by kernel_rfl) (by kernel_rfl) (by kernel_rfl) (by kernel_rfl)) ?_
 intro W base args ds gs before hval hW _ _
 exact law_contract (Rs := [rT, rO]) (tb := 4) ⟨_, _, Try.func6, rfl, rfl⟩ rfl lay4 (by kernel_rfl) (by kernel_rfl)
  (fun H ds h => by
    match ds, h with
    | [d1, d2], _ => exact ⟨rfl, rfl, rfl⟩)
  (call4 law4_ok) hval hW
theorem keep_said : Rows.LotsKeepObjectsSaid :=
 OpenClaim.holds_of_wide 6 Try.f6 rfl rfl rfl rfl rfl rfl rfl ⟨rfl, rfl, rfl, rfl, rfl⟩ rfl rfl rfl rfl rfl (by kernel_rfl) Try.func6 (by kernel_rfl)
  (of_decide_eq_true (by kernel_rfl)) (by unfold Func.isWrapper; first | (rw [if_pos (by decide +kernel)]; kernel_rfl) | (rw [if_neg (by decide +kernel)]; exact ⟨rfl, rfl⟩))
  (fun os started H enc _ => keep_lifted os started H enc)
end Go.Proofs.Ytbcnnomgfheaoaa
