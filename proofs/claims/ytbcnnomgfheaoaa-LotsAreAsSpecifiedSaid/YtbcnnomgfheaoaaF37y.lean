/-
 Layer 37 (chunk): what the arguments of the statement LotsAreAsSpecified read as; the statement.
 Conditions: none; every input.
-/
import Derived.Test.YtbcnnomgfheaoaaF37v
import Derived.Test.YtbcnnomgfheaoaaF37x
namespace Go.Proofs.Ytbcnnomgfheaoaa
open Go Go.E2 C37
open Go.ChangeShapes Go.WideShapes Go.RowKit
abbrev rL : D → Prop := fun d => ∃ l : Lt, d = eL l
set_option maxRecDepth 100000 in
theorem rd70 : Reads Try.prog 70 false (fun d => ∃ c : Ck, True ∧ d = eC c) :=
 reads_mono (reads_struct (Rs := [rI .i64, rS, rS, rI .i64]) (fs := fieldsOf Try.prog 70) (by kernel_rfl) (lay_of (l := [(0, 3), (1, 9), (2, 9), (3, 3)]) (by kernel_rfl)
  ⟨rfl, rd3, by kernel_rfl, rd9, by kernel_rfl, rd9, by kernel_rfl, rd3, trivial⟩) (by kernel_rfl)) (by
  rintro d ⟨parts, hp, rfl⟩
  obtain ⟨_, _, rfl, ⟨a, _, rfl⟩, hp1⟩ := parts_cons hp
  obtain ⟨_, _, rfl, ⟨b, _, rfl⟩, hp2⟩ := parts_cons hp1
  obtain ⟨_, _, rfl, ⟨c, _, rfl⟩, hp3⟩ := parts_cons hp2
  obtain ⟨_, _, rfl, ⟨e, _, rfl⟩, hp4⟩ := parts_cons hp3
  obtain rfl := parts_nil hp4
  exact ⟨⟨a, b, c, e⟩, trivial, rfl⟩)
theorem rd37 : Reads Try.prog 37 true (fun d => ∃ l : List Ck, d = .list (l.map eC)) :=
 reads_mono (reads_slice (e := 70) (sz := 4) (by kernel_rfl) (by kernel_rfl) (by decide) rd70) (by
  rintro d ⟨es, h, _, _, rfl⟩
  obtain ⟨l, _, rfl⟩ := exists_map h
  exact ⟨l, rfl⟩)
theorem rd47 : Reads Try.prog 47 false (fun d => ∃ l : List Int, d = .list (l.map eI)) :=
 reads_mono (reads_slice (e := 3) (sz := 1) (by kernel_rfl) (by kernel_rfl) (by decide) rd3) (by
  rintro d ⟨es, h, _, _, rfl⟩
  obtain ⟨l, _, rfl⟩ := exists_map (f := eI) (p := fun _ => True) fun x hx => by obtain ⟨n, _, e⟩ := h x hx; exact ⟨n, trivial, e⟩
  exact ⟨l, rfl⟩)
set_option maxRecDepth 100000 in
theorem rd68 : Reads Try.prog 68 false (fun d => ∃ c : Ob, True ∧ d = eB c) :=
 reads_mono (reads_struct (Rs := [rI .i64, rS, fun d => ∃ l : List Int, d = .list (l.map eI)]) (fs := fieldsOf Try.prog 68) (by kernel_rfl) (lay_of (l := [(0, 3), (1, 9), (2, 47)]) (by kernel_rfl)
  ⟨rfl, rd3, by kernel_rfl, rd9, by kernel_rfl, rd47, trivial⟩) (by kernel_rfl)) (by
  rintro d ⟨parts, hp, rfl⟩
  obtain ⟨_, _, rfl, ⟨a, _, rfl⟩, hp1⟩ := parts_cons hp
  obtain ⟨_, _, rfl, ⟨b, _, rfl⟩, hp2⟩ := parts_cons hp1
  obtain ⟨_, _, rfl, ⟨c, rfl⟩, hp3⟩ := parts_cons hp2
  obtain rfl := parts_nil hp3
  exact ⟨⟨a, b, c⟩, trivial, rfl⟩)
theorem rd38 : Reads Try.prog 38 true (fun d => ∃ l : List Ob, d = .list (l.map eB)) :=
 reads_mono (reads_slice (e := 68) (sz := 3) (by kernel_rfl) (by kernel_rfl) (by decide) rd68) (by
  rintro d ⟨es, h, _, _, rfl⟩
  obtain ⟨l, _, rfl⟩ := exists_map h
  exact ⟨l, rfl⟩)
set_option maxRecDepth 100000 in
theorem rv40 : ReadsV Try.prog 40 rL :=
 readsV_mono (readsV_struct (fs := fieldsOf Try.prog 40) (by kernel_rfl) (reads_struct (s := true) (Rs := [rI .i64, fun d => ∃ l : List Ck, d = .list (l.map eC), fun d => ∃ l : List Ob, d = .list (l.map eB)]) (fs := fieldsOf Try.prog 40) (by kernel_rfl) (lay_of (l := [(0, 3), (1, 37), (2, 38)]) (by kernel_rfl)
  ⟨rfl, reads_up rd3, by kernel_rfl, rd37, by kernel_rfl, rd38, trivial⟩) (by kernel_rfl)) (fun d ⟨p, _, e⟩ => ⟨_, e⟩)) (by
  rintro d ⟨parts, hp, rfl⟩
  obtain ⟨_, _, rfl, ⟨a, _, rfl⟩, hp1⟩ := parts_cons hp
  obtain ⟨_, _, rfl, ⟨b, rfl⟩, hp2⟩ := parts_cons hp1
  obtain ⟨_, _, rfl, ⟨c, rfl⟩, hp3⟩ := parts_cons hp2
  obtain rfl := parts_nil hp3
  exact ⟨⟨a, b, c⟩, rfl⟩)
abbrev rA : D → Prop := fun d => ∃ a b : Str, d = .agg [.str a, .str b]
set_option maxRecDepth 100000 in
theorem rv41 : ReadsV Try.prog 41 rA :=
 readsV_mono (readsV_array (e := 9) (n := 2) (s := false) (by kernel_rfl) (reads_array (Rs := [rS, rS]) (by kernel_rfl) (by
  have h1 : Try.prog.cellsOf 9 = 1 := by kernel_rfl
  have hr : List.range 2 = [0, 1] := rfl
  rw [h1, hr]
  exact ⟨rfl, rd9, by rw [h1], rd9, trivial⟩) (by kernel_rfl)) (fun d ⟨p, _, e⟩ => ⟨_, e⟩)) (by
  rintro d ⟨parts, hp, rfl⟩
  obtain ⟨_, _, rfl, ⟨a, _, rfl⟩, hp1⟩ := parts_cons hp
  obtain ⟨_, _, rfl, ⟨b, _, rfl⟩, hp2⟩ := parts_cons hp1
  obtain rfl := parts_nil hp2
  exact ⟨a, b, rfl⟩)
theorem rv3 : ReadsV Try.prog 3 (rI .i64) := readsV_int (by kernel_rfl)
theorem lay3 : LayV Try.prog [40, 23, 3, 41] [rL, rT, rI .i64, rA] := ⟨rv40, rv23, rv3, rv41, trivial⟩
theorem call3 {f : FuncId} (h : ∀ (l : Lt) (c : Ct) (id : Int) (cls data : Str), CallP Try.prog f [eL l, eT c, .int .i64 id, .agg [.str cls, .str data]] (· = .d (.bool true))) : ∀ xs, Parts [rL, rT, rI .i64, rA] xs → CallP Try.prog f xs (· = .d (.bool true)) := by
 intro xs hp
 obtain ⟨_, _, rfl, ⟨l, rfl⟩, hp1⟩ := parts_cons hp
 obtain ⟨_, _, rfl, ⟨c, rfl⟩, hp2⟩ := parts_cons hp1
 obtain ⟨_, _, rfl, ⟨n, _, rfl⟩, hp3⟩ := parts_cons hp2
 obtain ⟨_, _, rfl, ⟨a, b, rfl⟩, hp4⟩ := parts_cons hp3
 obtain rfl := parts_nil hp4
 exact h l c n a b
set_option maxRecDepth 100000 in
theorem lots_lifted (os : Os) (started : os.Started) (H : Type) (enc : TypeId × Value → H) :
 ReturnsInHanded {} Try.checked os 5 .any (Rows.lotsAreAsSpecifiedSpec.pre6 enc Try.prog Try.f5 Rows.lotsAreAsSpecifiedRow.domain false) (Rows.lotsAreAsSpecifiedSpec.post enc Try.prog Try.f5 false true false false) := by
 refine returnsInHanded_of_change (C := Try.checked) own started (by kernel_rfl) Try.func5
  (ChangeSpec.witness6 (enc := enc) (C := Try.checked) false ⟨#[], #[.agg #[.int .i64 0, .slice none 0 0, .slice none 0 0], .agg #[.int .i64 0, .int .i64 0, .int .i64 0], .int .i64 0, .agg #[.string ⟨#[]⟩, .string ⟨#[]⟩]], []⟩ 8 (by kernel_rfl) (by kernel_rfl) (by kernel_rfl) (by kernel_rfl)) ?_
 intro W base args ds gs before hval hW _ _
 exact law_contract (Rs := [rL, rT, rI .i64, rA]) (tb := 4) ⟨_, _, Try.func5, rfl, rfl⟩ rfl lay3 (by kernel_rfl) (by kernel_rfl)
  (fun H ds h => by
    match ds, h with
    | [d1, d2, d3, d4], _ => exact ⟨rfl, rfl, rfl⟩)
  (call3 law3_ok) hval hW
theorem lots_said : Rows.LotsAreAsSpecifiedSaid :=
 OpenClaim.holds_of_wide 5 Try.f5 rfl rfl rfl rfl rfl rfl rfl ⟨rfl, rfl, rfl, rfl, rfl⟩ rfl rfl rfl rfl rfl (by kernel_rfl) Try.func5 (by kernel_rfl)
  (of_decide_eq_true (by kernel_rfl)) (by unfold Func.isWrapper; first | (rw [if_pos (by decide +kernel)]; kernel_rfl) | (rw [if_neg (by decide +kernel)]; exact ⟨rfl, rfl⟩))
  (fun os started H enc _ => lots_lifted os started H enc)
end Go.Proofs.Ytbcnnomgfheaoaa
