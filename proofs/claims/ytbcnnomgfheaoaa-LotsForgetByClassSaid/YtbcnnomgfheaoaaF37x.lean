/-
 Layer 37 (chunk): what the arguments of the statements read as; the statements LotsCutAsSpecified and LotsFallInStep.
 Conditions: none; every input.
-/
import Derived.Test.YtbcnnomgfheaoaaF37w
import Derived.Test.YtbcnnomgfheaoaaEL1
import Derived.JoinedOf
import Derived.Test.YtbcnnomgfheaoaaRows
import Derived.Test.YtbcnnomgfheaoaaF37v
namespace Go.Proofs.Ytbcnnomgfheaoaa
open Go Go.E2 C37
open Go.ChangeShapes Go.WideShapes Go.RowKit
abbrev rI (k : IntKind) : D → Prop := fun d => ∃ n, (Lit.int k n).wf = true ∧ d = .int k n
abbrev rS : D → Prop := fun d => ∃ s : List UInt8, s.length ≤ maxLen ∧ d = .str s
theorem rd3 : Reads Try.prog 3 false (rI .i64) := reads_int (by kernel_rfl)
theorem rd9 : Reads Try.prog 9 false rS := reads_string (by kernel_rfl)
theorem rv9 : ReadsV Try.prog 9 rS := readsV_string (by kernel_rfl)
theorem own : ownKnob Try.prog.godebug = none := by kernel_rfl
end Go.Proofs.Ytbcnnomgfheaoaa
/-
 Layer 37 (chunk): what the arguments of the statement LotsAreAsSpecified read as; the statement.
 Conditions: none; every input.
-/
namespace Go.Proofs.Ytbcnnomgfheaoaa
open Go Go.E2 C37
open Go.ChangeShapes Go.WideShapes Go.RowKit
abbrev rL : D → Prop := fun d => ∃ l : Lt, d = eL l
set_option maxRecDepth 100000 in
theorem rd70 : Reads Try.prog 70 false (fun d => ∃ c : Ck, True ∧ d = eC c) :=
 reads_mono (reads_struct (Rs := [rI .i64, rS, rS, rI .i64]) (fs := fieldsOf Try.prog 70) (by kernel_rfl) (lay_of (l := [(0, 3), (1, 9), (2, 9), (3, 3)]) (by kernel_rfl)
  ⟨rfl, rd3, by kernel_rfl, rd9, by kernel_rfl, rd9, by kernel_rfl, rd3, trivial⟩) (by kernel_rfl)) (by
  rintro d ⟨parts, hp, rfl⟩
  obtain ⟨_, _, rfl, ⟨a, _, rfl⟩, hp1⟩ := parts_cons hp
  obtain ⟨_, _, rfl, ⟨b, _, rfl⟩, hp2⟩ := parts_cons hp1
  obtain ⟨_, _, rfl, ⟨c, _, rfl⟩, hp3⟩ := parts_cons hp2
  obtain ⟨_, _, rfl, ⟨e, _, rfl⟩, hp4⟩ := parts_cons hp3
  obtain rfl := parts_nil hp4
  exact ⟨⟨a, b, c, e⟩, trivial, rfl⟩)
theorem rd37 : Reads Try.prog 37 true (fun d => ∃ l : List Ck, d = .list (l.map eC)) :=
 reads_mono (reads_slice (e := 70) (sz := 4) (by kernel_rfl) (by kernel_rfl) (by decide) rd70) (by
  rintro d ⟨es, h, _, _, rfl⟩
  obtain ⟨l, _, rfl⟩ := exists_map h
  exact ⟨l, rfl⟩)
theorem rd47 : Reads Try.prog 47 false (fun d => ∃ l : List Int, d = .list (l.map eI)) :=
 reads_mono (reads_slice (e := 3) (sz := 1) (by kernel_rfl) (by kernel_rfl) (by decide) rd3) (by
  rintro d ⟨es, h, _, _, rfl⟩
  obtain ⟨l, _, rfl⟩ := exists_map (f := eI) (p := fun _ => True) fun x hx => by obtain ⟨n, _, e⟩ := h x hx; exact ⟨n, trivial, e⟩
  exact ⟨l, rfl⟩)
set_option maxRecDepth 100000 in
theorem rd68 : Reads Try.prog 68 false (fun d => ∃ c : Ob, True ∧ d = eB c) :=
 reads_mono (reads_struct (Rs := [rI .i64, rS, fun d => ∃ l : List Int, d = .list (l.map eI)]) (fs := fieldsOf Try.prog 68) (by kernel_rfl) (lay_of (l := [(0, 3), (1, 9), (2, 47)]) (by kernel_rfl)
  ⟨rfl, rd3, by kernel_rfl, rd9, by kernel_rfl, rd47, trivial⟩) (by kernel_rfl)) (by
  rintro d ⟨parts, hp, rfl⟩
  obtain ⟨_, _, rfl, ⟨a, _, rfl⟩, hp1⟩ := parts_cons hp
  obtain ⟨_, _, rfl, ⟨b, _, rfl⟩, hp2⟩ := parts_cons hp1
  obtain ⟨_, _, rfl, ⟨c, rfl⟩, hp3⟩ := parts_cons hp2
  obtain rfl := parts_nil hp3
  exact ⟨⟨a, b, c⟩, trivial, rfl⟩)
theorem rd38 : Reads Try.prog 38 true (fun d => ∃ l : List Ob, d = .list (l.map eB)) :=
 reads_mono (reads_slice (e := 68) (sz := 3) (by kernel_rfl) (by kernel_rfl) (by decide) rd68) (by
  rintro d ⟨es, h, _, _, rfl⟩
  obtain ⟨l, _, rfl⟩ := exists_map h
  exact ⟨l, rfl⟩)
set_option maxRecDepth 100000 in
theorem rv40 : ReadsV Try.prog 40 rL :=
 readsV_mono (readsV_struct (fs := fieldsOf Try.prog 40) (by kernel_rfl) (reads_struct (s := true) (Rs := [rI .i64, fun d => ∃ l : List Ck, d = .list (l.map eC), fun d => ∃ l : List Ob, d = .list (l.map eB)]) (fs := fieldsOf Try.prog 40) (by kernel_rfl) (lay_of (l := [(0, 3), (1, 37), (2, 38)]) (by kernel_rfl)
  ⟨rfl, reads_up rd3, by kernel_rfl, rd37, by kernel_rfl, rd38, trivial⟩) (by kernel_rfl)) (fun d ⟨p, _, e⟩ => ⟨_, e⟩)) (by
  rintro d ⟨parts, hp, rfl⟩
  obtain ⟨_, _, rfl, ⟨a, _, rfl⟩, hp1⟩ := parts_cons hp
  obtain ⟨_, _, rfl, ⟨b, rfl⟩, hp2⟩ := parts_cons hp1
  obtain ⟨_, _, rfl, ⟨c, rfl⟩, hp3⟩ := parts_cons hp2
  obtain rfl := parts_nil hp3
  exact ⟨⟨a, b, c⟩, rfl⟩)
end Go.Proofs.Ytbcnnomgfheaoaa
