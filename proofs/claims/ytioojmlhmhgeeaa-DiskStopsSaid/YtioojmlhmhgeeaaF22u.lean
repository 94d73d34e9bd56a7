/-
 Layers 21, 22: what the arguments of the statements read as.
 Conditions: none.
-/
import Derived.Test.YtioojmlhmhgeeaaF22l
import Derived.Test.YtioojmlhmhgeeaaEL1
import Derived.JoinedOf
import Derived.Test.YtioojmlhmhgeeaaRows
namespace Go.Proofs.Ytioojmlhmhgeeaa
open Go Go.E2 C22
open Go.ChangeShapes Go.WideShapes Go.RowKit
abbrev rI (k : IntKind) : D → Prop := fun d => ∃ n, (Lit.int k n).wf = true ∧ d = .int k n
abbrev rW : D → Prop := fun d => ∃ l : List Wr, d = .list (l.map eW)
abbrev rN : D → Prop := fun d => ∃ l : List Int, l.length ≤ 9223372036854775807 ∧ d = .list (l.map eI)
theorem rd3 : Reads Try.prog 3 false (rI .i64) := reads_int (by kernel_rfl)
theorem rv5 : ReadsV Try.prog 5 (rI .u8) := readsV_int (by kernel_rfl)
theorem exists_map {α : Type} {f : α → D} {es : List D} {P : D → Prop} (hP : ∀ d, P d → ∃ a, d = f a) (h : ∀ d ∈ es, P d) : ∃ l : List α, es = l.map f := by
 induction es with
 | nil => exact ⟨[], rfl⟩
 | cons e es ih =>
  obtain ⟨l, hl⟩ := ih fun d hd => h d (List.mem_cons_of_mem _ hd)
  obtain ⟨a, ha⟩ := hP e (h e List.mem_cons_self)
  exact ⟨a :: l, by rw [List.map_cons, ha, hl]⟩
set_option maxRecDepth 100000 in
theorem rd50 : Reads Try.prog 50 false (fun d => ∃ o : Wr, True ∧ d = eW o) :=
 reads_mono (reads_struct (Rs := [rI .i64, rI .i64, rI .i64]) (fs := fieldsOf Try.prog 50) (by kernel_rfl) (lay_of (l := [(0, 3), (1, 3), (2, 3)]) (by kernel_rfl)
  ⟨rfl, rd3, by kernel_rfl, rd3, by kernel_rfl, rd3, trivial⟩) (by kernel_rfl)) (by
  rintro d ⟨parts, hp, rfl⟩
  obtain ⟨_, _, rfl, ⟨a, _, rfl⟩, hp1⟩ := parts_cons hp
  obtain ⟨_, _, rfl, ⟨b, _, rfl⟩, hp2⟩ := parts_cons hp1
  obtain ⟨_, _, rfl, ⟨c, _, rfl⟩, hp3⟩ := parts_cons hp2
  obtain rfl := parts_nil hp3
  exact ⟨⟨a, b, c⟩, trivial, rfl⟩)
set_option maxRecDepth 100000 in
theorem rv46 : ReadsV Try.prog 46 rW :=
 readsV_mono (readsV_slice (e := 50) (sz := 3) (by kernel_rfl) (by kernel_rfl) (by decide) rd50) (by
  rintro d ⟨es, h, _, _, rfl⟩
  obtain ⟨l, rfl⟩ := exists_map (f := eW) (fun d ⟨o, _, e⟩ => ⟨o, e⟩) h
  exact ⟨l, rfl⟩)
theorem rv33 : ReadsV Try.prog 33 rN :=
 readsV_mono (readsV_slice (e := 3) (sz := 1) (by kernel_rfl) (by kernel_rfl) (by decide) rd3) (by
  rintro d ⟨es, h, hl, _, rfl⟩
  obtain ⟨l, rfl⟩ := exists_map (f := eI) (fun d ⟨n, _, e⟩ => ⟨n, e⟩) h
  rw [List.length_map] at hl
  exact ⟨l, hl, rfl⟩)
theorem wf_u8 {n : Int} (h : (Lit.int .u8 n).wf = true) : 0 ≤ n ∧ n < 256 := by
 have : 0 ≤ n ∧ n ≤ 255 := by simpa [Lit.wf, IntKind.min, IntKind.max, IntKind.signed, IntKind.bits] using h
 omega
theorem own : ownKnob Try.prog.godebug = none := by kernel_rfl
end Go.Proofs.Ytioojmlhmhgeeaa
