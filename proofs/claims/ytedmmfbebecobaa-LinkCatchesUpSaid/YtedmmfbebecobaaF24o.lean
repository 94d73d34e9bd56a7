/-
  Layer 24 (link): what the arguments of the statements read as.
  Conditions: none.
-/
import Derived.Test.YtedmmfbebecobaaF24l
import Derived.Test.YtedmmfbebecobaaEL1
import Derived.Test.YtedmmfbebecobaaRows
namespace Go.Proofs.Ytedmmfbebecobaa
open Go Go.E2 C24
abbrev rI (k : IntKind) : D → Prop := fun d => ∃ n, (Lit.int k n).wf = true ∧ d = .int k n
abbrev rS : D → Prop := fun d => ∃ s : List UInt8, s.length ≤ maxLen ∧ d = .str s
abbrev rB : D → Prop := fun d => ∃ b, d = .bool b
theorem rd3 : Reads Try.prog 3 false (rI .i64) := reads_int (by kernel_rfl)
theorem rd9 : Reads Try.prog 9 false rS := reads_string (by kernel_rfl)
theorem rd4 : Reads Try.prog 4 false rB := reads_bool (by kernel_rfl)
theorem rd5 : Reads Try.prog 5 false (rI .u8) := reads_int (by kernel_rfl)
theorem wf_u8 {n : Int} (h : (Lit.int .u8 n).wf = true) : 0 ≤ n ∧ n ≤ 255 := by simpa [Lit.wf, IntKind.min, IntKind.max, IntKind.signed, IntKind.bits] using h
theorem rd22 : Reads Try.prog 22 true (fun d => ∃ q : List (List UInt8), d = .list (q.map .str)) :=
  reads_mono (reads_slice (e := 9) (sz := 1) (by kernel_rfl) (by kernel_rfl) (by decide) rd9) (by
    rintro d ⟨es, h, _, _, rfl⟩
    obtain ⟨l, _, rfl⟩ := exists_map h
    exact ⟨l, rfl⟩)
theorem rv24 : ReadsV Try.prog 24 (fun d => ∃ o : Out, d = eO o) :=
  readsV_mono (readsV_struct (fs := fieldsOf Try.prog 24) (by kernel_rfl) (reads_struct (s := true) (Rs := [rI .i64, rI .i64, rS, fun d => ∃ q : List (List UInt8), d = .list (q.map .str)]) (fs := fieldsOf Try.prog 24) (by kernel_rfl) (lay_of (l := [(0, 3), (1, 3), (2, 9), (3, 22)]) (by kernel_rfl)
    ⟨rfl, reads_up rd3, by kernel_rfl, reads_up rd3, by kernel_rfl, reads_up rd9, by kernel_rfl, rd22, trivial⟩) (by kernel_rfl)) (fun d ⟨p, _, e⟩ => ⟨_, e⟩)) (by
    rintro d ⟨parts, hp, rfl⟩
    obtain ⟨_, _, rfl, ⟨a, _, rfl⟩, hp1⟩ := parts_cons hp
    obtain ⟨_, _, rfl, ⟨b, _, rfl⟩, hp2⟩ := parts_cons hp1
    obtain ⟨_, _, rfl, ⟨s, _, rfl⟩, hp3⟩ := parts_cons hp2
    obtain ⟨_, _, rfl, ⟨q, rfl⟩, hp4⟩ := parts_cons hp3
    obtain rfl := parts_nil hp4
    exact ⟨⟨a, b, s, q⟩, rfl⟩)
theorem rd49 : Reads Try.prog 49 false (fun d => ∃ f : Fr, True ∧ d = eF f) :=
  reads_mono (reads_struct (Rs := [rB, rI .i64, rS]) (fs := fieldsOf Try.prog 49) (by kernel_rfl) (lay_of (l := [(0, 4), (1, 3), (2, 9)]) (by kernel_rfl)
    ⟨rfl, rd4, by kernel_rfl, rd3, by kernel_rfl, rd9, trivial⟩) (by kernel_rfl)) (by
    rintro d ⟨parts, hp, rfl⟩
    obtain ⟨_, _, rfl, ⟨a, rfl⟩, hp1⟩ := parts_cons hp
    obtain ⟨_, _, rfl, ⟨b, _, rfl⟩, hp2⟩ := parts_cons hp1
    obtain ⟨_, _, rfl, ⟨s, _, rfl⟩, hp3⟩ := parts_cons hp2
    obtain rfl := parts_nil hp3
    exact ⟨⟨a, b, s⟩, trivial, rfl⟩)
theorem rv49 : ReadsV Try.prog 49 (fun d => ∃ f : Fr, True ∧ d = eF f) := readsV_struct (fs := fieldsOf Try.prog 49) (by kernel_rfl) rd49 (fun d ⟨o, _, e⟩ => ⟨_, e⟩)
theorem rd31 : Reads Try.prog 31 true (fun d => ∃ l : List Fr, d = .list (l.map eF)) :=
  reads_mono (reads_slice (e := 49) (sz := 3) (by kernel_rfl) (by kernel_rfl) (by decide) rd49) (by
    rintro d ⟨es, h, _, _, rfl⟩
    obtain ⟨l, _, rfl⟩ := exists_map h
    exact ⟨l, rfl⟩)
theorem rv47 : ReadsV Try.prog 47 (fun d => ∃ i : In, d = eI i) :=
  readsV_mono (readsV_struct (fs := fieldsOf Try.prog 47) (by kernel_rfl) (reads_struct (s := true) (Rs := [rI .i64, fun d => ∃ l : List Fr, d = .list (l.map eF)]) (fs := fieldsOf Try.prog 47) (by kernel_rfl) (lay_of (l := [(0, 3), (1, 31)]) (by kernel_rfl)
    ⟨rfl, reads_up rd3, by kernel_rfl, rd31, trivial⟩) (by kernel_rfl)) (fun d ⟨p, _, e⟩ => ⟨_, e⟩)) (by
    rintro d ⟨parts, hp, rfl⟩
    obtain ⟨_, _, rfl, ⟨a, _, rfl⟩, hp1⟩ := parts_cons hp
    obtain ⟨_, _, rfl, ⟨l, rfl⟩, hp2⟩ := parts_cons hp1
    obtain rfl := parts_nil hp2
    exact ⟨⟨a, l⟩, rfl⟩)
theorem rv3 : ReadsV Try.prog 3 (rI .i64) := readsV_int (by kernel_rfl)
theorem rv9 : ReadsV Try.prog 9 rS := readsV_string (by kernel_rfl)
theorem lay3 : LayV Try.prog [24, 9, 3] [fun d => ∃ o : Out, d = eO o, rS, rI .i64] := ⟨rv24, rv9, rv3, trivial⟩
theorem lay2 : LayV Try.prog [47, 49] [fun d => ∃ i : In, d = eI i, fun d => ∃ f : Fr, True ∧ d = eF f] := ⟨rv47, rv49, trivial⟩
theorem call3 {f : FuncId} (h : ∀ (o : Out) (s : List UInt8) (n : Int), CallP Try.prog f [eO o, .str s, .int .i64 n] (· = .d (.bool true))) : ∀ xs, Parts [fun d => ∃ o : Out, d = eO o, rS, rI .i64] xs → CallP Try.prog f xs (· = .d (.bool true)) := by
  intro xs hp
  obtain ⟨_, _, rfl, ⟨o, rfl⟩, hp1⟩ := parts_cons hp
  obtain ⟨_, _, rfl, ⟨s, _, rfl⟩, hp2⟩ := parts_cons hp1
  obtain ⟨_, _, rfl, ⟨n, _, rfl⟩, hp3⟩ := parts_cons hp2
  obtain rfl := parts_nil hp3
  exact h o s n
theorem call2 {g : FuncId} (h : ∀ (i : In) (f : Fr), CallP Try.prog g [eI i, eF f] (· = .d (.bool true))) : ∀ xs, Parts [fun d => ∃ i : In, d = eI i, fun d => ∃ f : Fr, True ∧ d = eF f] xs → CallP Try.prog g xs (· = .d (.bool true)) := by
  intro xs hp
  obtain ⟨_, _, rfl, ⟨i, rfl⟩, hp1⟩ := parts_cons hp
  obtain ⟨_, _, rfl, ⟨f, _, rfl⟩, hp2⟩ := parts_cons hp1
  obtain rfl := parts_nil hp2
  exact h i f
theorem own : ownKnob Try.prog.godebug = none := by kernel_rfl
end Go.Proofs.Ytedmmfbebecobaa
