/-
  Layer 42 (cache): what the arguments of the statements read as.
  Conditions: none.
-/
import Derived.Test.YtpooocblijlabaaF42l
import Derived.Test.YtpooocblijlabaaEL1
import Derived.Test.YtpooocblijlabaaRows
namespace Go.Proofs.Ytpooocblijlabaa
open Go Go.E2 C42
abbrev rI (k : IntKind) : D → Prop := fun d => ∃ n, (Lit.int k n).wf = true ∧ d = .int k n
abbrev rS : D → Prop := fun d => ∃ s : List UInt8, s.length ≤ maxLen ∧ d = .str s
theorem rd3 : Reads Try.prog 3 false (fun d => ∃ n, (Lit.int .i64 n).wf = true ∧ d = .int .i64 n) := reads_int (by kernel_rfl)
theorem rd5 : Reads Try.prog 5 false (fun d => ∃ n, (Lit.int .u8 n).wf = true ∧ d = .int .u8 n) := reads_int (by kernel_rfl)
theorem rd9 : Reads Try.prog 9 false (fun d => ∃ s : List UInt8, s.length ≤ maxLen ∧ d = .str s) := reads_string (by kernel_rfl)
theorem wf_i64 {n : Int} (h : (Lit.int .i64 n).wf = true) : i64 n := by
  unfold i64
  simpa [Lit.wf, IntKind.min, IntKind.max, IntKind.signed, IntKind.bits] using h
theorem wf_u8 {n : Int} (h : (Lit.int .u8 n).wf = true) : 0 ≤ n ∧ n ≤ 255 := by simpa [Lit.wf, IntKind.min, IntKind.max, IntKind.signed, IntKind.bits] using h
def okK (k : Kept) : Prop := i64 k.object ∧ i64 k.chunk
theorem rd26 : Reads Try.prog 26 false (fun d => ∃ k : Kept, okK k ∧ d = eK k) :=
  reads_mono (reads_struct (Rs := [rI .i64, rI .i64, rI .i64, rS, rI .i64, rI .i64, rI .i64]) (fs := fieldsOf Try.prog 26) (by kernel_rfl) (lay_of (l := [(0, 3), (1, 3), (2, 3), (3, 9), (4, 3), (5, 3), (6, 3)]) (by kernel_rfl)
    ⟨rfl, rd3, by kernel_rfl, rd3, by kernel_rfl, rd3, by kernel_rfl, rd9, by kernel_rfl, rd3, by kernel_rfl, rd3, by kernel_rfl, rd3, trivial⟩) (by kernel_rfl)) (by
    rintro d ⟨parts, hp, rfl⟩
    obtain ⟨_, _, rfl, ⟨a, ha, rfl⟩, hp1⟩ := parts_cons hp
    obtain ⟨_, _, rfl, ⟨b, hb, rfl⟩, hp2⟩ := parts_cons hp1
    obtain ⟨_, _, rfl, ⟨c, _, rfl⟩, hp3⟩ := parts_cons hp2
    obtain ⟨_, _, rfl, ⟨s, _, rfl⟩, hp4⟩ := parts_cons hp3
    obtain ⟨_, _, rfl, ⟨f, _, rfl⟩, hp5⟩ := parts_cons hp4
    obtain ⟨_, _, rfl, ⟨g, _, rfl⟩, hp6⟩ := parts_cons hp5
    obtain ⟨_, _, rfl, ⟨h, _, rfl⟩, hp7⟩ := parts_cons hp6
    obtain rfl := parts_nil hp7
    exact ⟨⟨a, b, c, s, f, g, h⟩, ⟨wf_i64 ha, wf_i64 hb⟩, rfl⟩)
theorem rd22 : Reads Try.prog 22 true (fun d => ∃ l : List Kept, d = .list (l.map eK)) :=
  reads_mono (reads_slice (e := 26) (sz := 7) (by kernel_rfl) (by kernel_rfl) (by decide) rd26) (by
    rintro d ⟨es, h, _, _, rfl⟩
    obtain ⟨l, _, rfl⟩ := exists_map h
    exact ⟨l, rfl⟩)
theorem rd24 : ReadsV Try.prog 24 (fun d => ∃ c : Cache, d = eC c) :=
  readsV_mono (readsV_struct (fs := fieldsOf Try.prog 24) (by kernel_rfl) (reads_struct (s := true) (Rs := [rI .i64, rI .i64, fun d => ∃ l : List Kept, d = .list (l.map eK)]) (fs := fieldsOf Try.prog 24) (by kernel_rfl) (lay_of (l := [(0, 3), (1, 3), (2, 22)]) (by kernel_rfl)
    ⟨rfl, reads_up rd3, by kernel_rfl, reads_up rd3, by kernel_rfl, rd22, trivial⟩) (by kernel_rfl)) (fun d ⟨p, _, e⟩ => ⟨_, e⟩)) (by
    rintro d ⟨parts, hp, rfl⟩
    obtain ⟨_, _, rfl, ⟨a, _, rfl⟩, hp1⟩ := parts_cons hp
    obtain ⟨_, _, rfl, ⟨b, _, rfl⟩, hp2⟩ := parts_cons hp1
    obtain ⟨_, _, rfl, ⟨l, rfl⟩, hp3⟩ := parts_cons hp2
    obtain rfl := parts_nil hp3
    exact ⟨⟨a, b, l⟩, rfl⟩)
def okO (o : C42.Op) : Prop := (0 ≤ o.kind ∧ o.kind ≤ 255) ∧ i64 o.k.object ∧ i64 o.k.chunk
theorem rd28 : Reads Try.prog 28 false (fun d => ∃ o : C42.Op, okO o ∧ d = eO o) :=
  reads_mono (reads_struct (Rs := [rI .u8, rI .i64, fun d => ∃ k : Kept, okK k ∧ d = eK k]) (fs := fieldsOf Try.prog 28) (by kernel_rfl) (lay_of (l := [(0, 5), (1, 3), (2, 26)]) (by kernel_rfl)
    ⟨rfl, rd5, by kernel_rfl, rd3, by kernel_rfl, rd26, trivial⟩) (by kernel_rfl)) (by
    rintro d ⟨parts, hp, rfl⟩
    obtain ⟨_, _, rfl, ⟨a, ha, rfl⟩, hp1⟩ := parts_cons hp
    obtain ⟨_, _, rfl, ⟨b, _, rfl⟩, hp2⟩ := parts_cons hp1
    obtain ⟨_, _, rfl, ⟨k, hk, rfl⟩, hp3⟩ := parts_cons hp2
    obtain rfl := parts_nil hp3
    exact ⟨⟨a, b, k⟩, ⟨wf_u8 ha, hk⟩, rfl⟩)
theorem rv28 : ReadsV Try.prog 28 (fun d => ∃ o : C42.Op, okO o ∧ d = eO o) := readsV_struct (fs := fieldsOf Try.prog 28) (by kernel_rfl) rd28 (fun d ⟨o, _, e⟩ => ⟨_, e⟩)
theorem rv42 : ReadsV Try.prog 42 (fun d => ∃ l : List C42.Op, (∀ o ∈ l, okO o) ∧ d = .list (l.map eO)) :=
  readsV_mono (readsV_slice (e := 28) (sz := 9) (by kernel_rfl) (by kernel_rfl) (by decide) rd28) (by
    rintro d ⟨es, h, _, _, rfl⟩
    obtain ⟨l, hl, rfl⟩ := exists_map h
    exact ⟨l, hl, rfl⟩)
theorem rv3 : ReadsV Try.prog 3 (fun d => ∃ n, (Lit.int .i64 n).wf = true ∧ d = .int .i64 n) := readsV_int (by kernel_rfl)
theorem lay3 : LayV Try.prog [24, 28, 3] [fun d => ∃ c : Cache, d = eC c, fun d => ∃ o : C42.Op, okO o ∧ d = eO o, rI .i64] := ⟨rd24, rv28, rv3, trivial⟩
theorem lay2 : LayV Try.prog [3, 42] [rI .i64, fun d => ∃ l : List C42.Op, (∀ o ∈ l, okO o) ∧ d = .list (l.map eO)] := ⟨rv3, rv42, trivial⟩
theorem call3 {f : FuncId} (h : ∀ (c : Cache) (o : C42.Op) (room : Int), okO o → CallP Try.prog f [eC c, eO o, .int .i64 room] (· = .d (.bool true))) : ∀ xs, Parts [fun d => ∃ c : Cache, d = eC c, fun d => ∃ o : C42.Op, okO o ∧ d = eO o, rI .i64] xs → CallP Try.prog f xs (· = .d (.bool true)) := by
  intro xs hp
  obtain ⟨_, _, rfl, ⟨c, rfl⟩, hp1⟩ := parts_cons hp
  obtain ⟨_, _, rfl, ⟨o, ho, rfl⟩, hp2⟩ := parts_cons hp1
  obtain ⟨_, _, rfl, ⟨n, _, rfl⟩, hp3⟩ := parts_cons hp2
  obtain rfl := parts_nil hp3
  exact h c o n ho
theorem call2 {f : FuncId} (h : ∀ (room : Int) (l : List C42.Op), i64 room → (∀ o ∈ l, okO o) → CallP Try.prog f [.int .i64 room, .list (l.map eO)] (· = .d (.bool true))) : ∀ xs, Parts [rI .i64, fun d => ∃ l : List C42.Op, (∀ o ∈ l, okO o) ∧ d = .list (l.map eO)] xs → CallP Try.prog f xs (· = .d (.bool true)) := by
  intro xs hp
  obtain ⟨_, _, rfl, ⟨n, hn, rfl⟩, hp1⟩ := parts_cons hp
  obtain ⟨_, _, rfl, ⟨l, hl, rfl⟩, hp2⟩ := parts_cons hp1
  obtain rfl := parts_nil hp2
  exact h n l (wf_i64 hn) hl
theorem own : ownKnob Try.prog.godebug = none := by kernel_rfl
end Go.Proofs.Ytpooocblijlabaa
