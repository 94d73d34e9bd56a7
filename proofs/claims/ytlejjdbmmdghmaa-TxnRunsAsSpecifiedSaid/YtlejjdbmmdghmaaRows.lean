/-
  No cell of these rows narrows 'for every input' (looked for: loops, veiled, ifaces, maps, wideKeys, modest, calm, conditions, laid).
  DERIVED. THE GIVEN ROWS OF THIS SEAT. 5 by the template 'for every input the law returns true; each argument reads behind the call as it read before'; 0 by the template 'total and deterministic' (their statements: YtlejjdbmmdghmaaTotals.lean).
  GIVEN WITH THE SEED: the statements are not yours to turn. If you find one false, say at which input.
  Laid BY PROGRAM, IN A SANDBOX (cutbox-rows.mjs): the forced cells as the released guide's own fill.sh prints them over the translation b996ad7f4f8da72b… (all of the seat's roots in one cut). By AI agents, Wed Nov 11 2026. No macro, syntax, notation, axiom, sorry.
-/
import Derived.Test.YtlejjdbmmdghmaaChecked
import GoSem.Claim
import GoSem.ClaimJoined
import GoSem.ClaimMapViews
import Derived.JoinedTies
import Derived.KernelRfl
namespace Go.Proofs.Ytlejjdbmmdghmaa
/- THE CELL 'sum', in the pinned program and in every row, IS THE sha256 OF THE DUMP (.gsa) THAT YtlejjdbmmdghmaaProg.lean LOADS. Nothing in Lean hashes anything: it is a label: what it is worth is what the hold of that sum in a sandbox is worth. -/
noncomputable def Try.pinned : Pinned := { name := "ytlejjdbmmdghmaa", sum := "b996ad7f4f8da72b5bac41557c6b012b5cda20c9b6ef60542f55217e8db5581e", checked := Try.checked }
namespace Rows
def none {H : Type} : Left H := { results := [], args := [] }

/-- 'quietuslaw40.TxnSitesAsSpecified': WHATEVER THE INPUT: true; the input reads as it did. -/
def txnSitesAsSpecifiedSpec : ChangeSpec := { name := "txnSitesAsSpecified", fn := fun _ => fun
  | [d1, d2] => { results := [.lit (.bool true)], args := [d1, d2] }
  | _ => none }
def txnSitesAsSpecifiedRow : OpenClaim := { program := "ytlejjdbmmdghmaa", sum := "b996ad7f4f8da72b5bac41557c6b012b5cda20c9b6ef60542f55217e8db5581e", func := "quietus/quietuslaw40.TxnSitesAsSpecified", spec := "txnSitesAsSpecified", unfollowed := true, recurses := true, apart := false }
def TxnSitesAsSpecifiedSaid : Prop := txnSitesAsSpecifiedRow.holds Try.pinned (OpenSpec.ofChange txnSitesAsSpecifiedSpec)

/-- ITS FALSE NEIGHBOUR: 'it returns false'. Refute it at one input. -/
def txnSitesAsSpecifiedWrong : ChangeSpec := { name := "txnSitesAsSpecified", fn := fun _ => fun
  | [d1, d2] => { results := [.lit (.bool false)], args := [d1, d2] }
  | _ => none }
def TxnSitesAsSpecifiedWrongFalsely : Prop := txnSitesAsSpecifiedRow.holds Try.pinned (OpenSpec.ofChange txnSitesAsSpecifiedWrong)

/-- 'quietuslaw40.TxnRunsAsSpecified': WHATEVER THE INPUT: true; the input reads as it did. -/
def txnRunsAsSpecifiedSpec : ChangeSpec := { name := "txnRunsAsSpecified", fn := fun _ => fun
  | [d] => { results := [.lit (.bool true)], args := [d] }
  | _ => none }
def txnRunsAsSpecifiedRow : OpenClaim := { program := "ytlejjdbmmdghmaa", sum := "b996ad7f4f8da72b5bac41557c6b012b5cda20c9b6ef60542f55217e8db5581e", func := "quietus/quietuslaw40.TxnRunsAsSpecified", spec := "txnRunsAsSpecified", unfollowed := true, recurses := true, apart := false }
def TxnRunsAsSpecifiedSaid : Prop := txnRunsAsSpecifiedRow.holds Try.pinned (OpenSpec.ofChange txnRunsAsSpecifiedSpec)

/-- ITS FALSE NEIGHBOUR: 'it returns false'. Refute it at one input. -/
def txnRunsAsSpecifiedWrong : ChangeSpec := { name := "txnRunsAsSpecified", fn := fun _ => fun
  | [d] => { results := [.lit (.bool false)], args := [d] }
  | _ => none }
def TxnRunsAsSpecifiedWrongFalsely : Prop := txnRunsAsSpecifiedRow.holds Try.pinned (OpenSpec.ofChange txnRunsAsSpecifiedWrong)

/-- 'quietuslaw40.TxnIsSerializable': WHATEVER THE INPUT: true; the input reads as it did. -/
def txnIsSerializableSpec : ChangeSpec := { name := "txnIsSerializable", fn := fun _ => fun
  | [d1, d2] => { results := [.lit (.bool true)], args := [d1, d2] }
  | _ => none }
def txnIsSerializableRow : OpenClaim := { program := "ytlejjdbmmdghmaa", sum := "b996ad7f4f8da72b5bac41557c6b012b5cda20c9b6ef60542f55217e8db5581e", func := "quietus/quietuslaw40.TxnIsSerializable", spec := "txnIsSerializable", unfollowed := true, recurses := true, apart := false }
def TxnIsSerializableSaid : Prop := txnIsSerializableRow.holds Try.pinned (OpenSpec.ofChange txnIsSerializableSpec)

/-- ITS FALSE NEIGHBOUR: 'it returns false'. Refute it at one input. -/
def txnIsSerializableWrong : ChangeSpec := { name := "txnIsSerializable", fn := fun _ => fun
  | [d1, d2] => { results := [.lit (.bool false)], args := [d1, d2] }
  | _ => none }
def TxnIsSerializableWrongFalsely : Prop := txnIsSerializableRow.holds Try.pinned (OpenSpec.ofChange txnIsSerializableWrong)

/-- 'quietuslaw40.TxnLeavesNoTrace': WHATEVER THE INPUT: true; the input reads as it did. -/
def txnLeavesNoTraceSpec : ChangeSpec := { name := "txnLeavesNoTrace", fn := fun _ => fun
  | [d1, d2, d3, d4] => { results := [.lit (.bool true)], args := [d1, d2, d3, d4] }
  | _ => none }
def txnLeavesNoTraceRow : OpenClaim := { program := "ytlejjdbmmdghmaa", sum := "b996ad7f4f8da72b5bac41557c6b012b5cda20c9b6ef60542f55217e8db5581e", func := "quietus/quietuslaw40.TxnLeavesNoTrace", spec := "txnLeavesNoTrace", unfollowed := true, recurses := true, apart := false }
def TxnLeavesNoTraceSaid : Prop := txnLeavesNoTraceRow.holds Try.pinned (OpenSpec.ofChange txnLeavesNoTraceSpec)

/-- ITS FALSE NEIGHBOUR: 'it returns false'. Refute it at one input. -/
def txnLeavesNoTraceWrong : ChangeSpec := { name := "txnLeavesNoTrace", fn := fun _ => fun
  | [d1, d2, d3, d4] => { results := [.lit (.bool false)], args := [d1, d2, d3, d4] }
  | _ => none }
def TxnLeavesNoTraceWrongFalsely : Prop := txnLeavesNoTraceRow.holds Try.pinned (OpenSpec.ofChange txnLeavesNoTraceWrong)

/-- 'quietuslaw40.TxnIsAtomic': WHATEVER THE INPUT: true; the input reads as it did. -/
def txnIsAtomicSpec : ChangeSpec := { name := "txnIsAtomic", fn := fun _ => fun
  | [d] => { results := [.lit (.bool true)], args := [d] }
  | _ => none }
def txnIsAtomicRow : OpenClaim := { program := "ytlejjdbmmdghmaa", sum := "b996ad7f4f8da72b5bac41557c6b012b5cda20c9b6ef60542f55217e8db5581e", func := "quietus/quietuslaw40.TxnIsAtomic", spec := "txnIsAtomic", unfollowed := true, recurses := true, apart := false }
def TxnIsAtomicSaid : Prop := txnIsAtomicRow.holds Try.pinned (OpenSpec.ofChange txnIsAtomicSpec)

/-- ITS FALSE NEIGHBOUR: 'it returns false'. Refute it at one input. -/
def txnIsAtomicWrong : ChangeSpec := { name := "txnIsAtomic", fn := fun _ => fun
  | [d] => { results := [.lit (.bool false)], args := [d] }
  | _ => none }
def TxnIsAtomicWrongFalsely : Prop := txnIsAtomicRow.holds Try.pinned (OpenSpec.ofChange txnIsAtomicWrong)

/- THE SECOND FORM. 'bulk': how many values and letters a reading holds, each counted each time it is reached (what is shared counts as often as it is met; a slice's spare places count too). A statement '..UptoSaid' is the law's where the arguments, and the package variables that the reading takes, are together of bulk at most 1048576: NARROWER than '..Said'. Prove '..Said' where nothing that the law and all that it calls make is longer than what came in: it says more and counts as full. Else prove '..UptoSaid'. A law counts once. -/
mutual
def uptoBulk {H : Type} : DataW H → Nat
  | .lit (.string bytes) => bytes.length + 1
  | .lit _ => 1
  | .nil => 1
  | .ptr d => uptoBulk d + 1
  | .slice elems spare => uptoBulkAll elems + uptoBulkAll spare + 1
  | .agg parts => uptoBulkAll parts + 1
  | .iface _ d => uptoBulk d + 1
  | .map entries => uptoBulkEntries entries + 1
  | .held _ => 1
def uptoBulkAll {H : Type} : List (DataW H) → Nat
  | [] => 0
  | d :: r => uptoBulk d + uptoBulkAll r
def uptoBulkEntries {H : Type} : List (Lit × DataW H) → Nat
  | [] => 0
  | x :: r => uptoBulkEntry x + uptoBulkEntries r
def uptoBulkEntry {H : Type} : Lit × DataW H → Nat
  | (.string bytes, d) => bytes.length + uptoBulk d + 1
  | (_, d) => uptoBulk d + 1
 end
def uptoSmall : (H : Type) → List (DataW H) → Bool := fun _ ds => decide (uptoBulkAll ds ≤ 1048576)
def OpenSpec.upto (s : _root_.Go.ChangeSpec) : _root_.Go.OpenSpec := { _root_.Go.OpenSpec.ofChange s with cond := some uptoSmall }

/-- 'quietuslaw40.TxnSitesAsSpecified', WHERE WHAT IT READS IS OF BULK AT MOST 1048576: true; the input reads as it did. -/
def txnSitesAsSpecifiedUptoRow : OpenClaim := { program := "ytlejjdbmmdghmaa", sum := "b996ad7f4f8da72b5bac41557c6b012b5cda20c9b6ef60542f55217e8db5581e", func := "quietus/quietuslaw40.TxnSitesAsSpecified", spec := "txnSitesAsSpecified", unfollowed := true, recurses := true, apart := false, narrowed := true }
def TxnSitesAsSpecifiedUptoSaid : Prop := txnSitesAsSpecifiedUptoRow.holds Try.pinned (OpenSpec.upto txnSitesAsSpecifiedSpec)

/-- 'quietuslaw40.TxnRunsAsSpecified', WHERE WHAT IT READS IS OF BULK AT MOST 1048576: true; the input reads as it did. -/
def txnRunsAsSpecifiedUptoRow : OpenClaim := { program := "ytlejjdbmmdghmaa", sum := "b996ad7f4f8da72b5bac41557c6b012b5cda20c9b6ef60542f55217e8db5581e", func := "quietus/quietuslaw40.TxnRunsAsSpecified", spec := "txnRunsAsSpecified", unfollowed := true, recurses := true, apart := false, narrowed := true }
def TxnRunsAsSpecifiedUptoSaid : Prop := txnRunsAsSpecifiedUptoRow.holds Try.pinned (OpenSpec.upto txnRunsAsSpecifiedSpec)

/-- 'quietuslaw40.TxnIsSerializable', WHERE WHAT IT READS IS OF BULK AT MOST 1048576: true; the input reads as it did. -/
def txnIsSerializableUptoRow : OpenClaim := { program := "ytlejjdbmmdghmaa", sum := "b996ad7f4f8da72b5bac41557c6b012b5cda20c9b6ef60542f55217e8db5581e", func := "quietus/quietuslaw40.TxnIsSerializable", spec := "txnIsSerializable", unfollowed := true, recurses := true, apart := false, narrowed := true }
def TxnIsSerializableUptoSaid : Prop := txnIsSerializableUptoRow.holds Try.pinned (OpenSpec.upto txnIsSerializableSpec)

/-- 'quietuslaw40.TxnLeavesNoTrace', WHERE WHAT IT READS IS OF BULK AT MOST 1048576: true; the input reads as it did. -/
def txnLeavesNoTraceUptoRow : OpenClaim := { program := "ytlejjdbmmdghmaa", sum := "b996ad7f4f8da72b5bac41557c6b012b5cda20c9b6ef60542f55217e8db5581e", func := "quietus/quietuslaw40.TxnLeavesNoTrace", spec := "txnLeavesNoTrace", unfollowed := true, recurses := true, apart := false, narrowed := true }
def TxnLeavesNoTraceUptoSaid : Prop := txnLeavesNoTraceUptoRow.holds Try.pinned (OpenSpec.upto txnLeavesNoTraceSpec)

/-- 'quietuslaw40.TxnIsAtomic', WHERE WHAT IT READS IS OF BULK AT MOST 1048576: true; the input reads as it did. -/
def txnIsAtomicUptoRow : OpenClaim := { program := "ytlejjdbmmdghmaa", sum := "b996ad7f4f8da72b5bac41557c6b012b5cda20c9b6ef60542f55217e8db5581e", func := "quietus/quietuslaw40.TxnIsAtomic", spec := "txnIsAtomic", unfollowed := true, recurses := true, apart := false, narrowed := true }
def TxnIsAtomicUptoSaid : Prop := txnIsAtomicUptoRow.holds Try.pinned (OpenSpec.upto txnIsAtomicSpec)

end Rows
end Go.Proofs.Ytlejjdbmmdghmaa
