/-
  No cell of these rows narrows 'for every input' (looked for: loops, veiled, ifaces, maps, wideKeys, modest, calm, conditions, laid).
  DERIVED. THE GIVEN ROWS OF THIS SEAT. 5 by the template 'for every input the law returns true; each argument reads behind the call as it read before'; 0 by the template 'total and deterministic' (their statements: YtbcnnomgfheaoaaTotals.lean).
  GIVEN WITH THE SEED: the statements are not yours to turn. If you find one false, say at which input.
  Laid BY PROGRAM, IN A SANDBOX (cutbox-rows.mjs): the forced cells as the released guide's own fill.sh prints them over the translation d76bf3fae1d6870d… (all of the seat's roots in one cut). By AI agents, Wed Nov 11 2026. No macro, syntax, notation, axiom, sorry.
-/
import Derived.Test.YtbcnnomgfheaoaaChecked
import GoSem.Claim
import GoSem.ClaimJoined
import GoSem.ClaimMapViews
import Derived.JoinedTies
import Derived.KernelRfl
namespace Go.Proofs.Ytbcnnomgfheaoaa
/- THE CELL 'sum', in the pinned program and in every row, IS THE sha256 OF THE DUMP (.gsa) THAT YtbcnnomgfheaoaaProg.lean LOADS. Nothing in Lean hashes anything: it is a label: what it is worth is what the hold of that sum in a sandbox is worth. -/
noncomputable def Try.pinned : Pinned := { name := "ytbcnnomgfheaoaa", sum := "d76bf3fae1d6870dfaadcd6263d2be716de012e74b7fec403c0d79b3a701ac67", checked := Try.checked }
namespace Rows
def none {H : Type} : Left H := { results := [], args := [] }

/-- 'quietuslaw37.LotsCutAsSpecified': WHATEVER THE INPUT: true; the input reads as it did. -/
def lotsCutAsSpecifiedSpec : ChangeSpec := { name := "lotsCutAsSpecified", fn := fun _ => fun
  | [d1, d2] => { results := [.lit (.bool true)], args := [d1, d2] }
  | _ => none }
def lotsCutAsSpecifiedRow : OpenClaim := { program := "ytbcnnomgfheaoaa", sum := "d76bf3fae1d6870dfaadcd6263d2be716de012e74b7fec403c0d79b3a701ac67", func := "quietus/quietuslaw37.LotsCutAsSpecified", spec := "lotsCutAsSpecified", inPlace := ["slices.overlaps[quietus/api.LotObject]", "internal/abi.NoEscape", "internal/bytealg.MakeNoZero"], unfollowed := true, recurses := true, plainKeys := false, apart := false }
def LotsCutAsSpecifiedSaid : Prop := lotsCutAsSpecifiedRow.holds Try.pinned (OpenSpec.ofChange lotsCutAsSpecifiedSpec)

/-- ITS FALSE NEIGHBOUR: 'it returns false'. Refute it at one input. -/
def lotsCutAsSpecifiedWrong : ChangeSpec := { name := "lotsCutAsSpecified", fn := fun _ => fun
  | [d1, d2] => { results := [.lit (.bool false)], args := [d1, d2] }
  | _ => none }
def LotsCutAsSpecifiedWrongFalsely : Prop := lotsCutAsSpecifiedRow.holds Try.pinned (OpenSpec.ofChange lotsCutAsSpecifiedWrong)

/-- 'quietuslaw37.LotsFallInStep': WHATEVER THE INPUT: true; the input reads as it did. -/
def lotsFallInStepSpec : ChangeSpec := { name := "lotsFallInStep", fn := fun _ => fun
  | [d1, d2, d3, d4] => { results := [.lit (.bool true)], args := [d1, d2, d3, d4] }
  | _ => none }
def lotsFallInStepRow : OpenClaim := { program := "ytbcnnomgfheaoaa", sum := "d76bf3fae1d6870dfaadcd6263d2be716de012e74b7fec403c0d79b3a701ac67", func := "quietus/quietuslaw37.LotsFallInStep", spec := "lotsFallInStep", inPlace := ["slices.overlaps[quietus/api.LotObject]", "internal/abi.NoEscape", "internal/bytealg.MakeNoZero"], unfollowed := true, recurses := true, plainKeys := false, apart := false }
def LotsFallInStepSaid : Prop := lotsFallInStepRow.holds Try.pinned (OpenSpec.ofChange lotsFallInStepSpec)

/-- ITS FALSE NEIGHBOUR: 'it returns false'. Refute it at one input. -/
def lotsFallInStepWrong : ChangeSpec := { name := "lotsFallInStep", fn := fun _ => fun
  | [d1, d2, d3, d4] => { results := [.lit (.bool false)], args := [d1, d2, d3, d4] }
  | _ => none }
def LotsFallInStepWrongFalsely : Prop := lotsFallInStepRow.holds Try.pinned (OpenSpec.ofChange lotsFallInStepWrong)

/-- 'quietuslaw37.LotsAreAsSpecified': WHATEVER THE INPUT: true; the input reads as it did. -/
def lotsAreAsSpecifiedSpec : ChangeSpec := { name := "lotsAreAsSpecified", fn := fun _ => fun
  | [d1, d2, d3, d4] => { results := [.lit (.bool true)], args := [d1, d2, d3, d4] }
  | _ => none }
def lotsAreAsSpecifiedRow : OpenClaim := { program := "ytbcnnomgfheaoaa", sum := "d76bf3fae1d6870dfaadcd6263d2be716de012e74b7fec403c0d79b3a701ac67", func := "quietus/quietuslaw37.LotsAreAsSpecified", spec := "lotsAreAsSpecified", inPlace := ["slices.overlaps[quietus/api.LotObject]", "internal/abi.NoEscape", "internal/bytealg.MakeNoZero"], unfollowed := true, recurses := true, plainKeys := false, apart := false }
def LotsAreAsSpecifiedSaid : Prop := lotsAreAsSpecifiedRow.holds Try.pinned (OpenSpec.ofChange lotsAreAsSpecifiedSpec)

/-- ITS FALSE NEIGHBOUR: 'it returns false'. Refute it at one input. -/
def lotsAreAsSpecifiedWrong : ChangeSpec := { name := "lotsAreAsSpecified", fn := fun _ => fun
  | [d1, d2, d3, d4] => { results := [.lit (.bool false)], args := [d1, d2, d3, d4] }
  | _ => none }
def LotsAreAsSpecifiedWrongFalsely : Prop := lotsAreAsSpecifiedRow.holds Try.pinned (OpenSpec.ofChange lotsAreAsSpecifiedWrong)

/-- 'quietuslaw37.LotsKeepObjects': WHATEVER THE INPUT: true; the input reads as it did. -/
def lotsKeepObjectsSpec : ChangeSpec := { name := "lotsKeepObjects", fn := fun _ => fun
  | [d1, d2] => { results := [.lit (.bool true)], args := [d1, d2] }
  | _ => none }
def lotsKeepObjectsRow : OpenClaim := { program := "ytbcnnomgfheaoaa", sum := "d76bf3fae1d6870dfaadcd6263d2be716de012e74b7fec403c0d79b3a701ac67", func := "quietus/quietuslaw37.LotsKeepObjects", spec := "lotsKeepObjects", inPlace := ["slices.overlaps[quietus/api.LotObject]", "internal/abi.NoEscape", "internal/bytealg.MakeNoZero"], unfollowed := true, recurses := true, plainKeys := false, apart := false }
def LotsKeepObjectsSaid : Prop := lotsKeepObjectsRow.holds Try.pinned (OpenSpec.ofChange lotsKeepObjectsSpec)

/-- ITS FALSE NEIGHBOUR: 'it returns false'. Refute it at one input. -/
def lotsKeepObjectsWrong : ChangeSpec := { name := "lotsKeepObjects", fn := fun _ => fun
  | [d1, d2] => { results := [.lit (.bool false)], args := [d1, d2] }
  | _ => none }
def LotsKeepObjectsWrongFalsely : Prop := lotsKeepObjectsRow.holds Try.pinned (OpenSpec.ofChange lotsKeepObjectsWrong)

/-- 'quietuslaw37.LotsForgetByClass': WHATEVER THE INPUT: true; the input reads as it did. -/
def lotsForgetByClassSpec : ChangeSpec := { name := "lotsForgetByClass", fn := fun _ => fun
  | [d1, d2, d3] => { results := [.lit (.bool true)], args := [d1, d2, d3] }
  | _ => none }
def lotsForgetByClassRow : OpenClaim := { program := "ytbcnnomgfheaoaa", sum := "d76bf3fae1d6870dfaadcd6263d2be716de012e74b7fec403c0d79b3a701ac67", func := "quietus/quietuslaw37.LotsForgetByClass", spec := "lotsForgetByClass", inPlace := ["slices.overlaps[quietus/api.LotObject]", "internal/abi.NoEscape", "internal/bytealg.MakeNoZero"], unfollowed := true, recurses := true, plainKeys := false, apart := false }
def LotsForgetByClassSaid : Prop := lotsForgetByClassRow.holds Try.pinned (OpenSpec.ofChange lotsForgetByClassSpec)

/-- ITS FALSE NEIGHBOUR: 'it returns false'. Refute it at one input. -/
def lotsForgetByClassWrong : ChangeSpec := { name := "lotsForgetByClass", fn := fun _ => fun
  | [d1, d2, d3] => { results := [.lit (.bool false)], args := [d1, d2, d3] }
  | _ => none }
def LotsForgetByClassWrongFalsely : Prop := lotsForgetByClassRow.holds Try.pinned (OpenSpec.ofChange lotsForgetByClassWrong)

/- THE SECOND FORM. 'bulk': how many values and letters a reading holds, each counted each time it is reached (what is shared counts as often as it is met; a slice's spare places count too). A statement '..UptoSaid' is the law's where the arguments, and the package variables that the reading takes, are together of bulk at most 1048576: NARROWER than '..Said'. Prove '..Said' where nothing that the law and all that it calls make is longer than what came in: it says more and counts as full. Else prove '..UptoSaid'. A law counts once. -/
mutual
def uptoBulk {H : Type} : DataW H → Nat
  | .lit (.string bytes) => bytes.length + 1
  | .lit _ => 1
  | .nil => 1
  | .ptr d => uptoBulk d + 1
  | .slice elems spare => uptoBulkAll elems + uptoBulkAll spare + 1
  | .agg parts => uptoBulkAll parts + 1
  | .iface _ d => uptoBulk d + 1
  | .map entries => uptoBulkEntries entries + 1
  | .held _ => 1
def uptoBulkAll {H : Type} : List (DataW H) → Nat
  | [] => 0
  | d :: r => uptoBulk d + uptoBulkAll r
def uptoBulkEntries {H : Type} : List (Lit × DataW H) → Nat
  | [] => 0
  | x :: r => uptoBulkEntry x + uptoBulkEntries r
def uptoBulkEntry {H : Type} : Lit × DataW H → Nat
  | (.string bytes, d) => bytes.length + uptoBulk d + 1
  | (_, d) => uptoBulk d + 1
 end
def uptoSmall : (H : Type) → List (DataW H) → Bool := fun _ ds => decide (uptoBulkAll ds ≤ 1048576)
def OpenSpec.upto (s : _root_.Go.ChangeSpec) : _root_.Go.OpenSpec := { _root_.Go.OpenSpec.ofChange s with cond := some uptoSmall }

/-- 'quietuslaw37.LotsCutAsSpecified', WHERE WHAT IT READS IS OF BULK AT MOST 1048576: true; the input reads as it did. -/
def lotsCutAsSpecifiedUptoRow : OpenClaim := { program := "ytbcnnomgfheaoaa", sum := "d76bf3fae1d6870dfaadcd6263d2be716de012e74b7fec403c0d79b3a701ac67", func := "quietus/quietuslaw37.LotsCutAsSpecified", spec := "lotsCutAsSpecified", inPlace := ["slices.overlaps[quietus/api.LotObject]", "internal/abi.NoEscape", "internal/bytealg.MakeNoZero"], unfollowed := true, recurses := true, plainKeys := false, apart := false, narrowed := true }
def LotsCutAsSpecifiedUptoSaid : Prop := lotsCutAsSpecifiedUptoRow.holds Try.pinned (OpenSpec.upto lotsCutAsSpecifiedSpec)

/-- 'quietuslaw37.LotsFallInStep', WHERE WHAT IT READS IS OF BULK AT MOST 1048576: true; the input reads as it did. -/
def lotsFallInStepUptoRow : OpenClaim := { program := "ytbcnnomgfheaoaa", sum := "d76bf3fae1d6870dfaadcd6263d2be716de012e74b7fec403c0d79b3a701ac67", func := "quietus/quietuslaw37.LotsFallInStep", spec := "lotsFallInStep", inPlace := ["slices.overlaps[quietus/api.LotObject]", "internal/abi.NoEscape", "internal/bytealg.MakeNoZero"], unfollowed := true, recurses := true, plainKeys := false, apart := false, narrowed := true }
def LotsFallInStepUptoSaid : Prop := lotsFallInStepUptoRow.holds Try.pinned (OpenSpec.upto lotsFallInStepSpec)

/-- 'quietuslaw37.LotsAreAsSpecified', WHERE WHAT IT READS IS OF BULK AT MOST 1048576: true; the input reads as it did. -/
def lotsAreAsSpecifiedUptoRow : OpenClaim := { program := "ytbcnnomgfheaoaa", sum := "d76bf3fae1d6870dfaadcd6263d2be716de012e74b7fec403c0d79b3a701ac67", func := "quietus/quietuslaw37.LotsAreAsSpecified", spec := "lotsAreAsSpecified", inPlace := ["slices.overlaps[quietus/api.LotObject]", "internal/abi.NoEscape", "internal/bytealg.MakeNoZero"], unfollowed := true, recurses := true, plainKeys := false, apart := false, narrowed := true }
def LotsAreAsSpecifiedUptoSaid : Prop := lotsAreAsSpecifiedUptoRow.holds Try.pinned (OpenSpec.upto lotsAreAsSpecifiedSpec)

/-- 'quietuslaw37.LotsKeepObjects', WHERE WHAT IT READS IS OF BULK AT MOST 1048576: true; the input reads as it did. -/
def lotsKeepObjectsUptoRow : OpenClaim := { program := "ytbcnnomgfheaoaa", sum := "d76bf3fae1d6870dfaadcd6263d2be716de012e74b7fec403c0d79b3a701ac67", func := "quietus/quietuslaw37.LotsKeepObjects", spec := "lotsKeepObjects", inPlace := ["slices.overlaps[quietus/api.LotObject]", "internal/abi.NoEscape", "internal/bytealg.MakeNoZero"], unfollowed := true, recurses := true, plainKeys := false, apart := false, narrowed := true }
def LotsKeepObjectsUptoSaid : Prop := lotsKeepObjectsUptoRow.holds Try.pinned (OpenSpec.upto lotsKeepObjectsSpec)

/-- 'quietuslaw37.LotsForgetByClass', WHERE WHAT IT READS IS OF BULK AT MOST 1048576: true; the input reads as it did. -/
def lotsForgetByClassUptoRow : OpenClaim := { program := "ytbcnnomgfheaoaa", sum := "d76bf3fae1d6870dfaadcd6263d2be716de012e74b7fec403c0d79b3a701ac67", func := "quietus/quietuslaw37.LotsForgetByClass", spec := "lotsForgetByClass", inPlace := ["slices.overlaps[quietus/api.LotObject]", "internal/abi.NoEscape", "internal/bytealg.MakeNoZero"], unfollowed := true, recurses := true, plainKeys := false, apart := false, narrowed := true }
def LotsForgetByClassUptoSaid : Prop := lotsForgetByClassUptoRow.holds Try.pinned (OpenSpec.upto lotsForgetByClassSpec)

end Rows
end Go.Proofs.Ytbcnnomgfheaoaa
