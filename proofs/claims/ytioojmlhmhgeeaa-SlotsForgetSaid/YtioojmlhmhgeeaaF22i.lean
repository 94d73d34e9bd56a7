/-
 Layer 21 (disk), continued: the reference's Filled and Same.
 Conditions: of each contract as it says.
-/
import Derived.Test.YtioojmlhmhgeeaaF22f
namespace Go.Proofs.Ytioojmlhmhgeeaa
open Go Go.E2 C22
set_option linter.unusedSimpArgs false
set_option maxHeartbeats 1000000
def byteOf (b : Int) : UInt8 := UInt8.ofNat (b % 256).toNat
def filled (b : Int) : Sec := ⟨List.replicate 64 (byteOf b), by simp⟩
theorem wrap_byte (b : Int) : IntKind.u8.wrap b = ((byteOf b).toNat : Int) := by
 have h1 : 0 ≤ b % 256 := Int.emod_nonneg _ (by omega)
 have h2 : b % 256 < 256 := Int.emod_lt_of_pos _ (by omega)
 have e : (byteOf b).toNat = (b % 256).toNat := by
  unfold byteOf
  rw [UInt8.toNat_ofNat']
  exact Nat.mod_eq_of_lt (by omega)
 rw [e, Int.toNat_of_nonneg h1]
 rfl
end Go.Proofs.Ytioojmlhmhgeeaa
/-
 Layer 21 (disk), continued: sanity.
 Conditions: none.
-/
namespace Go.Proofs.Ytioojmlhmhgeeaa
open Go Go.E2 C22
set_option linter.unusedSimpArgs false
set_option maxHeartbeats 1000000
attribute [go_sem] zr_z0
theorem wA : (wr (fresh 4) 2 (filled 1)).2 = 0 := by decide
end Go.Proofs.Ytioojmlhmhgeeaa
/-
 Layer 21 (disk), continued: possible.
 Conditions: of each contract as it says.
-/
namespace Go.Proofs.Ytioojmlhmhgeeaa
open Go Go.E2 C22
set_option linter.unusedSimpArgs false
set_option maxHeartbeats 1000000
end Go.Proofs.Ytioojmlhmhgeeaa
