/-
 Layer 21 (disk): the statement DiskKeepsWhatIsSure.
 Conditions: none; every input.
-/
import Derived.Test.YtioojmlhmhgeeaaF22l
import Derived.Test.YtioojmlhmhgeeaaS22d
namespace Go.Proofs.Ytioojmlhmhgeeaa
open Go Go.E2 C22
set_option linter.unusedSimpArgs false
set_option maxHeartbeats 1000000
/-! ### the plain law -/
theorem xor_bit (b : UInt8) (t : Nat) : binD .xor (.int .u8 (b.toNat : Int)) (.int .u8 ((2 ^ (t % 8) : Nat) : Int)) = some (eB (b ^^^ (1 <<< UInt8.ofNat (t % 8)))) := by
 have hp : 2 ^ (t % 8) ≤ 128 := by
  have : t % 8 ≤ 7 := by omega
  exact Nat.pow_le_pow_right (by omega) this
 rw [xor_u8 (Int.natCast_nonneg _) (Int.natCast_nonneg _) (by have := b.toNat_lt; omega) (Int.ofNat_le.2 (Nat.le_trans hp (by decide))), eB, bit_xor _ (Nat.mod_lt _ (by omega))]
 rfl
theorem sur_get {cs : List Cel} {i : Nat} (h : i < cs.length) : List.take 64 (List.drop (i * 64) (flat (surL cs))) = cs[i].s.1.map eB := by
 have := flat_get (es := surL cs) (n := i) (surL_ok cs) (e := eS cs[i].s) (by simp [surL, h])
 rw [← this]; rfl
/-! ### the walk -/
end Go.Proofs.Ytioojmlhmhgeeaa
