/-
 Words: what the operations on bits give,for the encoding of integers.
 Conditions: of each law as it says.
-/
import Derived.Test.YtailhmffljoojaaEN13
import Derived.Test.YtailhmffljoojaaS01
namespace Go.E2
open CW
theorem zea (w n:Nat) (h:n<2 ^ w):(BitVec.ofInt w (n:Int)).toNat=n:=by
 rw [BitVec.toNat_ofInt]
 rw [show ((2 ^ w:Nat):Int)=(2:Int) ^ w from by simp]
 have h2:(n:Int)<2 ^ w:=by exact_mod_cast h
 rw [Int.emod_eq_of_lt (by omega) h2];simp
theorem z6u (a b:Int):zbt .or (.int .u8 a) (.int .u8 b)=some (.int .u8 (IntKind.u8.wrap ((BitVec.ofInt 8 a ||| BitVec.ofInt 8 b).toNat:Int))):=rfl
theorem zr9 (a b:Int):zbt .xor (.int .u64 a) (.int .u64 b)=some (.int .u64 (IntKind.u64.wrap ((BitVec.ofInt 64 a ^^^ BitVec.ofInt 64 b).toNat:Int))):=rfl
theorem z1v (z:Nat):zbt .shr (.int .u64 z) (.int .u64 7)=some (.int .u64 ((z / 128:Nat):Int)):=by
 simp only [zbt]
 rw [if_neg (by omega),Int.fdiv_eq_ediv_of_nonneg _ (Int.pow_nonneg (by omega))]
 rfl
theorem zxq (z:Nat):zbt .or (.int .u8 (IntKind.u8.wrap z)) (.int .u8 128)=some (.int .u8 ((UInt8.ofNat (z % 128+128)).toNat:Int)):=by
 have hw:IntKind.u8.wrap z=((z % 256:Nat):Int):=by
  rw [IntKind.wrap];simp [IntKind.bits,IntKind.signed]
 have h1:=zea 8 (z % 256) (Nat.mod_lt _ (by decide))
 have h2:=zea 8 128 (by decide)
 rw [z6u,BitVec.toNat_or]
 rw [hw,h1,show ((128:Int))=((128:Nat):Int) from rfl,h2,zoh (by omega)]
 have e:z % 256 ||| 128=z % 128+128:=by
  have hm:z % 128<2 ^ 7:=Nat.mod_lt _ (by decide)
  have h3:=Nat.two_pow_add_eq_or_of_lt hm 1
  have h4:z % 256=z % 128∨z % 256=2 ^ 7 * 1+z % 128:=by omega
  rcases h4 with h4|h4
  · rw [h4,Nat.or_comm,show 128=2 ^ 7 * 1 from rfl,← h3];omega
  · rw [h4,h3,show 128=2 ^ 7 * 1 from rfl,Nat.or_comm,← Nat.or_assoc,Nat.or_self,← h3];omega
 rw [e,zqn (by omega) (by omega)]
theorem z6v {n:Int} (h:i64 n):∃ x y:Int,zbt .shl (.int .u64 (IntKind.u64.wrap n)) (.int .u64 1)=some (.int .u64 x)∧zbt .shr (.int .i64 n) (.int .u64 63)=some (.int .i64 y) ∧
 zbt .xor (.int .u64 x) (.int .u64 (IntKind.u64.wrap y))=some (.int .u64 ((zig n:Nat):Int)):=by
 obtain ⟨ha,hb⟩:=h
 refine ⟨IntKind.u64.wrap (IntKind.u64.wrap n * 2),n.fdiv 9223372036854775808,?_,?_,?_⟩
 · simp only [zbt];rw [if_neg (by omega)];rfl
 · simp only [zbt];rw [if_neg (by omega)];rfl
 · by_cases hn:n<0
   · have e1:IntKind.u64.wrap n=n+18446744073709551616:=by
      rw [IntKind.wrap];simp only [IntKind.bits,IntKind.signed];simp;omega
     have e2:IntKind.u64.wrap ((n+18446744073709551616) * 2)=((18446744073709551616+2 * n).toNat:Int):=by
      rw [IntKind.wrap];simp only [IntKind.bits,IntKind.signed];simp;omega
     have e3:n.fdiv 9223372036854775808=-1:=by
      rw [Int.fdiv_eq_ediv_of_nonneg _ (by omega)];omega
     have e4:IntKind.u64.wrap (-1)=18446744073709551615:=by decide
     have h1:=zea 64 (18446744073709551616+2 * n).toNat (by omega)
     rw [e1,e2,e3,e4]
     rw [zr9]
     rw [show BitVec.ofInt 64 18446744073709551615=BitVec.allOnes 64 from by decide,BitVec.xor_allOnes,BitVec.toNat_not,h1,zf5 (by omega) (by omega)]
     unfold zig;rw [if_pos hn];congr 2;omega
   · have e1:IntKind.u64.wrap n=n:=zf5 (by omega) (by omega)
     have e2:IntKind.u64.wrap (n * 2)=(((2 * n).toNat:Nat):Int):=by rw [zf5 (by omega) (by omega)];omega
     have e3:n.fdiv 9223372036854775808=0:=by
      rw [Int.fdiv_eq_ediv_of_nonneg _ (by omega)];omega
     have h1:=zea 64 (2 * n).toNat (by omega)
     rw [e1,e2,e3]
     rw [zr9]
     rw [show BitVec.ofInt 64 (IntKind.u64.wrap 0)=0#64 from by decide,BitVec.xor_zero,h1,zf5 (by omega) (by omega)]
     unfold zig;rw [if_neg hn]
end Go.E2
