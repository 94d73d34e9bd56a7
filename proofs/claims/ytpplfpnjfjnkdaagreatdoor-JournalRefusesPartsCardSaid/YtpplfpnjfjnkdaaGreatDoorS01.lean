/-
 The encoding of integers,byte strings and lists as bytes,in plain mathematics.
 Conditions: none;definitions and laws with no program in sight.
-/
import Derived.Test.YtpplfpnjfjnkdaaGreatDoorEN13
namespace CW
abbrev Str:=List UInt8
def zig (n:Int):Nat:=if n<0 then (2 * (-1 - n)+1).toNat else (2 * n).toNat
def leb (z:Nat):Str:=if h:z<128 then [UInt8.ofNat z] else UInt8.ofNat (z % 128+128)::leb (z / 128)
termination_by z
decreasing_by omega
theorem zsq {z:Nat} (h:z<128):leb z=[UInt8.ofNat z]:=by rw [leb,dif_pos h]
theorem zxt {z:Nat} (h:¬ z<128):leb z=UInt8.ofNat (z % 128+128)::leb (z / 128):=by rw [leb,dif_neg h]
def intB (n:Int):Str:=leb (zig n)
def zd5 (s:Str):Str:=intB s.length++s
def i64 (n:Int):Prop:=-9223372036854775808≤n∧n≤9223372036854775807
theorem zxu {n:Int} (h:i64 n):zig n<18446744073709551616:=by
 obtain ⟨h1,h2⟩:=h
 unfold zig;split<;>omega
theorem zxv:∀ (k z:Nat),z<128 ^ (k+1)→(leb z).length≤k+1
 | 0,z,h=>by rw [zsq (by simpa using h)];simp
 | k+1,z,h=>by
   by_cases h1:z<128
   · rw [zsq h1];simp
   · rw [zxt h1,List.length_cons]
     have:=zxv k (z / 128) (Nat.div_lt_of_lt_mul (by rw [Nat.mul_comm,← Nat.pow_succ];exact h))
     omega
theorem zdn {n:Int} (h:i64 n):(intB n).length≤10:=zxv 9 _ (yluQ (zxu h) (by decide))
def val:Str→Nat
 | []=>0
 | c::r=>c.toNat % 128+128 * val r
theorem zjp {z:Nat} (h:z<256):(UInt8.ofNat z).toNat=z:=by
 rw [UInt8.toNat_ofNat'];exact Nat.mod_eq_of_lt h
end CW
namespace CH
open CW
abbrev W32:=BitVec 32
def rr (x:W32) (n:Nat):W32:=x >>> n ||| x <<< (32 - n)
theorem z4w (x:W32) {n:Nat}:x <<< (32 - n) ||| x >>> n=rr x n:=BitVec.or_comm _ _
def s0 (x:W32):W32:=rr x 7 ^^^ rr x 18 ^^^ x >>> 3
def s1 (x:W32):W32:=rr x 17 ^^^ rr x 19 ^^^ x >>> 10
def b1 (x:W32):W32:=rr x 6 ^^^ rr x 11 ^^^ rr x 25
def b0 (x:W32):W32:=rr x 2 ^^^ rr x 13 ^^^ rr x 22
def ch (x y z:W32):W32:=(x &&& y) ^^^ (~~~x &&& z)
def maj (x y z:W32):W32:=(x &&& y) ^^^ (x &&& z) ^^^ (y &&& z)
def wOf (b:UInt8):W32:=BitVec.ofNat 32 b.toNat
def w4 (b:List UInt8):W32:=b.foldl (fun n x=>n <<< 8 ||| wOf x) 0
def kK:List W32:=[
 0x428a2f98,0x71374491,0xb5c0fbcf,0xe9b5dba5,0x3956c25b,0x59f111f1,0x923f82a4,0xab1c5ed5,
 0xd807aa98,0x12835b01,0x243185be,0x550c7dc3,0x72be5d74,0x80deb1fe,0x9bdc06a7,0xc19bf174,
 0xe49b69c1,0xefbe4786,0x0fc19dc6,0x240ca1cc,0x2de92c6f,0x4a7484aa,0x5cb0a9dc,0x76f988da,
 0x983e5152,0xa831c66d,0xb00327c8,0xbf597fc7,0xc6e00bf3,0xd5a79147,0x06ca6351,0x14292967,
 0x27b70a85,0x2e1b2138,0x4d2c6dfc,0x53380d13,0x650a7354,0x766a0abb,0x81c2c92e,0x92722c85,
 0xa2bfe8a1,0xa81a664b,0xc24b8b70,0xc76c51a3,0xd192e819,0xd6990624,0xf40e3585,0x106aa070,
 0x19a4c116,0x1e376c08,0x2748774c,0x34b0bcb5,0x391c0cb3,0x4ed8aa4a,0x5b9cca4f,0x682e6ff3,
 0x748f82ee,0x78a5636f,0x84c87814,0x8cc70208,0x90befffa,0xa4506ceb,0xbef9a3f7,0xc67178f2]
theorem zxw:kK.length=64:=rfl
def zrb (w:List W32):W32:=w.getD (w.length - 16) 0+s0 (w.getD (w.length - 15) 0)+w.getD (w.length - 7) 0+s1 (w.getD (w.length - 2) 0)
def sch (b:List UInt8):Nat→List W32
 | 0=>[]
 | t+1=>sch b t++[if t<16 then w4 ((b.drop (4 * t)).take 4) else zrb (sch b t)]
theorem znh (b:List UInt8):∀ t,(sch b t).length=t
 | 0=>rfl
 | t+1=>by rw [sch,yk2Q,znh b t];rfl
structure H8 where
 (a b c d e f g h:W32)
deriving DecidableEq
def H8.list (s:H8):List W32:=[s.a,s.b,s.c,s.d,s.e,s.f,s.g,s.h]
def rnd (s:H8) (k w:W32):H8 :=
 ⟨s.h+b1 s.e+ch s.e s.f s.g+k+w+(b0 s.a+maj s.a s.b s.c),s.a,s.b,s.c,s.d+(s.h+b1 s.e+ch s.e s.f s.g+k+w),s.e,s.f,s.g⟩
def z4x (s:H8) (w:List W32):Nat→H8
 | 0=>s
 | t+1=>rnd (z4x s w t) (kK.getD t 0) (w.getD t 0)
def H8.add (s v:H8):H8:=⟨s.a+v.a,s.b+v.b,s.c+v.c,s.d+v.d,s.e+v.e,s.f+v.f,s.g+v.g,s.h+v.h⟩
def comp (s:H8) (b:List UInt8):H8:=s.add (z4x s (sch b 64) 64)
def iv:H8:=⟨0x6a09e667,0xbb67ae85,0x3c6ef372,0xa54ff53a,0x510e527f,0x9b05688c,0x1f83d9ab,0x5be0cd19⟩
def hb (m:List UInt8):Nat→H8
 | 0=>iv
 | n+1=>comp (hb m n) ((m.drop (64 * n)).take 64)
theorem zxx (m x:List UInt8):∀ n,64 * n≤m.length→hb (m++x) n=hb m n
 | 0,_=>rfl
 | n+1,h=>by
   rw [hb,hb,zxx m x n (by omega),List.drop_append_of_le_length (by omega),List.take_append_of_le_length (by rw [ylfQ];omega)]
def be8 (n:Nat):List UInt8:=[UInt8.ofNat (n / 2 ^ 56),UInt8.ofNat (n / 2 ^ 48),UInt8.ofNat (n / 2 ^ 40),UInt8.ofNat (n / 2 ^ 32),UInt8.ofNat (n / 2 ^ 24),UInt8.ofNat (n / 2 ^ 16),UInt8.ofNat (n / 2 ^ 8),UInt8.ofNat n]
def zs (n:Nat):Nat:=(119 - n % 64) % 64
def zfs (n:Nat):List UInt8:=128::(List.replicate (zs n) 0++be8 (8 * n))
theorem zkv (n:Nat):(zfs n).length=zs n+9:=by simp [zfs,be8]
theorem zxy (n:Nat):(n+(zfs n).length) % 64=0:=by rw [zkv,zs];omega
def z2c (w:W32):List UInt8:=[UInt8.ofNat (w.toNat / 2 ^ 24),UInt8.ofNat (w.toNat / 2 ^ 16),UInt8.ofNat (w.toNat / 2 ^ 8),UInt8.ofNat w.toNat]
def H8.bytes (s:H8):List UInt8:=s.list.flatMap z2c
theorem H8.bytes_len (s:H8):s.bytes.length=32:=rfl
def sha (m:List UInt8):List UInt8:=(hb (m++zfs m.length) ((m.length+(zfs m.length).length) / 64)).bytes
theorem zrc (m:List UInt8):(sha m).length=32:=H8.bytes_len _
def inp (tag:Nat) (parts:List Str):List UInt8:=UInt8.ofNat tag::(parts.map zd5).flatten
def dig (tag:Nat) (parts:List Str):List UInt8:=(sha (inp tag parts)).take 16
theorem dig_len (tag:Nat) (parts:List Str):(dig tag parts).length=16:=by rw [dig,yk4Q,zrc];rfl
example:sha [97,98,99]=[0xba,0x78,0x16,0xbf,0x8f,0x01,0xcf,0xea,0x41,0x41,0x40,0xde,0x5d,0xae,0x22,0x23,0xb0,0x03,0x61,0xa3,0x96,0x17,0x7a,0x9c,0xb4,0x10,0xff,0x61,0xf2,0x00,0x15,0xad]:=by decide +kernel
end CH
namespace Go.E2
open CW
theorem zce (w n:Nat) (h:n<2 ^ w):(BitVec.ofInt w (n:Int)).toNat=n:=by
 rw [BitVec.toNat_ofInt]
 rw [show ((2 ^ w:Nat):Int)=(2:Int) ^ w from by simp]
 have h2:(n:Int)<2 ^ w:=by exact_mod_cast h
 rw [Int.emod_eq_of_lt (by omega) h2];simp
theorem b_or8 (a b:Int):za4 .or (.int .u8 a) (.int .u8 b)=some (.int .u8 (IntKind.u8.wrap ((BitVec.ofInt 8 a ||| BitVec.ofInt 8 b).toNat:Int))):=rfl
theorem zxz (a b:Int):za4 .xor (.int .u64 a) (.int .u64 b)=some (.int .u64 (IntKind.u64.wrap ((BitVec.ofInt 64 a ^^^ BitVec.ofInt 64 b).toNat:Int))):=rfl
theorem z9p (z:Nat):za4 .shr (.int .u64 z) (.int .u64 7)=some (.int .u64 ((z / 128:Nat):Int)):=by
 simp only [za4]
 rw [if_neg (by omega),Int.fdiv_eq_ediv_of_nonneg _ (Int.pow_nonneg (by omega))]
 rfl
theorem z4y (z:Nat):za4 .or (.int .u8 (IntKind.u8.wrap z)) (.int .u8 128)=some (.int .u8 ((UInt8.ofNat (z % 128+128)).toNat:Int)):=by
 have hw:IntKind.u8.wrap z=((z % 256:Nat):Int):=by
  rw [IntKind.wrap];simp [IntKind.bits,IntKind.signed]
 have h1:=zce 8 (z % 256) (Nat.mod_lt _ (by decide))
 have h2:=zce 8 128 (by decide)
 rw [b_or8,BitVec.toNat_or]
 rw [hw,h1,show ((128:Int))=((128:Nat):Int) from rfl,h2,zjp (by omega)]
 have e:z % 256 ||| 128=z % 128+128:=by
  have hm:z % 128<2 ^ 7:=Nat.mod_lt _ (by decide)
  have h3:=Nat.two_pow_add_eq_or_of_lt hm 1
  have h4:z % 256=z % 128∨z % 256=2 ^ 7 * 1+z % 128:=by omega
  rcases h4 with h4|h4
  · rw [h4,Nat.or_comm,show 128=2 ^ 7 * 1 from rfl,← h3];omega
  · rw [h4,h3,show 128=2 ^ 7 * 1 from rfl,Nat.or_comm,← Nat.or_assoc,Nat.or_self,← h3];omega
 rw [e,zvq (by omega) (by omega)]
theorem w_zig {n:Int} (h:i64 n):∃ x y:Int,za4 .shl (.int .u64 (IntKind.u64.wrap n)) (.int .u64 1)=some (.int .u64 x)∧za4 .shr (.int .i64 n) (.int .u64 63)=some (.int .i64 y) ∧
 za4 .xor (.int .u64 x) (.int .u64 (IntKind.u64.wrap y))=some (.int .u64 ((zig n:Nat):Int)):=by
 obtain ⟨ha,hb⟩:=h
 refine ⟨IntKind.u64.wrap (IntKind.u64.wrap n * 2),n.fdiv 9223372036854775808,?_,?_,?_⟩
 · simp only [za4];rw [if_neg (by omega)];rfl
 · simp only [za4];rw [if_neg (by omega)];rfl
 · by_cases hn:n<0
   · have e1:IntKind.u64.wrap n=n+18446744073709551616:=by
      rw [IntKind.wrap];simp only [IntKind.bits,IntKind.signed];simp;omega
     have e2:IntKind.u64.wrap ((n+18446744073709551616) * 2)=((18446744073709551616+2 * n).toNat:Int):=by
      rw [IntKind.wrap];simp only [IntKind.bits,IntKind.signed];simp;omega
     have e3:n.fdiv 9223372036854775808=-1:=by
      rw [Int.fdiv_eq_ediv_of_nonneg _ (by omega)];omega
     have e4:IntKind.u64.wrap (-1)=18446744073709551615:=by decide
     have h1:=zce 64 (18446744073709551616+2 * n).toNat (by omega)
     rw [e1,e2,e3,e4]
     rw [zxz]
     rw [show BitVec.ofInt 64 18446744073709551615=BitVec.allOnes 64 from by decide,BitVec.xor_allOnes,BitVec.toNat_not,h1,zf5 (by omega) (by omega)]
     unfold zig;rw [if_pos hn];congr 2;omega
   · have e1:IntKind.u64.wrap n=n:=zf5 (by omega) (by omega)
     have e2:IntKind.u64.wrap (n * 2)=(((2 * n).toNat:Nat):Int):=by rw [zf5 (by omega) (by omega)];omega
     have e3:n.fdiv 9223372036854775808=0:=by
      rw [Int.fdiv_eq_ediv_of_nonneg _ (by omega)];omega
     have h1:=zce 64 (2 * n).toNat (by omega)
     rw [e1,e2,e3]
     rw [zxz]
     rw [show BitVec.ofInt 64 (IntKind.u64.wrap 0)=0#64 from by decide,BitVec.xor_zero,h1,zf5 (by omega) (by omega)]
     unfold zig;rw [if_neg hn]
