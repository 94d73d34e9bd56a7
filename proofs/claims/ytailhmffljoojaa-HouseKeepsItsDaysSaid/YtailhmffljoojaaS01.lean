/-
 The encoding of integers,byte strings and lists as bytes,in plain mathematics.
 Conditions: none;definitions and laws with no program in sight.
-/
namespace CW
abbrev Str:=List UInt8
def zig (n:Int):Nat:=if n<0 then (2 * (-1 - n)+1).toNat else (2 * n).toNat
def leb (z:Nat):Str:=if h:z<128 then [UInt8.ofNat z] else UInt8.ofNat (z % 128+128)::leb (z / 128)
termination_by z
decreasing_by omega
theorem zrv {z:Nat} (h:z<128):leb z=[UInt8.ofNat z]:=by rw [leb,dif_pos h]
theorem zve {z:Nat} (h:¬ z<128):leb z=UInt8.ofNat (z % 128+128)::leb (z / 128):=by rw [leb,dif_neg h]
def intB (n:Int):Str:=leb (zig n)
def intsB (l:List Int):Str:=intB l.length++(l.map intB).flatten
def i64 (n:Int):Prop:=-9223372036854775808≤n∧n≤9223372036854775807
theorem zvf {n:Int} (h:i64 n):zig n<18446744073709551616:=by
 obtain ⟨h1,h2⟩:=h
 unfold zig;split<;>omega
theorem leb_len:∀ (k z:Nat),z<128 ^ (k+1)→(leb z).length≤k+1
 | 0,z,h=>by rw [zrv (by simpa using h)];simp
 | k+1,z,h=>by
   by_cases h1:z<128
   · rw [zrv h1];simp
   · rw [zve h1,List.length_cons]
     have:=leb_len k (z / 128) (Nat.div_lt_of_lt_mul (by rw [Nat.mul_comm,← Nat.pow_succ];exact h))
     omega
theorem intB_len {n:Int} (h:i64 n):(intB n).length≤10:=leb_len 9 _ (Nat.lt_of_lt_of_le (zvf h) (by decide))
theorem ints_len:∀ {l:List Int},(∀ n∈l,i64 n)→((l.map intB).flatten).length≤10 * l.length
 | [],_=>by simp
 | n::l,h=>by
   have h1:=intB_len (h n (by simp))
   have h2:=ints_len (l:=l) fun m hm=>h m (by simp [hm])
   simp only [List.map_cons,List.flatten_cons,List.length_append,List.length_cons];omega
def val:Str→Nat
 | []=>0
 | c::r=>c.toNat % 128+128 * val r
theorem zoh {z:Nat} (h:z<256):(UInt8.ofNat z).toNat=z:=by
 rw [UInt8.toNat_ofNat'];exact Nat.mod_eq_of_lt h
end CW
