/-
 Plain data,and what the package-level tables hold that the program reads and never writes.
 Conditions: none;this text states definitions alone.
-/
import Derived.Calls
import Derived.Still
set_option linter.defProp false
def yk1Q:=@List.take_of_length_le
def yk2Q:=@List.length_append
def yk3Q:=@List.length_map
def yk4Q:=@List.length_take
def yk5Q:=@List.append_assoc
def yk6Q:=@List.map_append
def yk7Q:=@List.drop_of_length_le
def yk8Q:=@Option.map_eq_some_iff
def yk9Q:=@Bool.and_eq_true
def ylaQ:=@List.eq_nil_of_length_eq_zero
def ylbQ:=@List.all_eq_true
def ylcQ:=@List.mem_append
def yldQ:=@List.take_succ_eq_append_getElem
def yleQ:=@Int.toNat_natCast
def ylfQ:=@List.length_drop
def ylgQ:=@List.length_replicate
def ylhQ:=@List.getElem?_map
def yliQ:=@List.getElem?_eq_getElem
def yljQ:=@List.getElem?_eq_none
def ylkQ:=@List.getElem?_append_left
def yllQ:=@List.getElem?_append_right
def ylmQ:=@List.all_append
def ylnQ:=@List.take_left'
def yloQ:=@List.drop_left'
def ylpQ:=@List.mem_cons_self
def ylqQ:=@Int.tdiv_eq_ediv_of_nonneg
def ylrQ:=@Nat.add_mul
def ylsQ:=@Nat.mul_one
def yltQ:=@Nat.zero_add
def yluQ:=@Nat.lt_of_lt_of_le
def ylvQ:=@List.append_nil
def ylwQ:=@Option.some.inj
def ylxQ:=@Array.length_toList
namespace Go.E2
inductive D where
 | bool (b:Bool)
 | int (k:IntKind) (n:Int)
 | str (s:List UInt8)
 | agg (cs:List D)
 /-- A row of values that do not change any more; an empty one may be nil. -/
 | list (es:List D)
 /-- nil, as a slice. -/
 | nilS
 | nilP
 | nilF
 | fn (f:FuncId)
 /-- A slice zau a block that may change, by its number. -/
 | gs (b off len cap:Nat)
 | gp (b off:Nat)
 /-- A function with what it has captured. -/
 | clo (f:FuncId) (ds:List D)
 /-- A function with its first arguments. -/
 | bnd (f:FuncId) (ds:List D)
 /-- A map that may change, by its number; none. -/
 | mref (r:Nat)
 | nilM
 /-- What a range zau a function hands to this function. -/
 | yld (l:Nat)
 deriving Inhabited
def k256:List Int:=[1116352408,1899447441,3049323471,3921009573,961987163,1508970993,2453635748,2870763221,3624381080,310598401,607225278,1426881987,1925078388,2162078206,2614888103,3248222580,3835390401,4022224774,264347078,604807628,770255983,1249150122,1555081692,1996064986,2554220882,2821834349,2952996808,3210313671,3336571891,3584528711,113926993,338241895,666307205,773529912,1294757372,1396182291,1695183700,1986661051,2177026350,2456956037,2730485921,2820302411,3259730800,3345764771,3516065817,3600352804,4094571909,275423344,430227734,506948616,659060556,883997877,958139571,1322822218,1537002063,1747873779,1955562222,2024104815,2227730452,2361852424,2428436474,2756734187,3204031479,3329325298]
def z8n:Nat→Option (List D)
 | 0=>some (k256.map (D.int .u32))
 | 1=>some (k256.map (D.int .u32))
 | _=>none
