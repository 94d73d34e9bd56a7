/-
 Plain data,and what the package-level tables hold that the program reads and never writes.
 Conditions: none;this text states definitions alone.
-/
import Derived.Calls
import Derived.Still
namespace Go.E2
inductive D where
 | bool (b:Bool)
 | int (k:IntKind) (n:Int)
 | str (s:List UInt8)
 | agg (cs:List D)
 /-- A row of values that do not change any more; an empty one may be nil. -/
 | list (es:List D)
 /-- nil, as a slice. -/
 | nilS
 | nilP
 | nilF
 | fn (f:FuncId)
 /-- A slice zbe a block that may change, by its number. -/
 | gs (b off len cap:Nat)
 | gp (b off:Nat)
 /-- A function with what it has captured. -/
 | clo (f:FuncId) (ds:List D)
 /-- A function with its first arguments. -/
 | bnd (f:FuncId) (ds:List D)
 /-- A map that may change, by its number; none. -/
 | mref (r:Nat)
 | nilM
 /-- What a range zbe a function hands to this function. -/
 | yld (l:Nat)
 deriving Inhabited
def z39 (_:Nat):Option (List D):=none
end Go.E2
