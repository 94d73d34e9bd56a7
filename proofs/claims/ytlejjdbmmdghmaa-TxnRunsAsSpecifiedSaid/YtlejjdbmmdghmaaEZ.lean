/-
 Rows of equal cells,by their number.
 Conditions: none;this text states a definition alone.
-/
import Derived.Test.YtlejjdbmmdghmaaETb
namespace Go.E2
def zr (n:Nat) (x:D):List D:=List.replicate n x
def kr (n:Nat) (x:Kd):List Kd:=List.replicate n x
end Go.E2
