/-
 Layer 21 (disk): what spoils a sector, as plain mathematics.
 Conditions: of each law as it says.
-/
import Derived.Test.YtioojmlhmhgeeaaS22c
namespace C22
theorem celRd_shut {c : Cel} (h : c.op = []) : celRd c = if c.bad = true then (z0, 14) else (c.s, 0) := by unfold celRd; rw [h]; rfl
theorem rd_live {d : Dk} (hd : d.dead = false) {i : Nat} {c : Cel} (h : d.cs[i]? = some c) : rd d i = celRd c := by
 have hl := (List.getElem?_eq_some_iff.1 h).1
 have hk : chk d i = 0 := by unfold chk; rw [if_neg (by rw [hd]; simp), if_neg (by omega)]
 unfold rd
 rw [if_neg (by rw [hk]; simp), Int.toNat_natCast, h]
section
variable {d : Dk} {n : Int} {i b : Nat}
end
end C22
