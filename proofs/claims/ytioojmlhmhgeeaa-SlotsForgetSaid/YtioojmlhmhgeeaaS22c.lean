/-
 Layer 21 (disk): writes on a disk that is not armed, as plain mathematics.
 Conditions: of each law as it says.
-/
import Derived.Test.YtioojmlhmhgeeaaS22
namespace C22
structure Wd (d : Dk) (n : Int) : Prop where
 ok : Okd d
 len : d.cs.length = 16
 live : d.dead = false
 aft : d.after = -1
 good : ∀ c ∈ d.cs, c.bad = false
 st : d.steps ≤ n
theorem Wd.chk {d : Dk} {n : Int} (h : Wd d n) {k : Nat} (hk : k < 16) : chk d k = 0 := by
 unfold C22.chk
 rw [if_neg (by rw [h.live]; simp), if_neg (by have := h.len; omega)]
theorem stp_live {d : Dk} (h : d.after = -1) : stp d = ({ d with steps := d.steps + 1 }, 0) := by
 unfold stp
 rw [if_neg (by omega), if_neg (by omega)]
theorem Wd.wr {d : Dk} {n : Int} (h : Wd d n) {k : Nat} (hk : k < 16) (s : Sec) : wr d k s = ({ d with steps := d.steps + 1, cs := d.cs.modify k fun c => { c with op := c.op ++ [s] } }, 0) := by
 unfold C22.wr
 rw [if_neg (by rw [h.chk hk]; simp), stp_live h.aft, if_neg (by simp), Int.toNat_natCast]
theorem Wd.sy {d : Dk} {n : Int} (h : Wd d n) : sy d = ({ d with steps := d.steps + 1, cs := d.cs.map syC }, 0) := by
 unfold C22.sy
 rw [if_neg (by rw [h.live]; simp), stp_live h.aft, if_neg (by simp)]
theorem Wd.mono {d : Dk} {n m : Int} (h : Wd d n) (hnm : n ≤ m) : Wd d m := ⟨h.ok, h.len, h.live, h.aft, h.good, by have := h.st; omega⟩
end C22
/-
 Layer 21 (disk): what spoils a sector, as plain mathematics.
 Conditions: of each law as it says.
-/
namespace C22
theorem celRd_shut {c : Cel} (h : c.op = []) : celRd c = if c.bad = true then (z0, 14) else (c.s, 0) := by unfold celRd; rw [h]; rfl
theorem rd_live {d : Dk} (hd : d.dead = false) {i : Nat} {c : Cel} (h : d.cs[i]? = some c) : rd d i = celRd c := by
 have hl := (List.getElem?_eq_some_iff.1 h).1
 have hk : chk d i = 0 := by unfold chk; rw [if_neg (by rw [hd]; simp), if_neg (by omega)]
 unfold rd
 rw [if_neg (by rw [hk]; simp), Int.toNat_natCast, h]
theorem crash_len (d : Dk) (keep : List Int) : (crash d keep).cs.length = d.cs.length := crashL_len _ _ _
section
variable {d : Dk} {n : Int} {i b : Nat}
end
end C22
