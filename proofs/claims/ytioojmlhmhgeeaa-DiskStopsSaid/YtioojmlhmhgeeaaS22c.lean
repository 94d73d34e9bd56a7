/-
 Layer 21 (disk): writes on a disk that is not armed, as plain mathematics.
 Conditions: of each law as it says.
-/
import Derived.Test.YtioojmlhmhgeeaaS22
namespace C22
/-- A disk of 16 sectors that works: none is rotten, and its steps are few. -/
structure Wd (d : Dk) (n : Int) : Prop where
 ok : Okd d
 len : d.cs.length = 16
 live : d.dead = false
 aft : d.after = -1
 good : ∀ c ∈ d.cs, c.bad = false
 st : d.steps ≤ n
theorem Wd.chk {d : Dk} {n : Int} (h : Wd d n) {k : Nat} (hk : k < 16) : chk d k = 0 := by
 unfold C22.chk
 rw [if_neg (by rw [h.live]; simp), if_neg (by have := h.len; omega)]
theorem stp_live {d : Dk} (h : d.after = -1) : stp d = ({ d with steps := d.steps + 1 }, 0) := by
 unfold stp
 rw [if_neg (by omega), if_neg (by omega)]
theorem Wd.wr {d : Dk} {n : Int} (h : Wd d n) {k : Nat} (hk : k < 16) (s : Sec) : wr d k s = ({ d with steps := d.steps + 1, cs := d.cs.modify k fun c => { c with op := c.op ++ [s] } }, 0) := by
 unfold C22.wr
 rw [if_neg (by rw [h.chk hk]; simp), stp_live h.aft, if_neg (by simp), Int.toNat_natCast]
theorem Wd.sy {d : Dk} {n : Int} (h : Wd d n) : sy d = ({ d with steps := d.steps + 1, cs := d.cs.map syC }, 0) := by
 unfold C22.sy
 rw [if_neg (by rw [h.live]; simp), stp_live h.aft, if_neg (by simp)]
theorem syC_op (c : Cel) : (syC c).op = [] := by
 unfold syC
 split
 · rfl
 · rename_i h; exact List.getLast?_eq_none_iff.1 h
theorem Wd.mono {d : Dk} {n m : Int} (h : Wd d n) (hnm : n ≤ m) : Wd d m := ⟨h.ok, h.len, h.live, h.aft, h.good, by have := h.st; omega⟩
def wrK (a : Int) : Nat := ((a.tmod 16 + 16).tmod 16).toNat
theorem wrK_lt (a : Int) : wrK a < 16 ∧ (a.tmod 16 + 16).tmod 16 = (wrK a : Int) ∧ -16 < a.tmod 16 ∧ a.tmod 16 < 16 := by
 have h1 : a.tmod 16 < 16 := Int.tmod_lt_of_pos a (by omega)
 have h2 : -16 < a.tmod 16 := by
  have := Int.tmod_lt_of_pos (-a) (b := 16) (by omega)
  rw [Int.neg_tmod] at this
  omega
 have h3 : (a.tmod 16 + 16).tmod 16 < 16 := Int.tmod_lt_of_pos _ (by omega)
 have h4 : 0 ≤ (a.tmod 16 + 16).tmod 16 := Int.tmod_nonneg _ (by omega)
 unfold wrK
 refine ⟨by omega, by omega, h2, h1⟩
end C22
