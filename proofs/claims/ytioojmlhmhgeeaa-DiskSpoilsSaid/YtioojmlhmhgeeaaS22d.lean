/-
 Layer 21 (disk): what spoils a sector, as plain mathematics.
 Conditions: of each law as it says.
-/
import Derived.Test.YtioojmlhmhgeeaaS22c
namespace C22
theorem modify_twice {α : Type} (l : List α) (k : Nat) (f : α → α) (h : ∀ x ∈ l, f (f x) = x) : (l.modify k f).modify k f = l := by
 apply List.ext_getElem
 · simp
 · intro i h1 h2
   rw [List.getElem_modify]
   split
   · rename_i e
     subst e
     rw [List.getElem_modify, if_pos rfl]
     exact h _ (List.getElem_mem h2)
   · rename_i e
     rw [List.getElem_modify, if_neg e]
theorem flip_flip (s : Sec) (b : Nat) : flipS (flipS s b) b = s := by
 apply Subtype.ext
 simp only [flipS]
 apply modify_twice
 intro x _
 rw [UInt8.xor_assoc, UInt8.xor_self, UInt8.xor_zero]
theorem celRd_shut {c : Cel} (h : c.op = []) : celRd c = if c.bad = true then (z0, 14) else (c.s, 0) := by unfold celRd; rw [h]; rfl
theorem rd_live {d : Dk} (hd : d.dead = false) {i : Nat} {c : Cel} (h : d.cs[i]? = some c) : rd d i = celRd c := by
 have hl := (List.getElem?_eq_some_iff.1 h).1
 have hk : chk d i = 0 := by unfold chk; rw [if_neg (by rw [hd]; simp), if_neg (by omega)]
 unfold rd
 rw [if_neg (by rw [hk]; simp), Int.toNat_natCast, h]
theorem crashL_same (keep : List Int) : ∀ (l : List Cel) (n : Nat), (∀ c ∈ l, c.op = []) → crashL keep l n = l
 | [], _, _ => rfl
 | c :: l, n, h => by
   unfold crashL
   rw [if_pos (h c List.mem_cons_self), crashL_same keep l n fun x hx => h x (List.mem_cons_of_mem _ hx)]
theorem crash_same {d : Dk} (h : ∀ c ∈ d.cs, c.op = []) (keep : List Int) : crash d keep = ⟨d.cs, 0, -1, false⟩ := by
 unfold crash
 rw [crashL_same keep d.cs 0 h]
section
variable {d : Dk} {n : Int} {i b : Nat}
theorem flp_good (hw : Wd d n) (hi : i < 16) (hb : b < 512) : flp d i b = ({ d with cs := d.cs.modify i fun c => if c.bad = true then c else { c with s := flipS c.s b } }, 0) := by
 unfold flp
 rw [if_neg (by rw [hw.chk hi]; simp), if_neg (by omega), Int.toNat_natCast, Int.toNat_natCast]
theorem flp_wd (hw : Wd d n) (hi : i < 16) (hb : b < 512) : Wd (flp d i b).1 n := by
 have ho := (flp_ok hw.ok i b).1
 rw [flp_good hw hi hb] at ho ⊢
 refine ⟨ho, by simpa using hw.len, hw.live, hw.aft, fun c hc => ?_, hw.st⟩
 rcases mem_modify hc with hc | ⟨y, hy, rfl⟩
 · exact hw.good c hc
 · have := hw.good y hy
   simp [this]
theorem flp_rd (hw : Wd d n) (hi : i < 16) (hb : b < 512) (hid : i < d.cs.length) (hop : d.cs[i].op = []) : rd (flp d i b).1 i = (flipS d.cs[i].s b, 0) := by
 have hg := hw.good _ (List.getElem_mem hid)
 rw [flp_good hw hi hb]
 simp only
 refine (rd_live (c := { d.cs[i] with s := flipS d.cs[i].s b }) (by exact hw.live) ?_).trans ?_
 rotate_left
 · refine (celRd_shut (c := { d.cs[i] with s := flipS d.cs[i].s b }) hop).trans ?_
   simp [hg]
 · rw [List.getElem?_modify, List.getElem?_eq_getElem hid]
   simp [hg]
theorem flp_back (hw : Wd d n) (hi : i < 16) (hb : b < 512) : flp (flp d i b).1 i b = (d, 0) := by
 rw [flp_good (flp_wd hw hi hb) hi hb, flp_good hw hi hb]
 simp only
 rw [modify_twice]
 intro c hc
 have hg := hw.good c hc
 cases c
 simp only at hg
 simp [hg, flip_flip]
def rotten (d : Dk) (i : Nat) : List Cel := d.cs.modify i fun c => { c with s := z0, bad := true }
theorem rot_good (hw : Wd d n) (hi : i < 16) : rot d i = ({ d with cs := rotten d i }, 0) := by
 unfold rot
 rw [if_neg (by rw [hw.chk hi]; simp), Int.toNat_natCast]
 rfl
theorem rot_shut (hop : ∀ c ∈ d.cs, c.op = []) : ∀ c ∈ rotten d i, c.op = [] := by
 intro c hc
 rcases mem_modify hc with hc | ⟨y, hy, rfl⟩
 · exact hop c hc
 · exact hop y hy
def afterRot (d : Dk) (i : Nat) : Dk := ⟨rotten d i, 0, -1, false⟩
theorem rot_rd (hw : Wd d n) (hop : ∀ c ∈ d.cs, c.op = []) {k : Nat} (hk : k < d.cs.length) : rd (afterRot d i) k = if k = i then (z0, 14) else (d.cs[k].s, 0) := by
 have ho := hop _ (List.getElem_mem hk)
 have hg := hw.good _ (List.getElem_mem hk)
 have hc : (afterRot d i).cs[k]? = some (if i = k then { d.cs[k] with s := z0, bad := true } else d.cs[k]) := by
  unfold afterRot rotten
  rw [List.getElem?_modify, List.getElem?_eq_getElem hk]
  split <;> rfl
 rw [rd_live rfl hc]
 by_cases e : k = i
 · rw [if_pos e.symm, if_pos e]; exact celRd_shut (c := { d.cs[k] with s := z0, bad := true }) ho
 · rw [if_neg (fun h => e h.symm), if_neg e, celRd_shut ho, if_neg (by rw [hg]; simp)]
theorem rot_wr (hw : Wd d n) (hi : i < 16) (s : Sec) : wr (afterRot d i) i s = (⟨(rotten d i).modify i fun c => { c with op := c.op ++ [s] }, 1, -1, false⟩, 0) := by
 have hk : chk (afterRot d i) i = 0 := by
  unfold chk afterRot rotten
  rw [if_neg (by simp), if_neg (by have := hw.len; simp only [List.length_modify]; omega)]
 unfold wr
 rw [if_neg (by rw [hk]; simp), stp_live rfl, if_neg (by simp), Int.toNat_natCast]
 rfl
theorem rot_sy (hw : Wd d n) (hi : i < 16) (s : Sec) : (sy (wr (afterRot d i) i s).1).2 = 0 ∧ rd (sy (wr (afterRot d i) i s).1).1 i = (s, 0) := by
 rw [rot_wr hw hi s]
 have hid : i < d.cs.length := by have := hw.len; omega
 unfold sy
 rw [if_neg (by simp), stp_live rfl, if_neg (by simp)]
 refine ⟨rfl, ?_⟩
 rw [rd_live (c := ⟨s, false, []⟩) rfl]
 · rfl
 · unfold rotten
   simp only [List.getElem?_map, List.getElem?_modify, if_true, List.getElem?_eq_getElem hid, Option.map_some]
   simp [syC]
end
end C22
