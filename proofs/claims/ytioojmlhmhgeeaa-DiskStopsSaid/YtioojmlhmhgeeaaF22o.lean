/-
 Layer 21 (disk): the statement DiskStops: what stays true from call to call.
 Conditions: of each law as it says.
-/
import Derived.Test.YtioojmlhmhgeeaaF22m
namespace Go.Proofs.Ytioojmlhmhgeeaa
open Go Go.E2 C22
set_option linter.unusedSimpArgs false
set_option maxHeartbeats 1000000
structure StI (n j : Nat) (d : Dk) (N S : List (Int × Sec)) : Prop where
 ok : Okd d
 len : d.cs.length = 16
 good : ∀ c ∈ d.cs, c.bad = false
 dead : d.dead = decide (n < j)
 st : d.steps = min j n
 aft : d.after = ((n - min j n : Nat) : Int)
 has : ∀ (i : Nat) (c : Cel), d.cs[i]? = some c → mget N (i : Int) = c.op.getLast? ∧ (mget S (i : Int)).getD z0 = c.s
theorem sti_fresh (n : Nat) (hn : n < 256) : StI n 0 (arm (fresh 16) n) [] [] := by
 refine ⟨arm_ok (okd_fresh (by omega) (by omega)) (by omega), rfl, fun c hc => by obtain rfl := (List.mem_replicate.1 hc).2; rfl, by simp [arm, fresh], by simp [arm, fresh], by simp only [arm]; omega, fun i c hc => ?_⟩
 obtain rfl := (List.mem_replicate.1 (List.mem_of_getElem? hc)).2
 exact ⟨rfl, rfl⟩
section
variable {n j : Nat} {d : Dk} {N S : List (Int × Sec)}
theorem StI.stop (h : StI n j d N S) (hj : n ≤ j) (d' : Dk) (e : d' = { d with dead := true }) : StI n (j + 1) d' N S := by
 subst e
 refine ⟨⟨h.ok.pos, h.ok.most, h.ok.rot, h.ok.st, h.ok.few, h.ok.aft⟩, h.len, h.good, (decide_eq_true (by omega)).symm, ?_, ?_, h.has⟩
 · have := h.st; simp only; omega
 · have := h.aft; simp only; omega
theorem StI.step (h : StI n j d N S) : (stp d).2 = 0 ∧ j < n ∧ d.dead = false ∧ stp d = ({ d with after := d.after - 1, steps := d.steps + 1 }, 0) ∨ n ≤ j ∧ (d.dead = false → stp d = ({ d with dead := true }, 12)) := by
 rcases Nat.lt_or_ge j n with hj | hj
 · left
   have ha := h.aft
   have e : stp d = ({ d with after := d.after - 1, steps := d.steps + 1 }, 0) := by unfold stp; rw [if_neg (by omega), if_pos (by omega)]
   exact ⟨by rw [e], hj, by rw [h.dead]; exact decide_eq_false (by omega), e⟩
 · right
   refine ⟨hj, fun hd => ?_⟩
   have ha := h.aft
   unfold stp
   rw [if_pos (by omega)]
theorem StI.sync (h : StI n j d N S) (hn : n < 256) :
 ((sy d).2 = 0 ∧ j < n ∧ ∀ S', (∀ i, mget S' i = (mget N i).or (mget S i)) → StI n (j + 1) (sy d).1 [] S') ∨ ((sy d).2 = 12 ∧ n ≤ j ∧ StI n (j + 1) (sy d).1 N S) := by
 have hst := h.st
 have hok := (sy_ok h.ok (by omega)).1
 rcases h.step with ⟨h1, h2, h3, h4⟩ | ⟨h1, h2⟩
 · left
   have e : sy d = ({ (stp d).1 with cs := d.cs.map syC }, 0) := by unfold sy; rw [if_neg (by rw [h3]; simp), if_neg (by rw [h1]; simp)]
   rw [e, h4] at hok ⊢
   refine ⟨rfl, h2, fun S' hS => ⟨hok, by simpa using h.len, fun c hc => ?_, by rw [h.dead]; simp; omega, ?_, ?_, fun i c hc => ?_⟩⟩
   · obtain ⟨y, hy, rfl⟩ := List.mem_map.1 hc
     unfold syC
     split
     · rfl
     · exact h.good y hy
   · simp only; omega
   · have := h.aft; simp only; omega
   · simp only [List.getElem?_map, Option.map_eq_some_iff] at hc
     obtain ⟨y, hy, rfl⟩ := hc
     obtain ⟨q1, q2⟩ := h.has i y hy
     rw [hS, q1, syC_op]
     refine ⟨rfl, ?_⟩
     unfold syC
     cases hl : y.op.getLast? with
     | some s => rfl
     | none => exact q2
 · right
   by_cases hd : d.dead = true
   · have e : sy d = (d, 12) := by unfold sy; rw [if_pos hd]
     rw [e]
     exact ⟨rfl, h1, h.stop h1 d (by cases d; simp only at hd; simp [hd])⟩
   · have hd : d.dead = false := by simpa using hd
     have e : sy d = ({ d with dead := true }, 12) := by
      unfold sy
      rw [if_neg (by rw [hd]; simp), h2 hd, if_pos (by simp)]
     rw [e]
     exact ⟨rfl, h1, h.stop h1 _ rfl⟩
theorem StI.write (h : StI n j d N S) (hn : n < 256) {k : Nat} (hk : k < 16) (s : Sec) :
 ((wr d k s).2 = 0 ∧ j < n ∧ StI n (j + 1) (wr d k s).1 (mput N (k : Int) s) S) ∨ ((wr d k s).2 = 12 ∧ n ≤ j ∧ StI n (j + 1) (wr d k s).1 N S) := by
 have hst := h.st
 have hlen := h.len
 have hok := (wr_ok h.ok (by omega) k s).1
 have hc : d.dead = false → chk d k = 0 := fun hd => by unfold chk; rw [if_neg (by rw [hd]; simp), if_neg (by omega)]
 rcases h.step with ⟨h1, h2, h3, h4⟩ | ⟨h1, h2⟩
 · left
   have e : wr d k s = ({ (stp d).1 with cs := d.cs.modify k fun c => { c with op := c.op ++ [s] } }, 0) := by unfold wr; rw [if_neg (by rw [hc h3]; simp), if_neg (by rw [h1]; simp), Int.toNat_natCast]
   rw [e, h4] at hok ⊢
   refine ⟨rfl, h2, hok, by simpa using h.len, fun c hc => ?_, by rw [h.dead]; simp; omega, ?_, ?_, fun i c hc => ?_⟩
   · rcases mem_modify hc with hc | ⟨y, hy, rfl⟩
     · exact h.good c hc
     · exact h.good y hy
   · simp only; omega
   · have := h.aft; simp only; omega
   · simp only [List.getElem?_modify] at hc
     cases hi : d.cs[i]? with
     | none => rw [hi] at hc; simp at hc
     | some y =>
      rw [hi] at hc
      simp only [Option.map_eq_map, Option.map_some, Option.some.injEq] at hc
      obtain ⟨q1, q2⟩ := h.has i y hi
      rw [mget_put]
      by_cases e2 : k = i
      · rw [if_pos e2] at hc
        subst hc
        rw [if_pos (by omega)]
        exact ⟨by simp, q2⟩
      · rw [if_neg e2] at hc
        subst hc
        rw [if_neg (by omega)]
        exact ⟨q1, q2⟩
 · right
   by_cases hd : d.dead = true
   · have e : wr d k s = (d, 12) := by
      have : chk d k = 12 := by unfold chk; rw [if_pos hd]
      unfold wr
      rw [if_pos (by rw [this]; simp), this]
     rw [e]
     exact ⟨rfl, h1, h.stop h1 d (by cases d; simp only at hd; simp [hd])⟩
   · have hd : d.dead = false := by simpa using hd
     have e : wr d k s = ({ d with dead := true }, 12) := by
      unfold wr
      rw [if_neg (by rw [hc hd]; simp), h2 hd, if_pos (by simp)]
     rw [e]
     exact ⟨rfl, h1, h.stop h1 _ rfl⟩
theorem StI.read3 (h : StI n j d N S) : (rd d 3).2 = if n < j then 12 else 0 := by
 have hlen := h.len
 by_cases hj : n < j
 · have hd : d.dead = true := by rw [h.dead]; exact decide_eq_true hj
   have : chk d 3 = 12 := by unfold chk; rw [if_pos hd]
   rw [if_pos hj]
   unfold rd
   rw [if_pos (by rw [this]; simp), this]
 · have hd : d.dead = false := by rw [h.dead]; exact decide_eq_false hj
   have h3 : 3 < d.cs.length := by omega
   have := rd_live hd (List.getElem?_eq_getElem h3)
   rw [if_neg hj]
   have e : ((3 : Nat) : Int) = 3 := rfl
   rw [e] at this
   rw [this]
   have hg := h.good d.cs[3] (List.getElem_mem h3)
   unfold celRd
   cases d.cs[3].op.getLast? with
   | some s => rfl
   | none => simp [hg]
theorem StI.found (h : StI n j d N S) (keep : List Int) {k : Nat} (hk : k < 16) (hno : mget N (k : Int) = none) : rd (crash d keep) k = ((mget S (k : Int)).getD z0, 0) := by
 have hkd : k < d.cs.length := by have := h.len; omega
 obtain ⟨q1, q2⟩ := h.has k _ (List.getElem?_eq_getElem hkd)
 obtain ⟨x, hx⟩ := crash_cel (keep := keep) hkd
 have ho : d.cs[k].op = [] := by rw [q1] at hno; exact List.getLast?_eq_none_iff.1 hno
 rw [if_pos ho] at hx
 rw [rd_live rfl hx, celRd_shut ho, if_neg (by rw [h.good _ (List.getElem_mem hkd)]; simp), q2]
end
theorem unseen_le {N : List (Int × Sec)} {sn : List Int} (a : Int) : (N.filter fun p => decide (p.1 ∉ sn ++ [a])).length ≤ (N.filter fun p => decide (p.1 ∉ sn)).length := by
 induction N with
 | nil => simp
 | cons p N ih =>
  simp only [List.filter_cons]
  split
  · rename_i h1
    rw [if_pos (by simp at h1 ⊢; exact h1.1)]
    simpa using ih
  · split
    · simp only [List.length_cons]; omega
    · exact ih
theorem unseen_lt {N : List (Int × Sec)} {sn : List Int} {a : Int} {v : Sec} (hm : (a, v) ∈ N) (hn : a ∉ sn) : (N.filter fun p => decide (p.1 ∉ sn ++ [a])).length < (N.filter fun p => decide (p.1 ∉ sn)).length := by
 induction N with
 | nil => cases hm
 | cons p N ih =>
  simp only [List.filter_cons]
  rcases List.mem_cons.1 hm with rfl | hm
  · rw [if_neg (by simp), if_pos (by simpa using hn)]
    have := unseen_le (N := N) (sn := sn) a
    simp only [List.length_cons]; omega
  · have := ih hm
    split
    · rename_i h1
      rw [if_pos (by simp at h1 ⊢; exact h1.1)]
      simpa using this
    · split
      · simp only [List.length_cons]; omega
      · exact this
end Go.Proofs.Ytioojmlhmhgeeaa
