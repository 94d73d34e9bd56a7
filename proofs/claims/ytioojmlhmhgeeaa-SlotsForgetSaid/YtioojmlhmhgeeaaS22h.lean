/-
 Layer 22 (slots): calls on a disk that works, as plain mathematics.
 Conditions: of each law as it says.
-/
import Derived.Test.YtioojmlhmhgeeaaS22e
namespace C22
structure Lv (d : Dk) (n : Int) : Prop where
 ok : Okd d
 live : d.dead = false
 aft : d.after = -1
 good : ∀ c ∈ d.cs, c.bad = false
 st : d.steps ≤ n
def topS (c : Cel) : Sec := (c.op.getLast?).getD c.s
def topAt (d : Dk) (i : Nat) : Sec := topS ((d.cs[i]?).getD freshC)
section
variable {d : Dk} {n : Int}
theorem Lv.mono (h : Lv d n) {m : Int} (hm : n ≤ m) : Lv d m := ⟨h.ok, h.live, h.aft, h.good, by have := h.st; omega⟩
theorem Lv.rd (h : Lv d n) {i : Nat} (hi : i < d.cs.length) : rd d i = (topAt d i, 0) := by
 rw [rd_live h.live (List.getElem?_eq_getElem hi)]
 have hg := h.good _ (List.getElem_mem hi)
 unfold topAt topS celRd
 rw [List.getElem?_eq_getElem hi]
 simp only [Option.getD_some]
 cases d.cs[i].op.getLast? with
 | some s => rfl
 | none => simp [hg]
theorem Lv.chk (h : Lv d n) {i : Nat} (hi : i < d.cs.length) : chk d i = 0 := by
 unfold C22.chk
 rw [if_neg (by rw [h.live]; simp), if_neg (by omega)]
theorem Lv.wr (h : Lv d n) (hn : n ≤ 900000000) {a : Nat} (ha : a < d.cs.length) (s : Sec) :
 (wr d a s).2 = 0 ∧ Lv (wr d a s).1 (n + 1) ∧ (wr d a s).1.cs.length = d.cs.length ∧ ∀ i, topAt (wr d a s).1 i = if i = a then s else topAt d i := by
 have hs := h.st
 have ho := (wr_ok h.ok (by omega) a s).1
 have e : C22.wr d a s = ({ d with steps := d.steps + 1, cs := d.cs.modify a fun c => { c with op := c.op ++ [s] } }, 0) := by
  unfold C22.wr
  rw [if_neg (by rw [h.chk ha]; simp), stp_live h.aft, if_neg (by simp), Int.toNat_natCast]
 rw [e] at ho ⊢
 refine ⟨rfl, ⟨ho, h.live, h.aft, fun c hc => ?_, by simp only; omega⟩, by simp, fun i => ?_⟩
 · rcases mem_modify hc with hc | ⟨y, hy, rfl⟩
   · exact h.good c hc
   · exact h.good y hy
 · unfold topAt
   simp only [List.getElem?_modify]
   by_cases e1 : i = a
   · subst e1
     rw [if_pos rfl, List.getElem?_eq_getElem ha]
     simp [topS]
   · rw [if_neg e1]
     cases hx : d.cs[i]? with
     | none => rfl
     | some c => simp [Ne.symm e1]
theorem Lv.sy (h : Lv d n) (hn : n ≤ 900000000) :
 (sy d).2 = 0 ∧ Lv (sy d).1 (n + 1) ∧ (sy d).1.cs.length = d.cs.length ∧ ∀ i, topAt (sy d).1 i = topAt d i := by
 have hs := h.st
 have ho := (sy_ok h.ok (by omega)).1
 have e : C22.sy d = ({ d with steps := d.steps + 1, cs := d.cs.map syC }, 0) := by
  unfold C22.sy
  rw [if_neg (by rw [h.live]; simp), stp_live h.aft, if_neg (by simp)]
 rw [e] at ho ⊢
 refine ⟨rfl, ⟨ho, h.live, h.aft, fun c hc => ?_, by simp only; omega⟩, by simp, fun i => ?_⟩
 · obtain ⟨y, hy, rfl⟩ := List.mem_map.1 hc
   unfold syC
   split
   · rfl
   · exact h.good y hy
 · unfold topAt
   simp only [List.getElem?_map]
   cases hx : d.cs[i]? with
   | none => rfl
   | some c =>
    simp only [Option.map_some, Option.getD_some, topS, syC]
    cases hl : c.op.getLast? with
    | none => simp [hl]
    | some s => rfl
theorem Lv.writeR (h : Lv d n) (hn : n ≤ 800000000) {a : Nat} (ha : a < d.cs.length) (s : Sec) :
 (writeR d a s).2 = 0 ∧ Lv (writeR d a s).1 (n + 2) ∧ (writeR d a s).1.cs.length = d.cs.length ∧ ∀ i, topAt (writeR d a s).1 i = if i = a then s else topAt d i := by
 obtain ⟨h1, h2, h3, h4⟩ := h.wr (by omega) ha s
 obtain ⟨g1, g2, g3, g4⟩ := h2.sy (by omega)
 unfold C22.writeR
 rw [if_neg (by rw [h1]; simp)]
 exact ⟨g1, g2.mono (by omega), g3.trans h3, fun i => by rw [g4, h4]⟩
theorem Lv.readC (h : Lv d n) {a : Nat} (ha : a < d.cs.length) : readC d a = (⟨topAt d a, a, goodS (topAt d a)⟩, 0) := by
 unfold C22.readC
 rw [h.rd ha]
 simp
def fOf (d : Dk) (a : Nat) : Fnd := ⟨topAt d a, a, goodS (topAt d a)⟩
theorem Lv.slotR (h : Lv d n) {f i : Nat} (hi : f + 2 * i + 1 < d.cs.length) :
 slotR d f i = if goodS (topAt d (f + 2 * i + 1)) = true ∧ (goodS (topAt d (f + 2 * i)) = false ∨ numAt (topAt d (f + 2 * i)) 0 < numAt (topAt d (f + 2 * i + 1)) 0) then (fOf d (f + 2 * i + 1), fOf d (f + 2 * i), 0) else (fOf d (f + 2 * i), fOf d (f + 2 * i + 1), 0) := by
 have h0 := h.readC (a := f + 2 * i) (by omega)
 have h1 := h.readC (a := f + 2 * i + 1) hi
 have e0 : ((f + 2 * i : Nat) : Int) = (f : Int) + 2 * (i : Int) := by omega
 have e1 : ((f + 2 * i + 1 : Nat) : Int) = (f : Int) + 2 * (i : Int) + 1 := by omega
 rw [e0] at h0
 rw [e1] at h1
 unfold C22.slotR
 rw [h0, h1, if_neg (by simp), if_neg (by simp)]
 unfold fOf
 rw [e0, e1]
theorem Lv.slot2 (h : Lv d n) {f i : Nat} (hi : f + 2 * i + 1 < d.cs.length) :
 ∃ a b : Nat, (a = f + 2 * i ∧ b = f + 2 * i + 1 ∨ a = f + 2 * i + 1 ∧ b = f + 2 * i) ∧ C22.slotR d f i = (fOf d a, fOf d b, 0) := by
 rw [h.slotR hi]
 split
 · exact ⟨_, _, .inr ⟨rfl, rfl⟩, rfl⟩
 · exact ⟨_, _, .inl ⟨rfl, rfl⟩, rfl⟩
theorem Lv.healR (h : Lv d n) (hn : n ≤ 800000000) {a b : Nat} (hb : b < d.cs.length) :
 (healR d (fOf d a) (fOf d b)).2 = 0 ∧ Lv (healR d (fOf d a) (fOf d b)).1 (n + 2) ∧ (healR d (fOf d a) (fOf d b)).1.cs.length = d.cs.length ∧ ∀ i, i ≠ b → topAt (healR d (fOf d a) (fOf d b)).1 i = topAt d i := by
 unfold C22.healR
 split
 · exact ⟨rfl, h.mono (by omega), rfl, fun _ _ => rfl⟩
 · obtain ⟨h1, h2, h3, h4⟩ := h.writeR hn hb (fOf d a).s
   exact ⟨h1, h2, h3, fun i hi => by rw [show (fOf d b).at' = (b : Int) from rfl, h4, if_neg hi]⟩
theorem Lv.changeR (h : Lv d n) (hn : n ≤ 700000000) {f i : Nat} (hi : f + 2 * i + 1 < d.cs.length) (b : Str) :
 (changeR d f i b).2 = 0 ∧ Lv (changeR d f i b).1 (n + 6) ∧ (changeR d f i b).1.cs.length = d.cs.length ∧ ∀ j, j ≠ f + 2 * i → j ≠ f + 2 * i + 1 → topAt (changeR d f i b).1 j = topAt d j := by
 obtain ⟨a, c, hac, hs⟩ := h.slot2 hi
 unfold C22.changeR
 rw [hs]
 obtain ⟨h1, h2, h3, h4⟩ := h.healR (by omega) (a := a) (b := c) (by omega)
 simp only
 rw [if_neg (by simp), if_neg (by rw [h1]; simp)]
 generalize (C22.healR d (fOf d a) (fOf d c)).1 = d2 at h2 h3 h4
 generalize mk1 (nextQ (fOf d a)) b = s
 have e0 : (f : Int) + 2 * (i : Int) = ((f + 2 * i : Nat) : Int) := by omega
 have e1 : (f : Int) + 2 * (i : Int) + 1 = ((f + 2 * i + 1 : Nat) : Int) := by omega
 unfold change2
 rw [e1, e0]
 obtain ⟨g1, g2, g3, g4⟩ := h2.writeR (by omega) (a := f + 2 * i + 1) (by omega) s
 rw [if_neg (by rw [g1]; simp)]
 obtain ⟨k1, k2, k3, k4⟩ := g2.writeR (by omega) (a := f + 2 * i) (by omega) s
 refine ⟨k1, k2.mono (by omega), by omega, fun j hj hj2 => ?_⟩
 rw [k4, if_neg hj, g4, if_neg hj2, h4 j (by omega)]
theorem Lv.fmtL (h : Lv d n) {f : Nat} : ∀ (k : Nat), n + k ≤ 800000000 → f + k ≤ d.cs.length →
 (fmtL d f k).2 = 0 ∧ Lv (fmtL d f k).1 (n + k) ∧ (fmtL d f k).1.cs.length = d.cs.length ∧ ∀ j, topAt (fmtL d f k).1 j = if f ≤ j ∧ j < f + k then mk1 1 [] else topAt d j
 | 0, _, _ => ⟨rfl, h.mono (by omega), rfl, fun j => by rw [if_neg (by omega)]; rfl⟩
 | k + 1, hn, hk => by
   obtain ⟨h1, h2, h3, h4⟩ := h.fmtL (f := f) k (by omega) (by omega)
   unfold C22.fmtL
   rw [if_neg (by rw [h1]; simp)]
   obtain ⟨g1, g2, g3, g4⟩ := h2.wr (by omega) (a := f + k) (by omega) (mk1 1 [])
   have e : (f : Int) + (k : Int) = ((f + k : Nat) : Int) := by omega
   rw [e]
   refine ⟨g1, g2.mono (by omega), by omega, fun j => ?_⟩
   rw [g4, h4]
   by_cases e1 : j = f + k
   · rw [if_pos e1, if_pos (by omega)]
   · rw [if_neg e1]
     by_cases e2 : f ≤ j ∧ j < f + k
     · rw [if_pos e2, if_pos (by omega)]
     · rw [if_neg e2, if_neg (by omega)]
theorem Lv.fmtR (h : Lv d n) (hn : n ≤ 700000000) {f m : Nat} (hm : 1 ≤ m) (hl : f + 2 * m ≤ d.cs.length) :
 (fmtR d f m).2 = 0 ∧ Lv (fmtR d f m).1 (n + 2 * m + 1) ∧ (fmtR d f m).1.cs.length = d.cs.length ∧ ∀ j, topAt (fmtR d f m).1 j = if f ≤ j ∧ j < f + 2 * m then mk1 1 [] else topAt d j := by
 have hp : placeB d f m = true := by
  unfold placeB
  simp
  omega
 have hmost := h.ok.most
 obtain ⟨h1, h2, h3, h4⟩ := h.fmtL (f := f) (2 * m) (by omega) hl
 obtain ⟨g1, g2, g3, g4⟩ := h2.sy (by omega)
 unfold C22.fmtR
 rw [if_neg (by rw [hp]; simp), Int.toNat_natCast, if_neg (by rw [h1]; simp)]
 exact ⟨g1, g2.mono (by omega), by omega, fun j => by rw [g4, h4]⟩
end
theorem good_one : goodS (mk1 1 []) = true := by decide +kernel
theorem Lv.openN {d : Dk} {n : Int} (h : Lv d n) {f : Nat} : ∀ (k : Nat), f + 2 * k ≤ d.cs.length → (∀ i, i < k → topAt d (f + 2 * i) = topAt d (f + 2 * i + 1) ∧ goodS (topAt d (f + 2 * i)) = true) → openN d f k = (d, [], 0)
 | 0, _, _ => rfl
 | k + 1, hk, hg => by
   have ih := h.openN k (by omega) fun i hi => hg i (by omega)
   obtain ⟨e1, e2⟩ := hg k (by omega)
   have ho : open1 d f k = (d, false, 0) := by
    have hsl : C22.slotR d f k = (fOf d (f + 2 * k), fOf d (f + 2 * k + 1), 0) := by rw [h.slotR (by omega), if_neg (by rw [← e1, e2]; simp)]
    have hg2 : (fOf d (f + 2 * k)).good = true := e2
    unfold open1
    rw [hsl]
    simp only [hg2, if_true]
    rw [if_neg (by simp)]
    have : C22.healR d (fOf d (f + 2 * k)) (fOf d (f + 2 * k + 1)) = (d, 0) := by
     unfold C22.healR
     rw [if_pos (.inr ⟨by unfold fOf; simp only; rw [← e1]; exact e2, by unfold fOf; exact e1.symm⟩)]
    rw [this]
   unfold C22.openN
   rw [ih, if_neg (by simp), ho]
   simp
end C22
