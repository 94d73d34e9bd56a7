/-
 Layer 22 (slots): what a slot is while the power may fail, as plain mathematics.
 Conditions: of each law as it says.
-/
import Derived.Test.YtioojmlhmhgeeaaS22h
namespace C22
def fH (s : Sec) : List UInt8 := s.1.take 32
def sH (s : Sec) : List UInt8 := s.1.drop 32
theorem halves {s t : Sec} (a : fH s = fH t) (b : sH s = sH t) : s = t := by
 apply Subtype.ext
 rw [← List.take_append_drop 32 s.1, ← List.take_append_drop 32 t.1]
 unfold fH at a
 unfold sH at b
 rw [a, b]
theorem torn_fH (x y : Sec) : fH (torn x y) = fH y := by
 unfold fH torn
 simp only
 rw [List.take_append_of_le_length (by rw [List.length_take, y.2]; decide), List.take_of_length_le (by rw [List.length_take, y.2]; decide)]
theorem torn_sH (x y : Sec) : sH (torn x y) = sH x := by
 unfold sH torn
 simp only
 rw [List.drop_left' (by rw [List.length_take, y.2]; decide)]
def numH (l : List UInt8) : Nat := ((l[0]?).getD 0).toNat * 16777216 + ((l[1]?).getD 0).toNat * 65536 + ((l[2]?).getD 0).toNat * 256 + ((l[3]?).getD 0).toNat
theorem num_fH (s : Sec) : numAt s 0 = numH (fH s) := by
 unfold numAt numH byteAt fH
 simp only [List.getElem?_take, Nat.zero_add]
 rfl
theorem num_sH (s : Sec) : numAt s 32 = numH (sH s) := by
 unfold numAt numH byteAt sH
 simp only [List.getElem?_drop]
theorem byte36_sH (s : Sec) : byteAt s 36 = (((sH s)[4]?).getD 0).toNat := by
 unfold byteAt sH
 simp only [List.getElem?_drop]
def Cls (G N s : Sec) : Prop := (fH s = fH G ∨ fH s = fH N ∨ fH s = fH z0) ∧ (sH s = sH G ∨ sH s = sH N ∨ sH s = sH z0)
theorem Cls.g {G N : Sec} : Cls G N G := ⟨.inl rfl, .inl rfl⟩
theorem Cls.n {G N : Sec} : Cls G N N := ⟨.inr (.inl rfl), .inr (.inl rfl)⟩
theorem Cls.z {G N : Sec} : Cls G N z0 := ⟨.inr (.inr rfl), .inr (.inr rfl)⟩
theorem Cls.torn {G N x y : Sec} (hx : Cls G N x) (hy : Cls G N y) : Cls G N (torn x y) := ⟨by rw [torn_fH]; exact hy.1, by rw [torn_sH]; exact hx.2⟩
structure Two (G N : Sec) : Prop where
 gg : goodS G = true
 gn : goodS N = true
 ne : G = N ∨ numAt G 0 < numAt N 0
theorem num_z0 : numAt z0 0 = 0 := by decide
theorem num_z032 : numAt z0 32 = 0 := by decide
theorem good_num {s : Sec} (h : goodS s = true) : numAt s 0 = numAt s 32 ∧ 1 ≤ numAt s 0 ∧ byteAt s 36 ≤ 55 := by
 unfold goodS at h
 simp only [Bool.and_eq_true, decide_eq_true_eq] at h
 exact ⟨h.1.1, h.1.2, h.2⟩
theorem Two.only {G N : Sec} (h : Two G N) {s : Sec} (hc : Cls G N s) (hg : goodS s = true) : s = G ∨ s = N := by
 obtain ⟨g1, g2, _⟩ := good_num h.gg
 obtain ⟨n1, n2, _⟩ := good_num h.gn
 obtain ⟨s1, s2, _⟩ := good_num hg
 have hz1 := num_z0
 have hz2 := num_z032
 rw [num_fH] at g1 g2 n1 n2 s1 s2 hz1
 rw [num_sH] at g1 n1 s1 hz2
 rcases h.ne with rfl | hlt
 · obtain ⟨a, b⟩ := hc
   rcases a with a | a | a
   · rcases b with b | b | b
     · exact .inl (halves a b)
     · exact .inl (halves a b)
     · rw [a, b] at s1; omega
   · rcases b with b | b | b
     · exact .inl (halves a b)
     · exact .inl (halves a b)
     · rw [a, b] at s1; omega
   · rw [a] at s2; omega
 · rw [num_fH, num_fH] at hlt
   obtain ⟨a, b⟩ := hc
   rcases a with a | a | a
   · rcases b with b | b | b
     · exact .inl (halves a b)
     · rw [a, b] at s1; omega
     · rw [a, b] at s1; omega
   · rcases b with b | b | b
     · rw [a, b] at s1; omega
     · exact .inr (halves a b)
     · rw [a, b] at s1; omega
   · rw [a] at s2; omega
structure CellS (G N : Sec) (c : Cel) : Prop where
 cls : Cls G N c.s
 op : ∀ s ∈ c.op, s = G ∨ s = N
structure Safe (G N : Sec) (c : Cel) : Prop where
 op : c.op = []
 bad : c.bad = false
 is : c.s = G ∨ c.s = N
theorem CellS.kept {G N : Sec} {c : Cel} (h : CellS G N c) (x : Int) : CellS G N (kept c x) := by
 have hcl : ∀ s ∈ c.op, Cls G N s := fun s hs => by rcases h.op s hs with rfl | rfl; exact .g; exact .n
 have hget : ∀ i : Nat, Cls G N ((c.op[i]?).getD z0) := fun i => by
  cases hx : c.op[i]? with
  | none => exact .z
  | some s => exact hcl s (List.mem_of_getElem? hx)
 unfold C22.kept
 split
 · exact ⟨h.cls, by simp⟩
 · split
   · exact ⟨hget _, by simp⟩
   · split
     · exact ⟨.z, by simp⟩
     · refine ⟨.torn ?_ (hget _), by simp⟩
       split
       · exact hget _
       · exact h.cls
structure Idle (d : Dk) : Prop where
 ok : Okd d
 live : d.dead = false
 shut : ∀ c ∈ d.cs, c.op = []
theorem Idle.syC {d : Dk} (h : Idle d) : d.cs.map syC = d.cs := by
 apply List.ext_getElem
 · simp
 · intro i h1 h2
   rw [List.getElem_map]
   have := h.shut _ (List.getElem_mem h2)
   unfold C22.syC
   rw [this]; rfl
theorem Idle.rd {d : Dk} (h : Idle d) {a : Nat} (ha : a < d.cs.length) : rd d a = if d.cs[a].bad = true then (z0, 14) else (d.cs[a].s, 0) := by
 rw [rd_live h.live (List.getElem?_eq_getElem ha), celRd_shut (h.shut _ (List.getElem_mem ha))]
theorem good_z0 : goodS z0 = false := by decide
theorem Idle.readC {d : Dk} (h : Idle d) {a : Nat} (ha : a < d.cs.length) : readC d a = (⟨d.cs[a].s, a, goodS d.cs[a].s⟩, 0) := by
 unfold C22.readC
 rw [h.rd ha]
 split
 · rename_i hb
   rw [h.ok.rot _ (List.getElem_mem ha) hb, good_z0]
   rfl
 · simp
theorem Idle.chk {d : Dk} (h : Idle d) {a : Nat} (ha : a < d.cs.length) : chk d a = 0 := by
 unfold C22.chk
 rw [if_neg (by rw [h.live]; simp), if_neg (by omega)]
theorem sy_eq {d : Dk} (h : d.dead = false) (h0 : d.after ≠ 0) : sy d = ({ d with after := if 0 < d.after then d.after - 1 else d.after, steps := d.steps + 1, cs := d.cs.map syC }, 0) := by
 unfold sy stp
 rw [if_neg (by rw [h]; simp), if_neg h0, if_neg (by simp)]
theorem sy_dead {d : Dk} (h : d.dead = false) (h0 : d.after = 0) : sy d = ({ d with dead := true }, 12) := by
 unfold sy stp
 rw [if_neg (by rw [h]; simp), if_pos h0, if_pos (by simp)]
inductive WrO (d : Dk) (a : Nat) (v : Sec) : Dk → Int → Prop
 | none : d.after = 0 → WrO d a v { d with dead := true } 12
 | open (d' : Dk) : d.after = 1 → d'.cs = (d.cs.modify a fun c => { c with op := [v] }) → d'.dead = true → d'.steps = d.steps + 1 → WrO d a v d' 12
 | done (d' : Dk) : d'.cs = (d.cs.modify a fun _ => ⟨v, false, []⟩) → d'.dead = false → d'.steps = d.steps + 2 → (d.after = -1 → d'.after = -1) → WrO d a v d' 0
theorem Idle.writeR {d : Dk} (h : Idle d) (hn : d.steps ≤ 900000000) {a : Nat} (ha : a < d.cs.length) (v : Sec) : WrO d a v (writeR d a v).1 (writeR d a v).2 := by
 have haft := h.ok.aft
 by_cases h0 : d.after = 0
 · have e : stp d = ({ d with dead := true }, 12) := by unfold stp; rw [if_pos h0]
   have e2 : wr d a v = ({ d with dead := true }, 12) := by
    unfold wr
    rw [if_neg (by rw [h.chk ha]; simp), e, if_pos (by simp)]
   have e3 : C22.writeR d a v = ({ d with dead := true }, 12) := by unfold C22.writeR; rw [e2, if_pos (by simp)]
   rw [e3]
   exact .none h0
 · have e : stp d = ({ d with after := if 0 < d.after then d.after - 1 else d.after, steps := d.steps + 1 }, 0) := by unfold stp; rw [if_neg h0]
   have e2 : wr d a v = ({ d with after := if 0 < d.after then d.after - 1 else d.after, steps := d.steps + 1, cs := d.cs.modify a fun c => { c with op := [v] } }, 0) := by
    unfold wr
    rw [if_neg (by rw [h.chk ha]; simp), e, if_neg (by simp), Int.toNat_natCast]
    have : d.cs.modify a (fun c => { c with op := c.op ++ [v] }) = d.cs.modify a fun c => { c with op := [v] } := by
     apply List.ext_getElem
     · simp
     · intro i q1 q2
       rw [List.getElem_modify, List.getElem_modify]
       have q3 : i < d.cs.length := by simpa using q1
       split
       · rw [h.shut _ (List.getElem_mem q3)]; rfl
       · rfl
    simp only [this]
   have e4 : C22.writeR d a v = sy { d with after := if 0 < d.after then d.after - 1 else d.after, steps := d.steps + 1, cs := d.cs.modify a fun c => { c with op := [v] } } := by
    unfold C22.writeR
    rw [e2, if_neg (by simp)]
   rw [e4]
   obtain ⟨dx, hdx⟩ : ∃ dx : Dk, dx = { d with after := if 0 < d.after then d.after - 1 else d.after, steps := d.steps + 1, cs := d.cs.modify a fun c => { c with op := [v] } } := ⟨_, rfl⟩
   rw [← hdx]
   have x1 : dx.dead = false := by rw [hdx]; exact h.live
   have x2 : dx.cs = d.cs.modify a fun c => { c with op := [v] } := by rw [hdx]
   have x3 : dx.steps = d.steps + 1 := by rw [hdx]
   have x4 : dx.after = if 0 < d.after then d.after - 1 else d.after := by rw [hdx]
   by_cases h1 : d.after = 1
   · rw [sy_dead x1 (by rw [x4, h1]; decide)]
     exact .open _ h1 x2 rfl x3
   · have h2 : dx.after ≠ 0 := by rw [x4]; split <;> omega
     rw [sy_eq x1 h2]
     refine .done _ ?_ x1 (by simp only; omega) (fun hm => by simp only; rw [x4, hm]; decide)
     simp only [x2]
     apply List.ext_getElem
     · simp
     · intro i q1 q2
       simp only [List.getElem_map, List.getElem_modify]
       have q3 : i < d.cs.length := by simpa using q2
       split
       · rfl
       · have := h.shut _ (List.getElem_mem q3)
         unfold C22.syC
         rw [this]; rfl
end C22
/-
 Layer 22 (slots): what stands in a copy, as plain mathematics.
 Conditions: of each law as it says.
-/
namespace C22
theorem qb_len (q : Int) : (qb q).length = 4 := rfl
theorem mk1_eq (q : Int) (b : Str) : (mk1 q b).1 = (qb q ++ pad 28 (b.take 28)) ++ (qb q ++ ([UInt8.ofNat b.length] ++ pad 27 ((b.drop 28).take 27))) := by
 have h1 : (pad 28 (b.take 28)).length = 28 := pad_len (by simp; omega)
 have h2 : (pad 27 ((b.drop 28).take 27)).length = 27 := pad_len (by simp; omega)
 unfold mk1
 simp only
 rw [List.take_of_length_le (by simp only [List.length_append, h1, h2, qb_len, List.length_cons, List.length_nil]; omega)]
 simp only [List.append_assoc]
theorem fH_mk1 (q : Int) (b : Str) : fH (mk1 q b) = qb q ++ pad 28 (b.take 28) := by
 have h1 : (pad 28 (b.take 28)).length = 28 := pad_len (by simp; omega)
 unfold fH
 rw [mk1_eq, List.take_left' (by rw [List.length_append, h1, qb_len])]
theorem sH_mk1 (q : Int) (b : Str) : sH (mk1 q b) = qb q ++ ([UInt8.ofNat b.length] ++ pad 27 ((b.drop 28).take 27)) := by
 have h1 : (pad 28 (b.take 28)).length = 28 := pad_len (by simp; omega)
 unfold sH
 rw [mk1_eq, List.drop_left' (by rw [List.length_append, h1, qb_len])]
theorem byteI_nat (b : Int) : ((byteI b).toNat : Int) = b % 256 := by
 unfold byteI
 rw [UInt8.toNat_ofNat']
 omega
theorem numH_qb {q : Int} (h0 : 0 ≤ q) (h1 : q < 4294967296) (l : List UInt8) : (numH (qb q ++ l) : Int) = q := by
 unfold numH qb
 simp only [List.cons_append, List.nil_append, List.getElem?_cons_zero, List.getElem?_cons_succ, Option.getD_some]
 have a := byteI_nat (q / 16777216)
 have b := byteI_nat (q / 65536)
 have c := byteI_nat (q / 256)
 have d := byteI_nat q
 omega
theorem num_mk1 {q : Int} (h0 : 0 ≤ q) (h1 : q < 4294967296) (b : Str) : (numAt (mk1 q b) 0 : Int) = q := by
 rw [num_fH, fH_mk1, numH_qb h0 h1]
theorem num_mk132 {q : Int} (h0 : 0 ≤ q) (h1 : q < 4294967296) (b : Str) : (numAt (mk1 q b) 32 : Int) = q := by
 rw [num_sH, sH_mk1, numH_qb h0 h1]
theorem len_mk1 (q : Int) {b : Str} (h : b.length ≤ 55) : byteAt (mk1 q b) 36 = b.length := by
 rw [byte36_sH, sH_mk1]
 unfold qb
 simp only [List.cons_append, List.nil_append, List.getElem?_cons_zero, List.getElem?_cons_succ, Option.getD_some]
 rw [UInt8.toNat_ofNat']
 omega
theorem good_mk1 {q : Int} (h0 : 1 ≤ q) (h1 : q < 4294967296) {b : Str} (h : b.length ≤ 55) : goodS (mk1 q b) = true := by
 have a := num_mk1 (by omega) h1 b
 have c := num_mk132 (by omega) h1 b
 unfold goodS
 rw [len_mk1 q h]
 simp only [Bool.and_eq_true, decide_eq_true_eq]
 omega
theorem bytes_mk1 (q : Int) {b : Str} (h : b.length ≤ 55) : bytesOf (mk1 q b) = b := by
 have h1 : (pad 28 (b.take 28)).length = 28 := pad_len (by simp; omega)
 unfold bytesOf
 rw [len_mk1 q h, mk1_eq]
 have e1 : List.drop 4 ((qb q ++ pad 28 (b.take 28)) ++ (qb q ++ ([UInt8.ofNat b.length] ++ pad 27 ((b.drop 28).take 27)))) = pad 28 (b.take 28) ++ (qb q ++ ([UInt8.ofNat b.length] ++ pad 27 ((b.drop 28).take 27))) := by
  rw [List.append_assoc, List.drop_left' (qb_len q)]
 have e2 : List.drop 37 ((qb q ++ pad 28 (b.take 28)) ++ (qb q ++ ([UInt8.ofNat b.length] ++ pad 27 ((b.drop 28).take 27)))) = pad 27 ((b.drop 28).take 27) := by
  have : (qb q ++ pad 28 (b.take 28)) ++ (qb q ++ ([UInt8.ofNat b.length] ++ pad 27 ((b.drop 28).take 27))) = ((qb q ++ pad 28 (b.take 28)) ++ (qb q ++ [UInt8.ofNat b.length])) ++ pad 27 ((b.drop 28).take 27) := by simp only [List.append_assoc]
  rw [this, List.drop_left' (by simp only [List.length_append, h1, qb_len, List.length_cons, List.length_nil])]
 rw [e1, e2]
 unfold pad
 have e3 : List.take (min b.length 28) ((b.take 28 ++ List.replicate (28 - (b.take 28).length) 0) ++ (qb q ++ ([UInt8.ofNat b.length] ++ (List.take 27 (b.drop 28) ++ List.replicate (27 - (List.take 27 (b.drop 28)).length) 0)))) = b.take 28 := by
  rw [List.append_assoc, List.take_left' (by rw [List.length_take]; omega)]
 have e4 : List.take (b.length - 28) (List.take 27 (b.drop 28) ++ List.replicate (27 - (List.take 27 (b.drop 28)).length) 0) = b.drop 28 := by
  rw [List.take_left' (by rw [List.length_take, List.length_drop]; omega), List.take_of_length_le (by rw [List.length_drop]; omega)]
 rw [e3, e4, List.take_append_drop]
end C22
