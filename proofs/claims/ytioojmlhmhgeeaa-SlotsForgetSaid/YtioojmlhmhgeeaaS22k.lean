/-
 Layer 22 (slots): slots whose disk may fail at any step, as plain mathematics.
 Conditions: of each law as it says.
-/
import Derived.Test.YtioojmlhmhgeeaaS22i
namespace C22
def PS (G N : Sec) (c c' : Cel) : Prop := CellS G N c ∧ CellS G N c' ∧ (Safe G N c ∨ Safe G N c')
structure Pw (G N : Nat → Sec) (d : Dk) : Prop where
 ok : Okd d
 len : d.cs.length = 6
 two : ∀ i, i < 3 → Two (G i) (N i)
 ps : ∀ i, i < 3 → PS (G i) (N i) (celAt d (2 * i)) (celAt d (2 * i + 1))
theorem celAt_mod {d d' : Dk} {a : Nat} {f : Cel → Cel} (h : d'.cs = d.cs.modify a f) (ha : a < d.cs.length) (k : Nat) : celAt d' k = if k = a then f (celAt d a) else celAt d k := by
 unfold celAt
 rw [h, List.getElem?_modify]
 by_cases e : k = a
 · subst e
   rw [if_pos rfl, List.getElem?_eq_getElem ha]
   simp
 · rw [if_neg e]
   cases d.cs[k]? with
   | none => rfl
   | some c => simp [Ne.symm e]
theorem celAt_crash {d : Dk} (keep : List Int) {k : Nat} (hk : k < d.cs.length) : ∃ x, celAt (crash d keep) k = if (celAt d k).op = [] then celAt d k else kept (celAt d k) x := by
 refine ⟨keepAt keep (0 + ((d.cs.take k).filter fun c => decide (c.op ≠ [])).length), ?_⟩
 rw [celAt_get hk]
 unfold celAt crash
 simp only
 rw [crashL_get hk]
 rfl
theorem Safe.kind {G N : Sec} {c : Cel} (h : Safe G N c) : CellS G N c := ⟨by rcases h.is with e | e <;> rw [e]; exact .g; exact .n, by rw [h.op]; simp⟩
theorem Safe.eq {G N : Sec} {c : Cel} (h : Safe G N c) : c = ⟨G, false, []⟩ ∨ c = ⟨N, false, []⟩ := by
 obtain ⟨a, b, e⟩ := h
 obtain ⟨s, bad, op⟩ := c
 simp only at a b e
 subst a; subst b
 rcases e with rfl | rfl
 · exact .inl rfl
 · exact .inr rfl
section
variable {G N : Nat → Sec} {d : Dk}
theorem Pw.crash (h : Pw G N d) (keep : List Int) : Pw G N (crash d keep) ∧ Idle (crash d keep) ∧ (C22.crash d keep).after = -1 ∧ (C22.crash d keep).steps = 0 := by
 obtain ⟨h1, h2⟩ := crash_ok h.ok keep
 refine ⟨⟨h1, (crash_len d keep).trans h.len, h.two, fun i hi => ?_⟩, ⟨h1, rfl, h2⟩, rfl, rfl⟩
 obtain ⟨a, b, c⟩ := h.ps i hi
 have hl := h.len
 obtain ⟨x, hx⟩ := celAt_crash (d := d) keep (k := 2 * i) (by omega)
 obtain ⟨y, hy⟩ := celAt_crash (d := d) keep (k := 2 * i + 1) (by omega)
 rw [hx, hy]
 refine ⟨?_, ?_, ?_⟩
 · split
   · exact a
   · exact a.kept x
 · split
   · exact b
   · exact b.kept y
 · rcases c with c | c
   · rw [if_pos c.op]; exact .inl c
   · rw [if_pos c.op]; exact .inr c
def fI (d : Dk) (a : Nat) : Fnd := ⟨(celAt d a).s, a, goodS (celAt d a).s⟩
theorem Idle.slotR (h : Idle d) {i : Nat} (hi : 2 * i + 1 < d.cs.length) :
 slotR d 0 i = if goodS (celAt d (2 * i + 1)).s = true ∧ (goodS (celAt d (2 * i)).s = false ∨ numAt (celAt d (2 * i)).s 0 < numAt (celAt d (2 * i + 1)).s 0) then (fI d (2 * i + 1), fI d (2 * i), 0) else (fI d (2 * i), fI d (2 * i + 1), 0) := by
 have h0 := h.readC (a := 2 * i) (by omega)
 have h1 := h.readC (a := 2 * i + 1) hi
 have e0 : ((2 * i : Nat) : Int) = 0 + 2 * (i : Int) := by omega
 have e1 : ((2 * i + 1 : Nat) : Int) = 0 + 2 * (i : Int) + 1 := by omega
 rw [e0, ← celAt_get] at h0
 rw [e1, ← celAt_get] at h1
 unfold C22.slotR
 rw [h0, h1, if_neg (by simp), if_neg (by simp)]
 unfold fI
 rw [e0, e1]
def Pair2 (i a b : Nat) : Prop := a = 2 * i ∧ b = 2 * i + 1 ∨ a = 2 * i + 1 ∧ b = 2 * i
theorem Idle.safe (h : Idle d) {g n : Sec} (ht : Two g n) {c : Cel} (hc : c ∈ d.cs) (hk : CellS g n c) (hg : goodS c.s = true) : Safe g n c := by
 refine ⟨h.shut _ hc, ?_, ht.only hk.cls hg⟩
 cases hb : c.bad with
 | false => rfl
 | true => rw [h.ok.rot _ hc hb, good_z0] at hg; cases hg
theorem Safe.good {g n : Sec} (ht : Two g n) {c : Cel} (h : Safe g n c) : goodS c.s = true := by
 rcases h.is with e | e
 · rw [e]; exact ht.gg
 · rw [e]; exact ht.gn
theorem Pw.slot (h : Pw G N d) (hid : Idle d) {i : Nat} (hi : i < 3) :
 ∃ a b, Pair2 i a b ∧ slotR d 0 i = (fI d a, fI d b, 0) ∧ Safe (G i) (N i) (celAt d a) ∧ goodS (celAt d a).s = true := by
 have hl := h.len
 obtain ⟨c1, c2, c3⟩ := h.ps i hi
 have m1 : celAt d (2 * i) ∈ d.cs := by rw [celAt_get (by omega)]; exact List.getElem_mem _
 have m2 : celAt d (2 * i + 1) ∈ d.cs := by rw [celAt_get (by omega)]; exact List.getElem_mem _
 rw [hid.slotR (by omega)]
 by_cases hc : goodS (celAt d (2 * i + 1)).s = true ∧ (goodS (celAt d (2 * i)).s = false ∨ numAt (celAt d (2 * i)).s 0 < numAt (celAt d (2 * i + 1)).s 0)
 · rw [if_pos hc]
   exact ⟨_, _, .inr ⟨rfl, rfl⟩, rfl, hid.safe (h.two i hi) m2 c2 hc.1, hc.1⟩
 · rw [if_neg hc]
   have hg : goodS (celAt d (2 * i)).s = true := by
    rcases c3 with c3 | c3
    · exact c3.good (h.two i hi)
    · have h2 := c3.good (h.two i hi)
      cases h1 : goodS (celAt d (2 * i)).s with
      | true => rfl
      | false => exact absurd ⟨h2, .inl h1⟩ hc
   exact ⟨_, _, .inl ⟨rfl, rfl⟩, rfl, hid.safe (h.two i hi) m1 c1 hg, hg⟩
theorem Pw.upd (h : Pw G N d) {d' : Dk} {i a b : Nat} (hab : Pair2 i a b) (hi : i < 3) {f : Cel → Cel} (hc : d'.cs = d.cs.modify b f) (ho : Okd d') (hk : CellS (G i) (N i) (f (celAt d b))) (hs : Safe (G i) (N i) (celAt d a)) : Pw G N d' := by
 have hl := h.len
 unfold Pair2 at hab
 have hb : b < d.cs.length := by omega
 refine ⟨ho, by rw [hc]; simpa using hl, h.two, fun j hj => ?_⟩
 rw [celAt_mod hc hb, celAt_mod hc hb]
 by_cases e : j = i
 · subst e
   rcases hab with ⟨rfl, rfl⟩ | ⟨rfl, rfl⟩
   · rw [if_neg (by omega), if_pos rfl]
     exact ⟨hs.kind, hk, .inl hs⟩
   · rw [if_pos rfl, if_neg (by omega)]
     exact ⟨hk, hs.kind, .inr hs⟩
 · rw [if_neg (by omega), if_neg (by omega)]
   exact h.ps j hj
structure Dd (G N : Nat → Sec) (d d' : Dk) (k : Int) : Prop where
 pw : Pw G N d'
 aft : d.after ≠ -1
 dead : d'.dead = true
 st : d'.steps ≤ d.steps + k
structure Go' (G N : Nat → Sec) (d d' : Dk) (k : Int) : Prop where
 pw : Pw G N d'
 idle : Idle d'
 aft : d.after = -1 → d'.after = -1
 st : d'.steps ≤ d.steps + k
theorem Pw.writeR (h : Pw G N d) (hid : Idle d) (hn : d.steps ≤ 900000000) {i a b : Nat} (hab : Pair2 i a b) (hi : i < 3) (hs : Safe (G i) (N i) (celAt d a)) {v : Sec} (hv : v = G i ∨ v = N i) :
 ((writeR d b v).2 = 12 ∧ Dd G N d (writeR d b v).1 2) ∨
 ((writeR d b v).2 = 0 ∧ Go' G N d (writeR d b v).1 2 ∧ celAt (writeR d b v).1 b = ⟨v, false, []⟩ ∧ ∀ k, k ≠ b → celAt (writeR d b v).1 k = celAt d k) := by
 have hl := h.len
 have hb : b < d.cs.length := by unfold Pair2 at hab; omega
 have hu := writeR_up hid.ok (by omega) (b : Int) v
 have hw := hid.writeR hn hb v
 have hcb : CellS (G i) (N i) (celAt d b) := by
  obtain ⟨p1, p2, _⟩ := h.ps i hi
  rcases hab with ⟨rfl, rfl⟩ | ⟨rfl, rfl⟩
  · exact p2
  · exact p1
 generalize hr : (C22.writeR d b v).1 = r at hu hw
 generalize he : (C22.writeR d b v).2 = e at hw
 rw [← hr] at hu ⊢
 cases hw with
 | none h0 =>
  refine .inl ⟨rfl, ⟨⟨hu.1, hu.2.1.trans hl, h.two, fun j hj => ?_⟩, by omega, by rw [hr], hu.2.2⟩⟩
  rw [hr]
  exact h.ps j hj
 | «open» d' h1 h2 h3 h4 =>
  rw [hr] at hu ⊢
  exact .inl ⟨rfl, ⟨h.upd hab hi h2 hu.1 ⟨hcb.cls, fun s hs => by
   obtain rfl : s = v := by simpa using hs
   exact hv⟩ hs, by omega, h3, hu.2.2⟩⟩
 | done d' h1 h2 h3 h4 =>
  rw [hr] at hu ⊢
  have hcl : CellS (G i) (N i) ⟨v, false, []⟩ := (Safe.mk rfl rfl hv).kind
  refine .inr ⟨rfl, ⟨h.upd hab hi h1 hu.1 hcl hs, ⟨hu.1, h2, fun c hc => ?_⟩, h4, hu.2.2⟩, ?_, fun k hk => ?_⟩
  · rw [h1] at hc
    rcases mem_modify hc with hc | ⟨_, _, rfl⟩
    · exact hid.shut c hc
    · rfl
  · rw [celAt_mod h1 hb, if_pos rfl]
  · rw [celAt_mod h1 hb, if_neg hk]
theorem fI_at (d : Dk) (a : Nat) : (fI d a).at' = (a : Int) := rfl
theorem Pw.healR (h : Pw G N d) (hid : Idle d) (hn : d.steps ≤ 900000000) {i a b : Nat} (hab : Pair2 i a b) (hi : i < 3) (hs : Safe (G i) (N i) (celAt d a)) :
 ((healR d (fI d a) (fI d b)).2 = 12 ∧ Dd G N d (healR d (fI d a) (fI d b)).1 2) ∨
 ((healR d (fI d a) (fI d b)).2 = 0 ∧ Go' G N d (healR d (fI d a) (fI d b)).1 2 ∧ celAt (healR d (fI d a) (fI d b)).1 b = celAt d a ∧ ∀ k, k ≠ b → celAt (healR d (fI d a) (fI d b)).1 k = celAt d k) := by
 have hl := h.len
 have hb : b < d.cs.length := by unfold Pair2 at hab; omega
 have hca : celAt d a = ⟨(celAt d a).s, false, []⟩ := by
  rcases hs.eq with e | e <;> rw [e]
 have hcb : CellS (G i) (N i) (celAt d b) := by
  obtain ⟨p1, p2, _⟩ := h.ps i hi
  rcases hab with ⟨rfl, rfl⟩ | ⟨rfl, rfl⟩
  · exact p2
  · exact p1
 have hga : (fI d a).good = true := hs.good (h.two i hi)
 unfold C22.healR
 by_cases hc : (fI d a).good = false ∨ (fI d b).good = true ∧ (fI d b).s = (fI d a).s
 · rw [if_pos hc]
   refine .inr ⟨rfl, ⟨h, hid, fun h => h, by simp only; omega⟩, ?_, fun _ _ => rfl⟩
   rcases hc with hc | ⟨hc1, hc2⟩
   · rw [hga] at hc; cases hc
   · have m2 : celAt d b ∈ d.cs := by rw [celAt_get hb]; exact List.getElem_mem _
     have hsb := hid.safe (h.two i hi) m2 hcb hc1
     have hcb2 : celAt d b = ⟨(celAt d b).s, false, []⟩ := by
      rcases hsb.eq with e | e <;> rw [e]
     have : (celAt d b).s = (celAt d a).s := hc2
     rw [hca, hcb2, this]
 · rw [if_neg hc, fI_at]
   have := h.writeR hid hn hab hi hs (v := (fI d a).s) hs.is
   rcases this with h1 | ⟨h1, h2, h3, h4⟩
   · exact .inl h1
   · refine .inr ⟨h1, h2, ?_, h4⟩
     rw [h3, hca]
     rfl
def Both (d : Dk) (i : Nat) (S : Sec) : Prop := celAt d (2 * i) = ⟨S, false, []⟩ ∧ celAt d (2 * i + 1) = ⟨S, false, []⟩
theorem open1_good {i a b : Nat} (hsl : slotR d 0 i = (fI d a, fI d b, 0)) (hga : (fI d a).good = true) : C22.open1 d 0 i = ((C22.healR d (fI d a) (fI d b)).1, false, (C22.healR d (fI d a) (fI d b)).2) := by
 unfold C22.open1
 rw [hsl]
 simp only
 rw [if_neg (by simp), if_pos hga]
theorem both_of {i a b : Nat} (hab : Pair2 i a b) {g n : Sec} (hs : Safe g n (celAt d a)) {r : Dk} (h3 : celAt r b = celAt d a) (h5 : celAt r a = celAt d a) : Both r i (celAt d a).s := by
 have hca : celAt d a = ⟨(celAt d a).s, false, []⟩ := by
  rcases hs.eq with e | e <;> rw [e]
 rcases hab with ⟨rfl, rfl⟩ | ⟨rfl, rfl⟩
 · exact ⟨h5.trans hca, h3.trans hca⟩
 · exact ⟨h3.trans hca, h5.trans hca⟩
def Opd (G N : Nat → Sec) (d : Dk) (i : Nat) (o : Dk × Bool × Int) : Prop :=
 (o.2.1 = false ∧ o.2.2 = 12 ∧ Dd G N d o.1 2) ∨
 (o.2.1 = false ∧ o.2.2 = 0 ∧ Go' G N d o.1 2 ∧ (∃ B, (B = G i ∨ B = N i) ∧ Both o.1 i B) ∧ ∀ j, j ≠ i → celAt o.1 (2 * j) = celAt d (2 * j) ∧ celAt o.1 (2 * j + 1) = celAt d (2 * j + 1))
theorem Pw.open1 (h : Pw G N d) (hid : Idle d) (hn : d.steps ≤ 900000000) {i : Nat} (hi : i < 3) : Opd G N d i (open1 d 0 i) := by
 obtain ⟨a, b, hab, hsl, hs, hg⟩ := h.slot hid hi
 rw [open1_good hsl hg]
 have hh := h.healR hid hn hab hi hs
 generalize C22.healR d (fI d a) (fI d b) = r at hh ⊢
 obtain ⟨r1, r2⟩ := r
 simp only at hh
 rcases hh with ⟨h1, h2⟩ | ⟨h1, h2, h3, h4⟩
 · exact .inl ⟨rfl, h1, h2⟩
 · have hne : a ≠ b := by unfold Pair2 at hab; omega
   refine .inr ⟨rfl, h1, h2, ⟨(celAt d a).s, hs.is, both_of hab hs h3 (h4 a hne)⟩, fun j hj => ?_⟩
   unfold Pair2 at hab
   exact ⟨h4 _ (by omega), h4 _ (by omega)⟩
theorem Go'.trans {d' d'' : Dk} {k k' : Int} (h : Go' G N d d' k) (h' : Go' G N d' d'' k') : Go' G N d d'' (k + k') := ⟨h'.pw, h'.idle, fun e => h'.aft (h.aft e), by have := h.st; have := h'.st; omega⟩
theorem Pw.openN (h : Pw G N d) (hid : Idle d) (hn : d.steps ≤ 800000000) : ∀ k : Nat, k ≤ 3 →
 ((openN d 0 k).2.2 = 12 ∧ Dd G N d (openN d 0 k).1 (2 * k)) ∨
 ((openN d 0 k).2.1 = [] ∧ (openN d 0 k).2.2 = 0 ∧ Go' G N d (openN d 0 k).1 (2 * k) ∧ ∀ i, i < k → ∃ B, (B = G i ∨ B = N i) ∧ Both (openN d 0 k).1 i B)
 | 0, _ => .inr ⟨rfl, rfl, ⟨h, hid, fun h => h, by simp [C22.openN]⟩, fun i hi => absurd hi (Nat.not_lt_zero i)⟩
 | k + 1, hk => by
   have ih := h.openN hid hn k (by omega)
   unfold C22.openN
   generalize C22.openN d 0 k = o at ih
   obtain ⟨d1, l1, e1⟩ := o
   simp only at ih ⊢
   rcases ih with ⟨rfl, hd⟩ | ⟨rfl, rfl, hg, hb⟩
   · rw [if_pos (by simp)]
     exact .inl ⟨rfl, hd.pw, hd.aft, hd.dead, by have := hd.st; simp only; omega⟩
   · rw [if_neg (by simp)]
     have hst := hg.st
     rcases hg.pw.open1 hg.idle (by omega) (i := k) (by omega) with ⟨a1, a2, a3⟩ | ⟨a1, a2, a3, a4, a5⟩
     · refine .inl ⟨a2, a3.pw, fun e => a3.aft (hg.aft e), a3.dead, ?_⟩
       have := a3.st
       simp only
       omega
     · refine .inr ⟨?_, a2, ?_, fun i hi => ?_⟩
       · rw [if_neg (by rw [a1]; simp)]
       · have := hg.trans a3
         exact ⟨this.pw, this.idle, this.aft, by have := this.st; simp only; omega⟩
       · by_cases e : i = k
         · subst e; exact a4
         · obtain ⟨B, hB, hB2⟩ := hb i (by omega)
           refine ⟨B, hB, ?_⟩
           unfold Both
           rw [(a5 i e).1, (a5 i e).2]
           exact hB2
theorem Pw.openR (h : Pw G N d) (hid : Idle d) (hn : d.steps ≤ 800000000) :
 ((openR d 0 3).2.2 = 12 ∧ Dd G N d (openR d 0 3).1 6) ∨
 ((openR d 0 3).2.1 = [] ∧ (openR d 0 3).2.2 = 0 ∧ Go' G N d (openR d 0 3).1 6 ∧ ∀ i, i < 3 → ∃ B, (B = G i ∨ B = N i) ∧ Both (openR d 0 3).1 i B) := by
 have hl := h.len
 have hp : placeB d 0 3 = true := by unfold placeB; simp [hl]
 have ho := h.openN hid hn 3 (by omega)
 unfold C22.openR
 rw [if_neg (by rw [hp]; simp)]
 have e : ((3 : Int)).toNat = 3 := rfl
 rw [e]
 rcases ho with ⟨h1, h2⟩ | ⟨h1, h2, h3, h4⟩
 · rw [if_pos (by rw [h1]; simp)]
   exact .inl ⟨h1, h2⟩
 · rw [if_neg (by rw [h2]; simp)]
   exact .inr ⟨h1, h2, h3, h4⟩
theorem Pw.arm (h : Pw G N d) {n : Int} (hn : n ≤ 9223372036854775807) : Pw G N (arm d n) := ⟨arm_ok h.ok hn, h.len, h.two, h.ps⟩
theorem Idle.arm (h : Idle d) {n : Int} (hn : n ≤ 9223372036854775807) : Idle (arm d n) := ⟨arm_ok h.ok hn, h.live, h.shut⟩
end
end C22
/-
 Layer 22 (slots): the calls of the guard, as plain mathematics.
 Conditions: of each law as it says.
-/
namespace C22
def updN {α : Type} (f : Nat → α) (i : Nat) (x : α) : Nat → α := fun j => if j = i then x else f j
def cellQ (S : Sec) (bad : Bool) : Cel := if bad then ⟨z0, true, []⟩ else ⟨S, false, []⟩
def mkF (q : Nat → Nat) (hv : Nat → Str) : Nat → Sec := fun i => mk1 (q i) (hv i)
structure Qui (d : Dk) (q : Nat → Nat) (hv : Nat → Str) (rt : Nat → Int) (n : Nat) : Prop where
 idle : Idle d
 len : d.cs.length = 6
 few : ∀ i, i < 3 → 1 ≤ q i ∧ q i ≤ n ∧ (hv i).length ≤ 55 ∧ -1 ≤ rt i ∧ rt i ≤ 1
 c0 : ∀ i, i < 3 → celAt d (2 * i) = cellQ (mkF q hv i) (decide (rt i = 0))
 c1 : ∀ i, i < 3 → celAt d (2 * i + 1) = cellQ (mkF q hv i) (decide (rt i = 1))
theorem two_self {S : Sec} (h : goodS S = true) : Two S S := ⟨h, h, .inl rfl⟩
theorem cellQ_kind {S : Sec} (b : Bool) : CellS S S (cellQ S b) := by
 unfold cellQ
 split
 · exact ⟨.z, by simp⟩
 · exact ⟨.g, by simp⟩
section
variable {d : Dk} {q : Nat → Nat} {hv : Nat → Str} {rt : Nat → Int} {n : Nat}
theorem Qui.good (h : Qui d q hv rt n) (hn : n ≤ 1000000000) {i : Nat} (hi : i < 3) : goodS (mkF q hv i) = true := by
 obtain ⟨a, b, c, _⟩ := h.few i hi
 exact good_mk1 (by omega) (by omega) c
theorem Qui.pw (h : Qui d q hv rt n) (hn : n ≤ 1000000000) : Pw (mkF q hv) (mkF q hv) d := by
 refine ⟨h.idle.ok, h.len, fun i hi => two_self (h.good hn hi), fun i hi => ?_⟩
 rw [h.c0 i hi, h.c1 i hi]
 refine ⟨cellQ_kind _, cellQ_kind _, ?_⟩
 by_cases e : rt i = 0
 · have : ¬ rt i = 1 := by omega
   exact .inr (by simp only [this, decide_false]; exact ⟨rfl, rfl, .inl rfl⟩)
 · exact .inl (by simp only [e, decide_false]; exact ⟨rfl, rfl, .inl rfl⟩)
theorem Qui.get (h : Qui d q hv rt n) (hn : n ≤ 1000000000) {i : Nat} (hi : i < 3) : getR d 0 3 i = if hv i = [] then ([], 8) else (hv i, 0) := by
 obtain ⟨a, b, hab, hsl, hs, hg⟩ := (h.pw hn).slot h.idle hi
 obtain ⟨f1, f2, f3, _⟩ := h.few i hi
 have hsS : (celAt d a).s = mk1 (q i) (hv i) := by rcases hs.is with e | e <;> exact e
 unfold getR
 rw [hsl, if_neg (by omega), if_neg (by simp)]
 have hg2 : (fI d a).good = true := hg
 have hs2 : (fI d a).s = mk1 (q i) (hv i) := hsS
 simp only [hg2, hs2, len_mk1 _ f3, bytes_mk1 _ f3]
 rw [if_neg (by simp)]
 by_cases e : hv i = []
 · rw [if_pos e, if_pos (by rw [e]; rfl)]
 · rw [if_neg e, if_neg (fun hh => e (List.length_eq_zero_iff.1 hh))]
theorem Qui.arm (h : Qui d q hv rt n) {k : Int} (hk : k ≤ 9223372036854775807) : Qui (arm d k) q hv rt n := ⟨h.idle.arm hk, h.len, h.few, h.c0, h.c1⟩
theorem Qui.mono (h : Qui d q hv rt n) {m : Nat} (hm : n ≤ m) : Qui d q hv rt m := ⟨h.idle, h.len, fun i hi => by obtain ⟨a, b, c⟩ := h.few i hi; exact ⟨a, by omega, c⟩, h.c0, h.c1⟩
theorem Qui.rot (h : Qui d q hv rt n) {i k : Nat} (hi : i < 3) (hk : k < 2) (hr : rt i < 0 ∨ rt i = k) :
 (rot d (2 * i + k)).2 = 0 ∧ Qui (rot d (2 * i + k)).1 q hv (updN rt i k) n ∧ (rot d (2 * i + k)).1.steps = d.steps := by
 have hl := h.len
 have hlt : 2 * i + k < d.cs.length := by omega
 have e0 : (2 * (i : Int) + (k : Int)) = ((2 * i + k : Nat) : Int) := by omega
 rw [e0]
 obtain ⟨o1, o2⟩ := rot_ok h.idle.ok ((2 * i + k : Nat) : Int)
 have e : C22.rot d ((2 * i + k : Nat) : Int) = ({ d with cs := d.cs.modify (2 * i + k) fun c => { c with s := z0, bad := true } }, 0) := by
  unfold C22.rot
  rw [if_neg (by rw [h.idle.chk hlt]; simp), Int.toNat_natCast]
 rw [e] at o1 o2 ⊢
 have hcs : ∀ j, celAt { d with cs := d.cs.modify (2 * i + k) fun c => { c with s := z0, bad := true } } j = if j = 2 * i + k then { celAt d (2 * i + k) with s := z0, bad := true } else celAt d j := fun j => celAt_mod (d := d) (f := fun c => { c with s := z0, bad := true }) rfl hlt j
 have hop : (celAt d (2 * i + k)).op = [] := by rw [celAt_get hlt]; exact h.idle.shut _ (List.getElem_mem _)
 have hz : ({ s := z0, bad := true, op := (celAt d (2 * i + k)).op } : Cel) = ⟨z0, true, []⟩ := by rw [hop]
 simp only [hz] at hcs
 refine ⟨rfl, ⟨⟨o1, h.idle.live, fun c hc => ?_⟩, by simpa using hl, fun j hj => ?_, fun j hj => ?_, fun j hj => ?_⟩, rfl⟩
 · rcases mem_modify hc with hc | ⟨y, hy, rfl⟩
   · exact h.idle.shut c hc
   · exact h.idle.shut y hy
 · obtain ⟨a, b, c, x, y⟩ := h.few j hj
   refine ⟨a, b, c, ?_⟩
   unfold updN
   split <;> omega
 · rw [hcs]
   by_cases e1 : j = i
   · subst e1
     rcases (by omega : k = 0 ∨ k = 1) with rfl | rfl
     · rw [if_pos (by omega)]; simp [updN, cellQ]
     · rw [if_neg (by omega), h.c0 j hj]
       have : ¬ rt j = 0 := by omega
       simp [updN, this]
   · rw [if_neg (by omega), h.c0 j hj]
     simp [updN, e1]
 · rw [hcs]
   by_cases e1 : j = i
   · subst e1
     rcases (by omega : k = 0 ∨ k = 1) with rfl | rfl
     · rw [if_neg (by omega), h.c1 j hj]
       have : ¬ rt j = 1 := by omega
       simp [updN, this]
     · rw [if_pos (by omega)]; simp [updN, cellQ]
   · rw [if_neg (by omega), h.c1 j hj]
     simp [updN, e1]
end
theorem CellS.widen {G N : Sec} {c : Cel} (h : CellS G G c) : CellS G N c := ⟨⟨by rcases h.cls.1 with e | e | e; exact .inl e; exact .inl e; exact .inr (.inr e), by rcases h.cls.2 with e | e | e; exact .inl e; exact .inl e; exact .inr (.inr e)⟩, fun s hs => .inl (by rcases h.op s hs with e | e <;> exact e)⟩
theorem Safe.widen {G N : Sec} {c : Cel} (h : Safe G G c) : Safe G N c := ⟨h.op, h.bad, .inl (by rcases h.is with e | e <;> exact e)⟩
theorem Pw.widen {G : Nat → Sec} {d : Dk} (h : Pw G G d) {i : Nat} {N : Sec} (ht : i < 3 → Two (G i) N) : Pw G (updN G i N) d := by
 refine ⟨h.ok, h.len, fun j hj => ?_, fun j hj => ?_⟩
 · unfold updN
   by_cases e : j = i
   · subst e; rw [if_pos rfl]; exact ht hj
   · rw [if_neg e]; exact h.two j hj
 · unfold updN
   obtain ⟨a, b, c⟩ := h.ps j hj
   by_cases e : j = i
   · rw [if_pos e]
     exact ⟨a.widen, b.widen, c.imp Safe.widen Safe.widen⟩
   · rw [if_neg e]; exact ⟨a, b, c⟩
section
variable {d : Dk} {q : Nat → Nat} {hv : Nat → Str} {rt : Nat → Int} {n : Nat}
def Chd (d : Dk) (q : Nat → Nat) (hv : Nat → Str) (rt : Nat → Int) (n i : Nat) (b : Str) (r : Dk × Int) : Prop :=
 (r.2 = 12 ∧ r.1.dead = true ∧ Pw (mkF q hv) (updN (mkF q hv) i (mk1 (q i + 1 : Nat) b)) r.1 ∧ r.1.steps ≤ d.steps + 6) ∨
 (r.2 = 0 ∧ Qui r.1 (updN q i (q i + 1)) (updN hv i b) (updN rt i (-1)) (n + 1) ∧ r.1.steps ≤ d.steps + 6)
theorem Qui.change (h : Qui d q hv rt n) (hn : n ≤ 1000000000) (hst : d.steps ≤ 800000000) {i : Nat} (hi : i < 3) {b : Str} (hb : b.length ≤ 55) : Chd d q hv rt n i b (changeR d 0 i b) := by
 have hpw := h.pw hn
 obtain ⟨a, c, hab, hsl, hs, hg⟩ := hpw.slot h.idle hi
 obtain ⟨f1, f2, f3, _⟩ := h.few i hi
 have hsS : (celAt d a).s = mk1 (q i) (hv i) := by rcases hs.is with e | e <;> exact e
 have hca : celAt d a = ⟨mkF q hv i, false, []⟩ := by rcases hs.eq with e | e <;> exact e
 have hN : goodS (mk1 (q i + 1 : Nat) b) = true := good_mk1 (by omega) (by omega) hb
 have htwo : Two (mkF q hv i) (mk1 (q i + 1 : Nat) b) := ⟨h.good hn hi, hN, .inr (by
  have h1 := num_mk1 (q := (q i : Int)) (by omega) (by omega) (hv i)
  have h2 := num_mk1 (q := ((q i + 1 : Nat) : Int)) (by omega) (by omega) b
  unfold mkF
  omega)⟩
 have hnx : nextQ (fI d a) = ((q i + 1 : Nat) : Int) := by
  have hg2 : (fI d a).good = true := hg
  have hs2 : (fI d a).s = mk1 (q i) (hv i) := hsS
  have h1 := num_mk1 (q := (q i : Int)) (by omega) (by omega) (hv i)
  unfold nextQ
  rw [if_pos hg2, hs2, h1]
  omega
 unfold C22.changeR
 rw [hsl, hnx]
 have hh := hpw.healR h.idle (by omega) hab hi hs
 generalize C22.healR d (fI d a) (fI d c) = r at hh ⊢
 obtain ⟨d1, e1⟩ := r
 simp only at hh ⊢
 rw [if_neg (by simp)]
 rcases hh with ⟨rfl, hd⟩ | ⟨rfl, hg1, hc1, hoth⟩
 · rw [if_pos (by simp)]
   exact .inl ⟨rfl, hd.dead, hd.pw.widen fun _ => htwo, by have := hd.st; simp only; omega⟩
 rw [if_neg (by simp)]
 have hboth : Both d1 i (mkF q hv i) := by
  have hne : a ≠ c := by unfold Pair2 at hab; omega
  have := both_of hab hs hc1 (hoth a hne)
  rw [hca] at this
  exact this
 have hpw1 := hg1.pw.widen (i := i) (N := mk1 (q i + 1 : Nat) b) fun _ => htwo
 have hst1 := hg1.st
 have hupd : updN (mkF q hv) i (mk1 (q i + 1 : Nat) b) i = mk1 (q i + 1 : Nat) b := by simp [updN]
 have hw := hpw1.writeR hg1.idle (by omega) (a := 2 * i) (b := 2 * i + 1) (i := i) (.inl ⟨rfl, rfl⟩) hi ⟨by rw [hboth.1], by rw [hboth.1], by rw [hboth.1]; exact .inl rfl⟩ (v := mk1 (q i + 1 : Nat) b) (.inr hupd.symm)
 have ea : (0 : Int) + 2 * (i : Int) + 1 = ((2 * i + 1 : Nat) : Int) := by omega
 have eb : (0 : Int) + 2 * (i : Int) = ((2 * i : Nat) : Int) := by omega
 unfold change2
 rw [ea, eb]
 generalize C22.writeR d1 ((2 * i + 1 : Nat) : Int) (mk1 (q i + 1 : Nat) b) = r at hw ⊢
 obtain ⟨d2, e2⟩ := r
 simp only at hw ⊢
 rcases hw with ⟨rfl, hd⟩ | ⟨rfl, hg2, hc2, hoth2⟩
 · rw [if_pos (by simp)]
   exact .inl ⟨rfl, hd.dead, hd.pw, by have := hd.st; simp only; omega⟩
 rw [if_neg (by simp)]
 have hst2 := hg2.st
 have hw := hg2.pw.writeR hg2.idle (by omega) (a := 2 * i + 1) (b := 2 * i) (i := i) (.inr ⟨rfl, rfl⟩) hi ⟨by rw [hc2], by rw [hc2], by rw [hc2]; exact .inr hupd.symm⟩ (v := mk1 (q i + 1 : Nat) b) (.inr hupd.symm)
 generalize C22.writeR d2 ((2 * i : Nat) : Int) (mk1 (q i + 1 : Nat) b) = r at hw ⊢
 obtain ⟨d3, e3⟩ := r
 simp only at hw ⊢
 rcases hw with ⟨rfl, hd⟩ | ⟨rfl, hg3, hc3, hoth3⟩
 · exact .inl ⟨rfl, hd.dead, hd.pw, by have := hd.st; simp only; omega⟩
 refine .inr ⟨rfl, ⟨hg3.idle, hg3.pw.len, fun j hj => ?_, fun j hj => ?_, fun j hj => ?_⟩, by have := hg3.st; simp only; omega⟩
 · unfold updN
   obtain ⟨x1, x2, x3, x4, x5⟩ := h.few j hj
   by_cases e : j = i
   · rw [if_pos e, if_pos e, if_pos e]
     exact ⟨by omega, by omega, hb, by omega, by omega⟩
   · rw [if_neg e, if_neg e, if_neg e]
     exact ⟨x1, by omega, x3, x4, x5⟩
 · by_cases e : j = i
   · subst e
     rw [hc3]
     simp [updN, cellQ, mkF]
   · unfold Pair2 at hab
     simp only
     rw [hoth3 _ (by omega), hoth2 _ (by omega), hoth _ (by omega), h.c0 j hj]
     simp [updN, mkF, e]
 · by_cases e : j = i
   · subst e
     simp only
     rw [hoth3 _ (by omega), hc2]
     simp [updN, cellQ, mkF]
   · unfold Pair2 at hab
     simp only
     rw [hoth3 _ (by omega), hoth2 _ (by omega), hoth _ (by omega), h.c1 j hj]
     simp [updN, mkF, e]
end
end C22
/-
 Layer 22 (slots): two disks that differ in the bytes of one copy alone, as plain mathematics.
 Conditions: of each law as it says.
-/
namespace C22
theorem Idle.writeR_eq {d : Dk} (h : Idle d) {a : Nat} (ha : a < d.cs.length) (v : Sec) : C22.writeR d a v =
 if d.after = 0 then ({ d with dead := true }, 12) else
 if d.after = 1 then (⟨d.cs.modify a fun c => { c with op := [v] }, d.steps + 1, 0, true⟩, 12) else
 (⟨d.cs.modify a fun _ => ⟨v, false, []⟩, d.steps + 2, if 1 < d.after then d.after - 2 else d.after, false⟩, 0) := by
 have haft := h.ok.aft
 have hmod : d.cs.modify a (fun c => { c with op := c.op ++ [v] }) = d.cs.modify a fun c => { c with op := [v] } := by
  apply List.ext_getElem
  · simp
  · intro i q1 q2
    rw [List.getElem_modify, List.getElem_modify]
    have q3 : i < d.cs.length := by simpa using q1
    split
    · rw [h.shut _ (List.getElem_mem q3)]; rfl
    · rfl
 have hsy : (d.cs.modify a fun c => { c with op := [v] }).map C22.syC = d.cs.modify a fun _ => ⟨v, false, []⟩ := by
  apply List.ext_getElem
  · simp
  · intro i q1 q2
    simp only [List.getElem_map, List.getElem_modify]
    have q3 : i < d.cs.length := by simpa using q2
    split
    · rfl
    · have := h.shut _ (List.getElem_mem q3)
      unfold C22.syC
      rw [this]; rfl
 by_cases h0 : d.after = 0
 · have e : stp d = ({ d with dead := true }, 12) := by unfold stp; rw [if_pos h0]
   have e2 : wr d a v = ({ d with dead := true }, 12) := by
    unfold wr
    rw [if_neg (by rw [h.chk ha]; simp), e, if_pos (by simp)]
   rw [if_pos h0]
   unfold C22.writeR
   rw [e2, if_pos (by simp)]
 · have e : stp d = ({ d with after := if 0 < d.after then d.after - 1 else d.after, steps := d.steps + 1 }, 0) := by unfold stp; rw [if_neg h0]
   have e2 : wr d a v = ({ d with after := if 0 < d.after then d.after - 1 else d.after, steps := d.steps + 1, cs := d.cs.modify a fun c => { c with op := [v] } }, 0) := by
    unfold wr
    rw [if_neg (by rw [h.chk ha]; simp), e, if_neg (by simp), Int.toNat_natCast]
    simp only [hmod]
   rw [if_neg h0]
   unfold C22.writeR
   rw [e2, if_neg (by simp)]
   obtain ⟨dx, hdx⟩ : ∃ dx : Dk, dx = { d with after := if 0 < d.after then d.after - 1 else d.after, steps := d.steps + 1, cs := d.cs.modify a fun c => { c with op := [v] } } := ⟨_, rfl⟩
   rw [← hdx]
   have x1 : dx.dead = false := by rw [hdx]; exact h.live
   have x2 : dx.cs = d.cs.modify a fun c => { c with op := [v] } := by rw [hdx]
   have x3 : dx.steps = d.steps + 1 := by rw [hdx]
   have x4 : dx.after = if 0 < d.after then d.after - 1 else d.after := by rw [hdx]
   by_cases h1 : d.after = 1
   · rw [if_pos h1, sy_dead x1 (by rw [x4, h1]; decide)]
     have x5 : dx.after = 0 := by rw [x4, h1]; decide
     rw [x2, x3, x5]
   · have h2 : dx.after ≠ 0 := by rw [x4]; split <;> omega
     rw [if_neg h1, sy_eq x1 h2, x1, x2, hsy, x3, x4]
     have h3 : (if 0 < (if 0 < d.after then d.after - 1 else d.after) then (if 0 < d.after then d.after - 1 else d.after) - 1 else (if 0 < d.after then d.after - 1 else d.after)) = if 1 < d.after then d.after - 2 else d.after := by
      clear hdx x1 x2 x3 x4 h2 e e2 hmod hsy
      by_cases g1 : 0 < d.after
      · rw [if_pos g1]
        by_cases g2 : 1 < d.after
        · rw [if_pos g2, if_pos (by omega)]; omega
        · omega
      · rw [if_neg g1, if_neg g1, if_neg (by omega)]
     have h4 : d.steps + 1 + 1 = d.steps + 2 := by omega
     rw [h3, h4]
theorem celAt_mk {d : Dk} {a : Nat} (f : Cel → Cel) (ha : a < d.cs.length) (k : Nat) (s af : Int) (x : Bool) : celAt ⟨d.cs.modify a f, s, af, x⟩ k = if k = a then f (celAt d a) else celAt d k := celAt_mod rfl ha k
structure WrF (d : Dk) (b : Nat) (v : Sec) (r : Dk × Int) : Prop where
 ok : Okd r.1
 len : r.1.cs.length = d.cs.length
 st : r.1.steps ≤ d.steps + 2
 frame : ∀ k, k ≠ b → celAt r.1 k = celAt d k
 out : (r.2 = 0 ∧ Idle r.1 ∧ celAt r.1 b = ⟨v, false, []⟩) ∨ (r.2 = 12 ∧ r.1.dead = true ∧ d.after ≠ -1 ∧ (celAt r.1 b = celAt d b ∨ celAt r.1 b = { celAt d b with op := [v] }))
 aft : d.after = -1 → r.1.after = -1
theorem Idle.wrF {d : Dk} (h : Idle d) (hn : d.steps ≤ 900000000) {b : Nat} (hb : b < d.cs.length) (v : Sec) : WrF d b v (C22.writeR d b v) := by
 obtain ⟨u1, u2, u3⟩ := writeR_up h.ok (by omega) (b : Int) v
 have e := h.writeR_eq hb v
 rw [e] at u1 u2 u3 ⊢
 by_cases h0 : d.after = 0
 · rw [if_pos h0] at u1 u2 u3 ⊢
   exact ⟨u1, u2, u3, fun _ _ => rfl, .inr ⟨rfl, rfl, by omega, .inl rfl⟩, fun e => by omega⟩
 rw [if_neg h0] at u1 u2 u3 ⊢
 by_cases h1 : d.after = 1
 · rw [if_pos h1] at u1 u2 u3 ⊢
   refine ⟨u1, u2, u3, fun k hk => ?_, .inr ⟨rfl, rfl, by omega, .inr ?_⟩, fun e => by omega⟩
   · rw [celAt_mod (d := d) (a := b) (f := fun c => { c with op := [v] }) rfl hb, if_neg hk]
   · rw [celAt_mod (d := d) (a := b) (f := fun c => { c with op := [v] }) rfl hb, if_pos rfl]
 rw [if_neg h1] at u1 u2 u3 ⊢
 refine ⟨u1, u2, u3, fun k hk => ?_, .inl ⟨rfl, ⟨u1, rfl, fun c hc => ?_⟩, ?_⟩, fun e => by simp only; rw [e]; decide⟩
 · rw [celAt_mod (d := d) (a := b) (f := fun _ => ⟨v, false, []⟩) rfl hb, if_neg hk]
 · rcases mem_modify hc with hc | ⟨_, _, rfl⟩
   · exact h.shut c hc
   · rfl
 · rw [celAt_mod (d := d) (a := b) (f := fun _ => ⟨v, false, []⟩) rfl hb, if_pos rfl]
structure Rl (q : Nat) (A B s t : Sec) : Prop where
 f1 : numH (fH s) ≠ q → fH s = fH t
 f2 : numH (fH s) = q → fH s = fH A ∧ fH t = fH B
 s1 : numH (sH s) ≠ q → sH s = sH t
 s2 : numH (sH s) = q → sH s = sH A ∧ sH t = sH B
structure Scr (q : Nat) (A B : Sec) : Prop where
 pos : 1 ≤ q
 a1 : numH (fH A) = q
 a2 : numH (sH A) = q
 b1 : numH (fH B) = q
 b2 : numH (sH B) = q
 ga : goodS A = true
 gb : goodS B = true
section
variable {q : Nat} {A B : Sec}
theorem Rl.self (s : Sec) (h0 : numAt s 0 ≠ q) (h1 : numAt s 32 ≠ q) : Rl q A B s s := by
 rw [num_fH] at h0
 rw [num_sH] at h1
 exact ⟨fun _ => rfl, fun h => absurd h h0, fun _ => rfl, fun h => absurd h h1⟩
theorem Rl.z (hq : 1 ≤ q) : Rl q A B z0 z0 := .self _ (by rw [num_z0]; omega) (by rw [num_z032]; omega)
theorem Rl.sec (h : Scr q A B) : Rl q A B A B := ⟨fun e => absurd h.a1 e, fun _ => ⟨rfl, rfl⟩, fun e => absurd h.a2 e, fun _ => ⟨rfl, rfl⟩⟩
theorem Rl.torn {x y x' y' : Sec} (h : Rl q A B x x') (h' : Rl q A B y y') : Rl q A B (torn x y) (torn x' y') :=
 ⟨by rw [torn_fH, torn_fH]; exact h'.f1, by rw [torn_fH, torn_fH]; exact h'.f2, by rw [torn_sH, torn_sH]; exact h.s1, by rw [torn_sH, torn_sH]; exact h.s2⟩
theorem Rl.nf (hs : Scr q A B) {s t : Sec} (h : Rl q A B s t) : numH (fH s) = numH (fH t) := by
 by_cases e : numH (fH s) = q
 · rw [e, (h.f2 e).2, hs.b1]
 · rw [h.f1 e]
theorem Rl.ns (hs : Scr q A B) {s t : Sec} (h : Rl q A B s t) : numH (sH s) = numH (sH t) := by
 by_cases e : numH (sH s) = q
 · rw [e, (h.s2 e).2, hs.b2]
 · rw [h.s1 e]
theorem Rl.num (hs : Scr q A B) {s t : Sec} (h : Rl q A B s t) : numAt s 0 = numAt t 0 := by rw [num_fH, num_fH, h.nf hs]
theorem Rl.good (hs : Scr q A B) {s t : Sec} (h : Rl q A B s t) : goodS s = goodS t := by
 have hn := h.num hs
 have h36 : decide (byteAt s 36 ≤ 55) = decide (byteAt t 36 ≤ 55) := by
  by_cases e : numH (sH s) = q
  · obtain ⟨e1, e2⟩ := h.s2 e
    have ga := (good_num hs.ga).2.2
    have gb := (good_num hs.gb).2.2
    rw [byte36_sH] at ga gb
    rw [byte36_sH s, byte36_sH t, e1, e2]
    simp only [ga, gb]
  · rw [byte36_sH, byte36_sH, h.s1 e]
 unfold goodS
 rw [hn, num_sH s, num_sH t, h.ns hs, h36]
theorem Rl.eq (hs : Scr q A B) {s t s' t' : Sec} (h : Rl q A B s t) (h' : Rl q A B s' t') : s = s' ↔ t = t' := by
 constructor
 · rintro rfl
   apply halves
   · by_cases e : numH (fH s) = q
     · rw [(h.f2 e).2, (h'.f2 e).2]
     · rw [← h.f1 e, ← h'.f1 e]
   · by_cases e : numH (sH s) = q
     · rw [(h.s2 e).2, (h'.s2 e).2]
     · rw [← h.s1 e, ← h'.s1 e]
 · rintro rfl
   have n1 := (h.nf hs).trans (h'.nf hs).symm
   have n2 := (h.ns hs).trans (h'.ns hs).symm
   apply halves
   · by_cases e : numH (fH s) = q
     · rw [(h.f2 e).1, (h'.f2 (n1 ▸ e)).1]
     · rw [h.f1 e, h'.f1 (n1 ▸ e)]
   · by_cases e : numH (sH s) = q
     · rw [(h.s2 e).1, (h'.s2 (n2 ▸ e)).1]
     · rw [h.s1 e, h'.s1 (n2 ▸ e)]
end
def Ra (sl q : Nat) (A B : Sec) (k : Nat) (s t : Sec) : Prop := if k / 2 = sl then Rl q A B s t else s = t
structure Rc (sl q : Nat) (A B : Sec) (k : Nat) (x y : Cel) : Prop where
 s : Ra sl q A B k x.s y.s
 bad : x.bad = y.bad
 op : (x.op = [] ∧ y.op = []) ∨ ∃ v w, x.op = [v] ∧ y.op = [w] ∧ Ra sl q A B k v w
structure RD (sl q : Nat) (A B : Sec) (d c : Dk) : Prop where
 steps : d.steps = c.steps
 aft : d.after = c.after
 dead : d.dead = c.dead
 l1 : d.cs.length = 6
 l2 : c.cs.length = 6
 cel : ∀ k, k < 6 → Rc sl q A B k (celAt d k) (celAt c k)
section
variable {sl q : Nat} {A B : Sec} {d c : Dk}
theorem Ra.good (hs : Scr q A B) {k : Nat} {s t : Sec} (h : Ra sl q A B k s t) : goodS s = goodS t := by
 unfold Ra at h
 split at h
 · exact h.good hs
 · rw [h]
theorem Ra.num (hs : Scr q A B) {k : Nat} {s t : Sec} (h : Ra sl q A B k s t) : numAt s 0 = numAt t 0 := by
 unfold Ra at h
 split at h
 · exact h.num hs
 · rw [h]
theorem Ra.eq (hs : Scr q A B) {k k' : Nat} (hk : k / 2 = k' / 2) {s t s' t' : Sec} (h : Ra sl q A B k s t) (h' : Ra sl q A B k' s' t') : s = s' ↔ t = t' := by
 unfold Ra at h h'
 rw [← hk] at h'
 by_cases e : k / 2 = sl
 · rw [if_pos e] at h h'; exact h.eq hs h'
 · rw [if_neg e] at h h'; rw [h, h']
theorem Ra.at {k k' : Nat} (hk : k / 2 = k' / 2) {s t : Sec} (h : Ra sl q A B k s t) : Ra sl q A B k' s t := by
 unfold Ra at h ⊢
 rwa [← hk]
theorem Ra.z (hs : Scr q A B) (k : Nat) : Ra sl q A B k z0 z0 := by
 unfold Ra
 split
 · exact .z hs.pos
 · rfl
theorem Ra.torn {k : Nat} {x y x' y' : Sec} (h : Ra sl q A B k x x') (h' : Ra sl q A B k y y') : Ra sl q A B k (torn x y) (torn x' y') := by
 unfold Ra at h h' ⊢
 split
 · rename_i e
   rw [if_pos e] at h h'
   exact h.torn h'
 · rename_i e
   rw [if_neg e] at h h'
   rw [h, h']
theorem RD.idle (h : RD sl q A B d c) (hd : Idle d) (hc : Okd c) : Idle c := by
 refine ⟨hc, by rw [← h.dead]; exact hd.live, fun x hx => ?_⟩
 obtain ⟨k, hk, rfl⟩ := List.getElem_of_mem hx
 have l1 := h.l1
 have l2 := h.l2
 have := (h.cel k (by omega)).op
 rw [celAt_get (by omega), celAt_get hk, hd.shut _ (List.getElem_mem _)] at this
 rcases this with ⟨_, h2⟩ | ⟨v, _, h2, _⟩
 · exact h2
 · cases h2
theorem RD.write (hs : Scr q A B) (h : RD sl q A B d c) (hd : Idle d) (hc : Idle c) {b : Nat} (hb : b < 6) {v w : Sec} (hv : Ra sl q A B b v w) :
 (writeR d b v).2 = (writeR c b w).2 ∧ RD sl q A B (writeR d b v).1 (writeR c b w).1 := by
 have l1 := h.l1
 have l2 := h.l2
 have b1 : b < d.cs.length := by omega
 have b2 : b < c.cs.length := by omega
 rw [hd.writeR_eq b1 v, hc.writeR_eq b2 w, ← h.aft, ← h.steps]
 by_cases h0 : d.after = 0
 · rw [if_pos h0, if_pos h0]
   exact ⟨rfl, rfl, rfl, rfl, l1, l2, h.cel⟩
 rw [if_neg h0, if_neg h0]
 by_cases h1 : d.after = 1
 · rw [if_pos h1, if_pos h1]
   refine ⟨rfl, rfl, rfl, rfl, by simpa using l1, by simpa using l2, fun k hk => ?_⟩
   rw [celAt_mk (d := d) _ b1, celAt_mk (d := c) _ b2]
   by_cases e : k = b
   · subst e
     rw [if_pos rfl, if_pos rfl]
     exact ⟨(h.cel k hk).s, (h.cel k hk).bad, .inr ⟨v, w, rfl, rfl, hv⟩⟩
   · rw [if_neg e, if_neg e]; exact h.cel k hk
 rw [if_neg h1, if_neg h1]
 refine ⟨rfl, rfl, rfl, rfl, by simpa using l1, by simpa using l2, fun k hk => ?_⟩
 rw [celAt_mk (d := d) _ b1, celAt_mk (d := c) _ b2]
 by_cases e : k = b
 · subst e
   rw [if_pos rfl, if_pos rfl]
   exact ⟨hv, rfl, .inl ⟨rfl, rfl⟩⟩
 · rw [if_neg e, if_neg e]; exact h.cel k hk
theorem RD.slot (hs : Scr q A B) (h : RD sl q A B d c) (hd : Idle d) (hc : Idle c) {i : Nat} (hi : i < 3) :
 ∃ a b, Pair2 i a b ∧ slotR d 0 i = (fI d a, fI d b, 0) ∧ slotR c 0 i = (fI c a, fI c b, 0) ∧ (goodS (celAt d a).s = false → goodS (celAt d b).s = false) := by
 have l1 := h.l1
 have l2 := h.l2
 rw [hd.slotR (by omega), hc.slotR (by omega), ← (h.cel (2 * i) (by omega)).s.good hs, ← (h.cel (2 * i + 1) (by omega)).s.good hs, ← (h.cel (2 * i) (by omega)).s.num hs, ← (h.cel (2 * i + 1) (by omega)).s.num hs]
 by_cases hx : goodS (celAt d (2 * i + 1)).s = true ∧ (goodS (celAt d (2 * i)).s = false ∨ numAt (celAt d (2 * i)).s 0 < numAt (celAt d (2 * i + 1)).s 0)
 · rw [if_pos hx, if_pos hx]
   exact ⟨_, _, .inr ⟨rfl, rfl⟩, rfl, rfl, fun e => by rw [hx.1] at e; cases e⟩
 · rw [if_neg hx, if_neg hx]
   refine ⟨_, _, .inl ⟨rfl, rfl⟩, rfl, rfl, fun e => ?_⟩
   cases e2 : goodS (celAt d (2 * i + 1)).s with
   | false => rfl
   | true => exact absurd ⟨e2, .inl e⟩ hx
theorem RD.heal (hs : Scr q A B) (h : RD sl q A B d c) (hd : Idle d) (hc : Idle c) {i a b : Nat} (hi : i < 3) (hab : Pair2 i a b) :
 (healR d (fI d a) (fI d b)).2 = (healR c (fI c a) (fI c b)).2 ∧ RD sl q A B (healR d (fI d a) (fI d b)).1 (healR c (fI c a) (fI c b)).1 := by
 unfold Pair2 at hab
 have ha := (h.cel a (by omega)).s
 have hb := (h.cel b (by omega)).s
 have g1 : (fI c a).good = (fI d a).good := (ha.good hs).symm
 have g2 : (fI c b).good = (fI d b).good := (hb.good hs).symm
 have g3 : (fI c b).s = (fI c a).s ↔ (fI d b).s = (fI d a).s := (hb.eq hs (by omega) ha).symm
 unfold healR
 rw [g1, g2]
 by_cases hx : (fI d a).good = false ∨ (fI d b).good = true ∧ (fI d b).s = (fI d a).s
 · rw [if_pos hx, if_pos (hx.imp id fun h => ⟨h.1, g3.2 h.2⟩)]
   exact ⟨rfl, h⟩
 · rw [if_neg hx, if_neg (fun hh => hx (hh.imp id fun h => ⟨h.1, g3.1 h.2⟩)), fI_at, fI_at]
   exact h.write hs hd hc (by omega) (ha.at (by omega))
theorem RD.crash (hs : Scr q A B) (h : RD sl q A B d c) (keep : List Int) : RD sl q A B (crash d keep) (crash c keep) := by
 have l1 := h.l1
 have l2 := h.l2
 refine ⟨rfl, rfl, rfl, (crash_len _ _).trans l1, (crash_len _ _).trans l2, fun k hk => ?_⟩
 have hop : ∀ i, i < 6 → ((celAt d i).op = [] ↔ (celAt c i).op = []) := fun i hi => by
  rcases (h.cel i hi).op with ⟨a, b⟩ | ⟨v, w, a, b, _⟩
  · exact ⟨fun _ => b, fun _ => a⟩
  · rw [a, b]; simp
 have hrank : ((d.cs.take k).filter fun c => decide (c.op ≠ [])).length = ((c.cs.take k).filter fun c => decide (c.op ≠ [])).length := by
  rw [← rank_take d k (by omega), ← rank_take c k (by omega)]
  unfold rankO
  congr 1
  apply List.filter_congr
  intro i hi
  have hi := List.mem_range.1 hi
  unfold isOpen
  rw [opAt_get (by omega), opAt_get (by omega), ← celAt_get (d := d) (by omega), ← celAt_get (d := c) (by omega)]
  have := hop i (by omega)
  simp only [ne_eq, decide_not, Bool.not_eq_eq_eq_not, Bool.not_not, decide_eq_decide]
  exact this
 have e1 : celAt (C22.crash d keep) k = if (celAt d k).op = [] then celAt d k else kept (celAt d k) (keepAt keep (0 + ((d.cs.take k).filter fun c => decide (c.op ≠ [])).length)) := by
  rw [celAt_get (d := d) (by omega)]
  unfold celAt C22.crash
  simp only
  rw [crashL_get (by omega)]
  rfl
 have e2 : celAt (C22.crash c keep) k = if (celAt c k).op = [] then celAt c k else kept (celAt c k) (keepAt keep (0 + ((c.cs.take k).filter fun c => decide (c.op ≠ [])).length)) := by
  rw [celAt_get (d := c) (by omega)]
  unfold celAt C22.crash
  simp only
  rw [crashL_get (by omega)]
  rfl
 rw [e1, e2, ← hrank]
 generalize keepAt keep (0 + ((d.cs.take k).filter fun c => decide (c.op ≠ [])).length) = x
 have hc := h.cel k hk
 rcases hc.op with ⟨a, b⟩ | ⟨v, w, a, b, hvw⟩
 · rw [if_pos a, if_pos b]; exact hc
 · rw [if_neg (by rw [a]; simp), if_neg (by rw [b]; simp)]
   unfold kept
   rw [a, b]
   simp only [List.length_cons, List.length_nil, Nat.zero_add, Nat.lt_irrefl, if_false, Nat.sub_self]
   by_cases x0 : remOf 1 x = 0
   · rw [if_pos x0, if_pos x0]; exact ⟨hc.s, hc.bad, .inl ⟨rfl, rfl⟩⟩
   rw [if_neg x0, if_neg x0]
   by_cases x1 : remOf 1 x ≤ ((1 : Nat) : Int)
   · rw [if_pos x1, if_pos x1]
     refine ⟨?_, rfl, .inl ⟨rfl, rfl⟩⟩
     simp only
     cases (remOf 1 x).toNat - 1 with
     | zero => exact hvw
     | succ n => exact Ra.z hs k
   rw [if_neg x1, if_neg x1]
   by_cases x2 : remOf 1 x = ((1 : Nat) : Int) + 1
   · rw [if_pos x2, if_pos x2]; exact ⟨Ra.z hs k, rfl, .inl ⟨rfl, rfl⟩⟩
   rw [if_neg x2, if_neg x2]
   exact ⟨hc.s.torn hvw, rfl, .inl ⟨rfl, rfl⟩⟩
end
end C22
