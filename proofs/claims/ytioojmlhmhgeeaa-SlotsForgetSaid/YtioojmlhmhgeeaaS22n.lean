/-
 Layer 22 (slots): calls on two disks that differ in the bytes of one copy alone, as plain mathematics.
 Conditions: of each law as it says.
-/
import Derived.Test.YtioojmlhmhgeeaaS22k
namespace C22
structure OpF (d : Dk) (i : Nat) (m : Int) (r : Dk × Int) : Prop where
 ok : Okd r.1
 len : r.1.cs.length = d.cs.length
 st : r.1.steps ≤ d.steps + m
 frame : ∀ k, k / 2 ≠ i → celAt r.1 k = celAt d k
 out : (r.2 = 0 ∧ Idle r.1) ∨ (r.2 = 12 ∧ r.1.dead = true ∧ d.after ≠ -1)
 aft : d.after = -1 → r.1.after = -1
def Wk (G N : Sec) (d : Dk) (i : Nat) : Prop := CellS G N (celAt d (2 * i)) ∧ CellS G N (celAt d (2 * i + 1))
theorem Wk.at {G N : Sec} {d : Dk} {i k : Nat} (h : Wk G N d i) (hk : k / 2 = i) : CellS G N (celAt d k) := by
 rcases (by omega : k = 2 * i ∨ k = 2 * i + 1) with rfl | rfl
 · exact h.1
 · exact h.2
theorem Wk.of {G N : Sec} {d : Dk} {i : Nat} (h : ∀ k, k / 2 = i → CellS G N (celAt d k)) : Wk G N d i := ⟨h _ (by omega), h _ (by omega)⟩
theorem kind_one {G N v : Sec} (hv : v = G ∨ v = N) : CellS G N ⟨v, false, []⟩ := (Safe.mk rfl rfl hv).kind
section
variable {d : Dk}
theorem WrF.opF {b : Nat} {v : Sec} {r : Dk × Int} (h : WrF d b v r) {i : Nat} (hb : b / 2 = i) : OpF d i 2 r :=
 ⟨h.ok, h.len, h.st, fun k hk => h.frame k (fun e => hk (by rw [e]; exact hb)), h.out.imp (fun h => ⟨h.1, h.2.1⟩) (fun h => ⟨h.1, h.2.1, h.2.2.1⟩), h.aft⟩
theorem WrF.wk {b : Nat} {v : Sec} {r : Dk × Int} (h : WrF d b v r) {i : Nat} {G N : Sec} (hw : Wk G N d i) (hv : v = G ∨ v = N) : Wk G N r.1 i := by
 refine .of fun k hk => ?_
 by_cases e : k = b
 · subst e
   rcases h.out with ⟨_, _, h2⟩ | ⟨_, _, _, h2 | h2⟩
   · rw [h2]; exact kind_one hv
   · rw [h2]; exact hw.at hk
   · rw [h2]
     exact ⟨(hw.at hk).cls, fun s hs => by
      obtain rfl : s = v := by simpa using hs
      exact hv⟩
 · rw [h.frame k e]; exact hw.at hk
theorem OpF.refl (h : Idle d) (i : Nat) : OpF d i 0 (d, 0) := ⟨h.ok, rfl, by simp, fun _ _ => rfl, .inl ⟨rfl, h⟩, fun e => e⟩
theorem OpF.mono {i : Nat} {m m' : Int} {r : Dk × Int} (h : OpF d i m r) (hm : m ≤ m') : OpF d i m' r := ⟨h.ok, h.len, by have := h.st; omega, h.frame, h.out, h.aft⟩
theorem OpF.trans {i : Nat} {m m' : Int} {r r' : Dk × Int} (h : OpF d i m r) (h' : OpF r.1 i m' r') : OpF d i (m + m') r' :=
 ⟨h'.ok, h'.len.trans h.len, by have := h.st; have := h'.st; omega, fun k hk => (h'.frame k hk).trans (h.frame k hk), h'.out.imp id (fun x => ⟨x.1, x.2.1, fun e => x.2.2 (h.aft e)⟩), fun e => h'.aft (h.aft e)⟩
theorem Idle.slot (h : Idle d) (hl : d.cs.length = 6) {i : Nat} (hi : i < 3) :
 ∃ a b, Pair2 i a b ∧ C22.slotR d 0 i = (fI d a, fI d b, 0) ∧ (goodS (celAt d a).s = false → goodS (celAt d b).s = false) := by
 rw [h.slotR (by omega)]
 by_cases hx : goodS (celAt d (2 * i + 1)).s = true ∧ (goodS (celAt d (2 * i)).s = false ∨ numAt (celAt d (2 * i)).s 0 < numAt (celAt d (2 * i + 1)).s 0)
 · rw [if_pos hx]
   exact ⟨_, _, .inr ⟨rfl, rfl⟩, rfl, fun e => by rw [hx.1] at e; cases e⟩
 · rw [if_neg hx]
   refine ⟨_, _, .inl ⟨rfl, rfl⟩, rfl, fun e => ?_⟩
   cases e2 : goodS (celAt d (2 * i + 1)).s with
   | false => rfl
   | true => exact absurd ⟨e2, .inl e⟩ hx
theorem good_cell (h : Idle d) {k : Nat} (hk : k < d.cs.length) (hg : goodS (celAt d k).s = true) : celAt d k = ⟨(celAt d k).s, false, []⟩ := by
 have m : celAt d k ∈ d.cs := by rw [celAt_get hk]; exact List.getElem_mem _
 have hop := h.shut _ m
 have hbad : (celAt d k).bad = false := by
  cases hb : (celAt d k).bad with
  | false => rfl
  | true => rw [h.ok.rot _ m hb, good_z0] at hg; cases hg
 generalize celAt d k = c at hop hbad
 obtain ⟨s, bad, op⟩ := c
 simp only at hop hbad
 rw [hop, hbad]
structure HlF (d : Dk) (i a : Nat) (r : Dk × Int) : Prop extends OpF d i 2 r where
 keep : celAt r.1 a = celAt d a
 wk : ∀ G N, Wk G N d i → (goodS (celAt d a).s = true → (celAt d a).s = G ∨ (celAt d a).s = N) → Wk G N r.1 i
 both : goodS (celAt d a).s = true → r.2 = 0 → Both r.1 i (celAt d a).s
theorem both_of' {i a b : Nat} (hab : Pair2 i a b) {S : Sec} (ha : celAt d a = ⟨S, false, []⟩) (hb : celAt d b = ⟨S, false, []⟩) : Both d i S := by
 rcases hab with ⟨rfl, rfl⟩ | ⟨rfl, rfl⟩
 · exact ⟨ha, hb⟩
 · exact ⟨hb, ha⟩
theorem Idle.healF (h : Idle d) (hl : d.cs.length = 6) (hn : d.steps ≤ 900000000) {i a b : Nat} (hi : i < 3) (hab : Pair2 i a b) : HlF d i a (healR d (fI d a) (fI d b)) := by
 have hlt : a < 6 ∧ b < 6 ∧ a ≠ b ∧ b / 2 = i := by unfold Pair2 at hab; omega
 unfold healR
 by_cases hx : (fI d a).good = false ∨ (fI d b).good = true ∧ (fI d b).s = (fI d a).s
 · rw [if_pos hx]
   refine ⟨(OpF.refl h i).mono (by omega), rfl, fun G N hw _ => hw, fun hg _ => ?_⟩
   rcases hx with hx | ⟨h1, h2⟩
   · have : goodS (celAt d a).s = false := hx
     rw [hg] at this; cases this
   · have e1 := good_cell h (by omega) hg
     have e2 := good_cell h (k := b) (by omega) h1
     have e3 : (celAt d b).s = (celAt d a).s := h2
     rw [e3] at e2
     exact both_of' hab e1 e2
 · rw [if_neg hx, fI_at]
   have hw := h.wrF hn (b := b) (by omega) (fI d a).s
   have hg : goodS (celAt d a).s = true := by
    cases e : goodS (celAt d a).s with
    | true => rfl
    | false => exact absurd (.inl e) hx
   refine ⟨hw.opF (by omega), hw.frame a (by omega), fun G N h1 h2 => hw.wk h1 (h2 hg), fun _ he => ?_⟩
   rcases hw.out with ⟨_, _, h2⟩ | ⟨h1, _⟩
   · have e1 := good_cell h (by omega) hg
     rw [← hw.frame a (by omega)] at e1
     have e3 : (celAt d a).s = (fI d a).s := rfl
     refine both_of' hab ?_ h2
     rw [hw.frame a (by omega)] at e1 ⊢
     exact e1
   · rw [h1] at he; cases he
structure ChF (d : Dk) (i : Nat) (N : Sec) (r : Dk × Int) : Prop extends OpF d i 6 r where
 wk : ∀ G, Wk G N d i → (∀ a, a / 2 = i → goodS (celAt d a).s = true → (celAt d a).s = G) → Wk G N r.1 i
 both : r.2 = 0 → Both r.1 i N
theorem Idle.changeF (h : Idle d) (hl : d.cs.length = 6) (hn : d.steps ≤ 800000000) {i a c : Nat} (hi : i < 3) (hab : Pair2 i a c) (hsl : C22.slotR d 0 i = (fI d a, fI d c, 0)) (b : Str) :
 ChF d i (mk1 (nextQ (fI d a)) b) (changeR d 0 i b) := by
 unfold changeR
 rw [hsl]
 have hh := h.healF hl (by omega) hi hab
 simp only
 rw [if_neg (by simp)]
 generalize C22.healR d (fI d a) (fI d c) = r1 at hh ⊢
 generalize mk1 (nextQ (fI d a)) b = N
 obtain ⟨d1, e1⟩ := r1
 simp only at hh ⊢
 have haa : a / 2 = i := by unfold Pair2 at hab; omega
 have hst1 := hh.st
 simp only at hst1
 rcases hh.out with ⟨he, hid1⟩ | ⟨he, hdead, haf⟩
 · simp only at he hid1
   subst he
   rw [if_neg (by simp)]
   have ea : (0 : Int) + 2 * (i : Int) + 1 = ((2 * i + 1 : Nat) : Int) := by omega
   have eb : (0 : Int) + 2 * (i : Int) = ((2 * i : Nat) : Int) := by omega
   have hl1 : d1.cs.length = 6 := hh.len.trans hl
   unfold change2
   rw [ea, eb]
   have hw := hid1.wrF (by omega) (b := 2 * i + 1) (by omega) N
   generalize C22.writeR d1 ((2 * i + 1 : Nat) : Int) N = r2 at hw ⊢
   obtain ⟨d2, e2⟩ := r2
   simp only at hw ⊢
   have hst2 := hw.st
   simp only at hst2
   rcases hw.out with ⟨he, hid2, hc2⟩ | ⟨he, hdead, haf⟩
   · simp only at he hid2 hc2
     subst he
     rw [if_neg (by simp)]
     have hl2 : d2.cs.length = 6 := hw.len.trans hl1
     have hw2 := hid2.wrF (by omega) (b := 2 * i) (by omega) N
     generalize C22.writeR d2 ((2 * i : Nat) : Int) N = r3 at hw2 ⊢
     refine ⟨((hh.toOpF.trans (hw.opF (by omega))).trans (hw2.opF (by omega))).mono (by omega), fun G hG hg => ?_, fun he3 => ?_⟩
     · exact hw2.wk (hw.wk (hh.wk G N hG fun h => .inl (hg a haa h)) (.inr rfl)) (.inr rfl)
     · rcases hw2.out with ⟨_, _, h3⟩ | ⟨h3, _⟩
       · exact ⟨h3, (hw2.frame _ (by omega)).trans hc2⟩
       · rw [h3] at he3; cases he3
   · simp only at he
     subst he
     rw [if_pos (by simp)]
     refine ⟨(hh.toOpF.trans (hw.opF (by omega))).mono (by omega), fun G hG hg => ?_, fun he3 => by cases he3⟩
     exact hw.wk (hh.wk G N hG fun h => .inl (hg a haa h)) (.inr rfl)
 · simp only at he
   subst he
   rw [if_pos (by simp)]
   exact ⟨hh.toOpF.mono (by omega), fun G hG hg => hh.wk G N hG fun h => .inl (hg a haa h), fun he3 => by cases he3⟩
end
section
variable {sl q : Nat} {A B : Sec} {d c : Dk}
theorem RD.change (hs : Scr q A B) (h : RD sl q A B d c) (hd : Idle d) (hc : Idle c) (hn : d.steps ≤ 800000000) {i : Nat} (hi : i < 3) {b b' : Str} (hN : ∀ a e, Pair2 i a e → slotR d 0 i = (fI d a, fI d e, 0) → Ra sl q A B (2 * i) (mk1 (nextQ (fI d a)) b) (mk1 (nextQ (fI c a)) b')) :
 (changeR d 0 i b).2 = (changeR c 0 i b').2 ∧ RD sl q A B (changeR d 0 i b).1 (changeR c 0 i b').1 := by
 obtain ⟨a, e, hab, s1, s2, _⟩ := h.slot hs hd hc hi
 have hh := hd.healF h.l1 (by omega) hi hab
 have hr := h.heal hs hd hc hi hab
 have hcn : c.steps ≤ 800000000 := by rw [← h.steps]; exact hn
 have hup := healR_up hc.ok (by omega) (fI c a) (fI c e)
 have hN := hN a e hab s1
 have z : ¬ ((0 : Int) ≠ 0) := by simp
 have w : (12 : Int) ≠ 0 := by decide
 unfold changeR
 rw [s1, s2]
 simp only
 rw [if_neg z, if_neg z]
 generalize healR d (fI d a) (fI d e) = r1 at hh hr ⊢
 generalize healR c (fI c a) (fI c e) = r2 at hr hup ⊢
 generalize mk1 (nextQ (fI d a)) b = N at hN ⊢
 generalize mk1 (nextQ (fI c a)) b' = N' at hN ⊢
 obtain ⟨d1, e1⟩ := r1
 obtain ⟨c1, e2⟩ := r2
 simp only at hh hr hup ⊢
 obtain ⟨rfl, hrd1⟩ := hr
 have hst1 := hh.st
 simp only at hst1
 rcases hh.out with ⟨he, hid1⟩ | ⟨he, _⟩
 · simp only at he hid1
   subst he
   rw [if_neg z, if_neg z]
   have hic1 := hrd1.idle hid1 hup.1
   have ea : (0 : Int) + 2 * (i : Int) + 1 = ((2 * i + 1 : Nat) : Int) := by omega
   have eb : (0 : Int) + 2 * (i : Int) = ((2 * i : Nat) : Int) := by omega
   unfold change2
   rw [ea, eb]
   have hl1 : d1.cs.length = 6 := hrd1.l1
   have hw := hid1.wrF (by omega) (b := 2 * i + 1) (by omega) N
   have hr2 := hrd1.write hs hid1 hic1 (b := 2 * i + 1) (by omega) (hN.at (by omega))
   have hst1c : c1.steps ≤ 900000000 := by rw [← hrd1.steps]; omega
   have hup2 := writeR_up hic1.ok (by omega) ((2 * i + 1 : Nat) : Int) N'
   generalize writeR d1 ((2 * i + 1 : Nat) : Int) N = r1 at hw hr2 ⊢
   generalize writeR c1 ((2 * i + 1 : Nat) : Int) N' = r2 at hr2 hup2 ⊢
   obtain ⟨d2, e1⟩ := r1
   obtain ⟨c2, e2⟩ := r2
   simp only at hw hr2 hup2 ⊢
   obtain ⟨rfl, hrd2⟩ := hr2
   rcases hw.out with ⟨he, hid2, _⟩ | ⟨he, _⟩
   · simp only at he hid2
     subst he
     rw [if_neg z, if_neg z]
     exact hrd2.write hs hid2 (hrd2.idle hid2 hup2.1) (by omega) hN
   · simp only at he
     subst he
     rw [if_pos w, if_pos w]
     exact ⟨rfl, hrd2⟩
 · simp only at he
   subst he
   rw [if_pos w, if_pos w]
   exact ⟨rfl, hrd1⟩
theorem dk_eq {d c : Dk} (hs : d.steps = c.steps) (ha : d.after = c.after) (hd : d.dead = c.dead) (l1 : d.cs.length = 6) (l2 : c.cs.length = 6) (h : ∀ k, k < 6 → celAt d k = celAt c k) : d = c := by
 have hcs : d.cs = c.cs := by
  apply List.ext_getElem (by omega)
  intro k h1 h2
  have := h k (by omega)
  rwa [celAt_get h1, celAt_get h2] at this
 obtain ⟨a1, a2, a3, a4⟩ := d
 obtain ⟨b1, b2, b3, b4⟩ := c
 simp only at hs ha hd hcs
 rw [hs, ha, hd, hcs]
theorem Rc.same {k : Nat} (hk : k / 2 ≠ sl) {x y : Cel} (h : Rc sl q A B k x y) : x = y := by
 have hr : ∀ s t, Ra sl q A B k s t → s = t := fun s t h => by unfold Ra at h; rwa [if_neg hk] at h
 obtain ⟨h1, h2, h3⟩ := h
 obtain ⟨s, b, o⟩ := x
 obtain ⟨s', b', o'⟩ := y
 simp only at h1 h2 h3
 obtain rfl := hr _ _ h1
 subst h2
 rcases h3 with ⟨rfl, rfl⟩ | ⟨v, w, rfl, rfl, h⟩
 · rfl
 · rw [hr _ _ h]
theorem RD.same (h : RD sl q A B d c) (h0 : celAt d (2 * sl) = celAt c (2 * sl)) (h1 : celAt d (2 * sl + 1) = celAt c (2 * sl + 1)) : d = c := by
 refine dk_eq h.steps h.aft h.dead h.l1 h.l2 fun k hk => ?_
 by_cases e : k / 2 = sl
 · rcases (by omega : k = 2 * sl ∨ k = 2 * sl + 1) with rfl | rfl
   · exact h0
   · exact h1
 · exact (h.cel k hk).same e
end
end C22
/-
 Layer 22 (slots): slots are opened on a disk at rest, and on two disks, as plain mathematics.
 Conditions: of each law as it says.
-/
namespace C22
def M1 : Sec := mk1 1 []
structure FmF (d : Dk) (i : Nat) (r : Dk × Int) : Prop where
 e : r.2 = 0
 st : r.1.steps = d.steps + 3
 aft : r.1.after = -1
 len : r.1.cs.length = 6
 idle : Idle r.1
 cel : ∀ k, celAt r.1 k = if k / 2 = i then ⟨M1, false, []⟩ else celAt d k
theorem wr_free {d : Dk} {i : Int} (hc : chk d i = 0) (ha : d.after = -1) (s : Sec) : wr d i s = ({ d with steps := d.steps + 1, cs := d.cs.modify i.toNat fun c => { c with op := c.op ++ [s] } }, 0) := by
 unfold wr
 rw [if_neg (by rw [hc]; simp), stp_live ha, if_neg (by simp)]
section
variable {d : Dk}
theorem Idle.fmtF (h : Idle d) (ha : d.after = -1) (hl : d.cs.length = 6) (hn : d.steps ≤ 800000000) {i : Nat} (hi : i < 3) : FmF d i (fmtR d (0 + 2 * (i : Int)) 1) := by
 have hup := fmtR_up h.ok (0 + 2 * (i : Int)) 1 (by omega)
 have hp : placeB d (0 + 2 * (i : Int)) 1 = true := by unfold placeB; simp [hl]; omega
 have e1 : wr d (0 + 2 * (i : Int)) M1 = ({ d with steps := d.steps + 1, cs := d.cs.modify (2 * i) fun c => { c with op := c.op ++ [M1] } }, 0) := by
  rw [wr_free (i := 0 + 2 * (i : Int)) (by
   have := h.chk (a := 2 * i) (by omega)
   rwa [show ((2 * i : Nat) : Int) = 0 + 2 * (i : Int) by omega] at this) ha, show (0 + 2 * (i : Int)).toNat = 2 * i by omega]
 obtain ⟨d1, hd1⟩ : ∃ d1 : Dk, d1 = { d with steps := d.steps + 1, cs := d.cs.modify (2 * i) fun c => { c with op := c.op ++ [M1] } } := ⟨_, rfl⟩
 rw [← hd1] at e1
 have a1 : d1.after = -1 := by rw [hd1]; exact ha
 have b1 : d1.dead = false := by rw [hd1]; exact h.live
 have l1 : d1.cs.length = 6 := by rw [hd1]; simpa using hl
 have s1 : d1.steps = d.steps + 1 := by rw [hd1]
 have c1 : ∀ k, celAt d1 k = if k = 2 * i then { celAt d (2 * i) with op := (celAt d (2 * i)).op ++ [M1] } else celAt d k := fun k => by
  rw [hd1]; exact celAt_mk _ (by omega) k _ _ _
 have e2 : wr d1 (0 + 2 * (i : Int) + 1) M1 = ({ d1 with steps := d1.steps + 1, cs := d1.cs.modify (2 * i + 1) fun c => { c with op := c.op ++ [M1] } }, 0) := by
  rw [wr_free (i := 0 + 2 * (i : Int) + 1) (by unfold C22.chk; rw [if_neg (by rw [b1]; simp), if_neg (by omega)]) a1, show (0 + 2 * (i : Int) + 1).toNat = 2 * i + 1 by omega]
 obtain ⟨d2, hd2⟩ : ∃ d2 : Dk, d2 = { d1 with steps := d1.steps + 1, cs := d1.cs.modify (2 * i + 1) fun c => { c with op := c.op ++ [M1] } } := ⟨_, rfl⟩
 rw [← hd2] at e2
 have a2 : d2.after = -1 := by rw [hd2]; exact a1
 have b2 : d2.dead = false := by rw [hd2]; exact b1
 have l2 : d2.cs.length = 6 := by rw [hd2]; simpa using l1
 have s2 : d2.steps = d1.steps + 1 := by rw [hd2]
 have c2 : ∀ k, celAt d2 k = if k = 2 * i + 1 then { celAt d1 (2 * i + 1) with op := (celAt d1 (2 * i + 1)).op ++ [M1] } else celAt d1 k := fun k => by
  rw [hd2]; exact celAt_mk _ (by omega) k _ _ _
 have e3 := sy_eq b2 (by omega)
 have hop : ∀ k, (celAt d k).op = [] := fun k => by
  by_cases hk : k < d.cs.length
  · rw [celAt_get hk]; exact h.shut _ (List.getElem_mem _)
  · unfold celAt; rw [List.getElem?_eq_none (by omega)]; rfl
 have hf : fmtR d (0 + 2 * (i : Int)) 1 = sy d2 := by
  have hL : fmtL d (0 + 2 * (i : Int)) 2 = (d2, 0) := by
   have h0 : fmtL d (0 + 2 * (i : Int)) 1 = (d1, 0) := by
    unfold fmtL
    have : fmtL d (0 + 2 * (i : Int)) 0 = (d, 0) := rfl
    rw [this, if_neg (by simp)]
    simp only
    have e0 : 0 + 2 * (i : Int) + ((0 : Nat) : Int) = 0 + 2 * (i : Int) := by omega
    rw [e0]
    exact e1
   unfold fmtL
   rw [h0, if_neg (by simp)]
   exact e2
  unfold fmtR
  rw [if_neg (by rw [hp]; simp)]
  have : 2 * (1 : Int).toNat = 2 := rfl
  rw [this, hL, if_neg (by simp)]
 have haf : (if 0 < d2.after then d2.after - 1 else d2.after) = -1 := by rw [if_neg (by omega), a2]
 rw [haf] at e3
 rw [hf] at hup ⊢
 have hcel : ∀ k, celAt (sy d2).1 k = if k / 2 = i then ⟨M1, false, []⟩ else celAt d k := fun k => by
  have : celAt (sy d2).1 k = C22.syC (celAt d2 k) := by
   rw [e3]
   unfold celAt
   simp only [List.getElem?_map]
   cases d2.cs[k]? with
   | none => rfl
   | some c => rfl
  rw [this, c2, c1, c1]
  by_cases k1 : k = 2 * i + 1
  · rw [if_pos k1, if_neg (by omega), if_pos (by omega), hop]
    rfl
  · rw [if_neg k1]
    by_cases k0 : k = 2 * i
    · rw [if_pos k0, if_pos (by omega), hop]; rfl
    · rw [if_neg k0, if_neg (by omega)]
      unfold C22.syC
      rw [hop]; rfl
 have hlen : (sy d2).1.cs.length = 6 := by rw [sy_len]; exact l2
 refine ⟨by rw [e3], by rw [e3]; simp only; omega, by rw [e3], hlen, ⟨hup.1, by rw [e3]; exact b2, fun x hx => ?_⟩, hcel⟩
 obtain ⟨k, hk, rfl⟩ := List.getElem_of_mem hx
 rw [← celAt_get hk, hcel]
 split
 · rfl
 · exact hop k
structure O1F (d : Dk) (i : Nat) (r : Dk × Bool × Int) : Prop where
 e : r.2.2 = 0
 idle : Idle r.1
 aft : r.1.after = -1
 len : r.1.cs.length = 6
 st : r.1.steps ≤ d.steps + 3
 frame : ∀ k, k / 2 ≠ i → celAt r.1 k = celAt d k
 both : ∃ S, goodS S = true ∧ Both r.1 i S ∧ (S = M1 ∨ ∃ a, a / 2 = i ∧ S = (celAt d a).s)
theorem Idle.open1F (h : Idle d) (ha : d.after = -1) (hl : d.cs.length = 6) (hn : d.steps ≤ 800000000) {i : Nat} (hi : i < 3) : O1F d i (open1 d 0 i) := by
 obtain ⟨a, b, hab, hsl, hbad⟩ := h.slot hl hi
 cases hg : goodS (celAt d a).s with
 | true =>
  rw [open1_good hsl hg]
  have hh := h.healF hl (by omega) hi hab
  generalize healR d (fI d a) (fI d b) = r at hh ⊢
  obtain ⟨d1, e1⟩ := r
  have hst := hh.st
  simp only at hst
  rcases hh.out with ⟨he, hid⟩ | ⟨_, _, h3⟩
  · simp only at he hid
    refine ⟨he, hid, hh.aft ha, hh.len.trans hl, by simp only; omega, hh.frame, _, hg, hh.both hg he, .inr ⟨a, ?_, rfl⟩⟩
    unfold Pair2 at hab; omega
  · exact absurd ha h3
 | false =>
  have e : C22.open1 d 0 i = ((fmtR d (0 + 2 * (i : Int)) 1).1, true, (fmtR d (0 + 2 * (i : Int)) 1).2) := by
   unfold C22.open1
   rw [hsl]
   simp only
   rw [if_neg (by simp), if_neg (by
    have : (fI d a).good = false := hg
    rw [this]; simp)]
  rw [e]
  have hf := h.fmtF ha hl hn hi
  generalize fmtR d (0 + 2 * (i : Int)) 1 = r at hf ⊢
  have hst := hf.st
  refine ⟨hf.e, hf.idle, hf.aft, hf.len, by simp only; omega, fun k hk => ?_, M1, good_one, ⟨?_, ?_⟩, .inl rfl⟩
  · simp only; rw [hf.cel, if_neg hk]
  · simp only; rw [hf.cel, if_pos (by omega)]
  · simp only; rw [hf.cel, if_pos (by omega)]
structure ONF (d : Dk) (k : Nat) (r : Dk × List Int × Int) : Prop where
 e : r.2.2 = 0
 idle : Idle r.1
 aft : r.1.after = -1
 len : r.1.cs.length = 6
 st : r.1.steps ≤ d.steps + 3 * k
 frame : ∀ j, k ≤ j / 2 → celAt r.1 j = celAt d j
 both : ∀ i, i < k → ∃ S, goodS S = true ∧ Both r.1 i S ∧ (S = M1 ∨ ∃ a, a / 2 = i ∧ S = (celAt d a).s)
theorem Idle.openNF (h : Idle d) (ha : d.after = -1) (hl : d.cs.length = 6) (hn : d.steps ≤ 700000000) : ∀ k : Nat, k ≤ 3 → ONF d k (openN d 0 k)
 | 0, _ => ⟨rfl, h, ha, hl, by simp [C22.openN], fun _ _ => rfl, fun i hi => absurd hi (Nat.not_lt_zero i)⟩
 | k + 1, hk => by
   have ih := h.openNF ha hl hn k (by omega)
   unfold C22.openN
   generalize C22.openN d 0 k = o at ih
   obtain ⟨d1, l1, e1⟩ := o
   have he := ih.e
   simp only at he
   subst he
   simp only
   rw [if_neg (by simp)]
   have hst := ih.st
   simp only at hst
   have h1 := ih.idle.open1F ih.aft ih.len (by simp only; omega) (i := k) (by omega)
   simp only at h1
   have hst1 := h1.st
   refine ⟨h1.e, h1.idle, h1.aft, h1.len, by simp only; omega, fun j hj => ?_, fun i hi => ?_⟩
   · simp only
     rw [h1.frame j (by omega), ← ih.frame j (by omega)]
   · by_cases e : i = k
     · subst e
       obtain ⟨S, g, b, o⟩ := h1.both
       refine ⟨S, g, b, o.imp id ?_⟩
       rintro ⟨a, ha, rfl⟩
       exact ⟨a, ha, by rw [← ih.frame a (by omega)]⟩
     · obtain ⟨S, g, b, o⟩ := ih.both i (by omega)
       refine ⟨S, g, ⟨?_, ?_⟩, o⟩
       · simp only; rw [h1.frame _ (by omega)]; exact b.1
       · simp only; rw [h1.frame _ (by omega)]; exact b.2
theorem Idle.openRF (h : Idle d) (ha : d.after = -1) (hl : d.cs.length = 6) (hn : d.steps ≤ 700000000) : openR d 0 3 = openN d 0 3 ∧ ONF d 3 (openN d 0 3) := by
 have hp : placeB d 0 3 = true := by unfold placeB; simp [hl]
 have ho := h.openNF ha hl hn 3 (by omega)
 refine ⟨?_, ho⟩
 unfold C22.openR
 rw [if_neg (by rw [hp]; simp)]
 have e : ((3 : Int)).toNat = 3 := rfl
 rw [e, if_neg (by rw [ho.e]; simp)]
end
section
variable {sl q : Nat} {A B : Sec} {d c : Dk}
theorem RD.open1 (hs : Scr q A B) (h : RD sl q A B d c) (hd : Idle d) (hc : Idle c) (ha : d.after = -1) (hn : d.steps ≤ 800000000) {i : Nat} (hi : i < 3) :
 RD sl q A B (open1 d 0 i).1 (open1 c 0 i).1 ∨ (open1 d 0 i).1 = (open1 c 0 i).1 := by
 obtain ⟨a, b, hab, s1, s2, hbad⟩ := h.slot hs hd hc hi
 have hga := (h.cel a (by unfold Pair2 at hab; omega)).s.good hs
 cases hg : goodS (celAt d a).s with
 | true =>
  rw [open1_good s1 hg, open1_good s2 (by rw [hg] at hga; exact hga.symm)]
  have hr := (h.heal hs hd hc hi hab).2
  obtain ⟨r1, hr1⟩ : ∃ r, r = healR d (fI d a) (fI d b) := ⟨_, rfl⟩
  obtain ⟨r2, hr2⟩ : ∃ r, r = healR c (fI c a) (fI c b) := ⟨_, rfl⟩
  rw [← hr1, ← hr2] at hr ⊢
  exact .inl hr
 | false =>
  have e1 : C22.open1 d 0 i = ((fmtR d (0 + 2 * (i : Int)) 1).1, true, (fmtR d (0 + 2 * (i : Int)) 1).2) := by
   unfold C22.open1
   rw [s1]
   simp only
   rw [if_neg (by simp), if_neg (by
    have : (fI d a).good = false := hg
    rw [this]; simp)]
  have e2 : C22.open1 c 0 i = ((fmtR c (0 + 2 * (i : Int)) 1).1, true, (fmtR c (0 + 2 * (i : Int)) 1).2) := by
   unfold C22.open1
   rw [s2]
   simp only
   rw [if_neg (by simp), if_neg (by
    have : (fI c a).good = false := by rw [hg] at hga; exact hga.symm
    rw [this]; simp)]
  rw [e1, e2]
  have f1 := hd.fmtF ha h.l1 hn hi
  have f2 := hc.fmtF (by rw [← h.aft]; exact ha) h.l2 (by rw [← h.steps]; exact hn) hi
  obtain ⟨r1, hr1⟩ : ∃ r, r = fmtR d (0 + 2 * (i : Int)) 1 := ⟨_, rfl⟩
  obtain ⟨r2, hr2⟩ : ∃ r, r = fmtR c (0 + 2 * (i : Int)) 1 := ⟨_, rfl⟩
  rw [← hr1] at f1 ⊢
  rw [← hr2] at f2 ⊢
  simp only
  have hst : r1.1.steps = r2.1.steps := by rw [f1.st, f2.st, h.steps]
  have haf : r1.1.after = r2.1.after := by rw [f1.aft, f2.aft]
  have hde : r1.1.dead = r2.1.dead := by rw [f1.idle.live, f2.idle.live]
  by_cases e : i = sl
  · subst e
    refine .inr (dk_eq hst haf hde f1.len f2.len fun k hk => ?_)
    rw [f1.cel, f2.cel]
    by_cases e : k / 2 = i
    · rw [if_pos e, if_pos e]
    · rw [if_neg e, if_neg e]; exact (h.cel k hk).same e
  · refine .inl ⟨hst, haf, hde, f1.len, f2.len, fun k hk => ?_⟩
    rw [f1.cel, f2.cel]
    by_cases e2 : k / 2 = i
    · rw [if_pos e2, if_pos e2]
      exact ⟨by unfold Ra; rw [if_neg (by omega)], rfl, .inl ⟨rfl, rfl⟩⟩
    · rw [if_neg e2, if_neg e2]; exact h.cel k hk
theorem RD.openN (hs : Scr q A B) (h : RD sl q A B d c) (hd : Idle d) (hc : Idle c) (ha : d.after = -1) (hn : d.steps ≤ 700000000) : ∀ k : Nat, k ≤ 3 →
 RD sl q A B (openN d 0 k).1 (openN c 0 k).1 ∨ (openN d 0 k).1 = (openN c 0 k).1
 | 0, _ => .inl h
 | k + 1, hk => by
   have ih := h.openN hs hd hc ha hn k (by omega)
   have f1 := hd.openNF ha h.l1 hn k (by omega)
   have f2 := hc.openNF (by rw [← h.aft]; exact ha) h.l2 (by rw [← h.steps]; exact hn) k (by omega)
   unfold C22.openN
   generalize C22.openN d 0 k = o1 at ih f1
   generalize C22.openN c 0 k = o2 at ih f2
   obtain ⟨d1, l1, e1⟩ := o1
   obtain ⟨c1, l2, e2⟩ := o2
   have he1 := f1.e
   have he2 := f2.e
   simp only at he1 he2 ih
   subst he1 he2
   simp only
   have z : ¬ ((0 : Int) ≠ 0) := by simp
   rw [if_neg z, if_neg z]
   simp only
   have hst := f1.st
   simp only at hst
   rcases ih with ih | rfl
   · exact ih.open1 hs f1.idle f2.idle f1.aft (by omega) (by omega)
   · exact .inr rfl
end
end C22
/-
 Layer 22 (slots): the twin's calls, as plain mathematics.
 Conditions: of each law as it says.
-/
namespace C22
def RC (S : Sec) (c : Cel) : Prop := c = ⟨S, false, []⟩ ∨ c = ⟨z0, true, []⟩
def SRest (d : Dk) (n i : Nat) (S : Sec) : Prop := goodS S = true ∧ numAt S 0 ≤ n ∧ RC S (celAt d (2 * i)) ∧ RC S (celAt d (2 * i + 1))
structure RestS (d : Dk) (n : Nat) : Prop where
 idle : Idle d
 len : d.cs.length = 6
 sl : ∀ i, i < 3 → ∃ S, SRest d n i S
def SDown (d : Dk) (n i : Nat) : Prop := ∃ G N, Two G N ∧ numAt N 0 ≤ n ∧ Wk G N d i
structure DownS (d : Dk) (n : Nat) : Prop where
 ok : Okd d
 len : d.cs.length = 6
 dead : d.dead = true
 sl : ∀ i, i < 3 → SDown d n i
theorem RC.kind {S : Sec} {c : Cel} (h : RC S c) (G N : Sec) (hS : S = G ∨ S = N) : CellS G N c := by
 rcases h with rfl | rfl
 · exact kind_one hS
 · exact ⟨.z, by simp⟩
theorem RC.eq {S : Sec} {c : Cel} (h : RC S c) (hg : goodS c.s = true) : c = ⟨S, false, []⟩ := by
 rcases h with rfl | rfl
 · rfl
 · simp only [good_z0] at hg; cases hg
theorem RC.shut {S : Sec} {c : Cel} (h : RC S c) : c.op = [] := by rcases h with rfl | rfl <;> rfl
section
variable {d : Dk} {n i : Nat} {S : Sec}
theorem SRest.at (h : SRest d n i S) {k : Nat} (hk : k / 2 = i) : RC S (celAt d k) := by
 rcases (by omega : k = 2 * i ∨ k = 2 * i + 1) with rfl | rfl
 · exact h.2.2.1
 · exact h.2.2.2
theorem SRest.down (h : SRest d n i S) : SDown d n i := ⟨S, S, two_self h.1, h.2.1, h.2.2.1.kind S S (.inl rfl), h.2.2.2.kind S S (.inl rfl)⟩
theorem SRest.mono (h : SRest d n i S) {m : Nat} (hm : n ≤ m) : SRest d m i S := ⟨h.1, Nat.le_trans h.2.1 hm, h.2.2⟩
theorem SRest.frame {d' : Dk} (h : SRest d n i S) (hf : ∀ k, k / 2 = i → celAt d' k = celAt d k) : SRest d' n i S := ⟨h.1, h.2.1, by rw [hf _ (by omega)]; exact h.2.2.1, by rw [hf _ (by omega)]; exact h.2.2.2⟩
theorem SRest.both {d' : Dk} (hg : goodS S = true) (hn : numAt S 0 ≤ n) (hb : Both d' i S) : SRest d' n i S := ⟨hg, hn, .inl hb.1, .inl hb.2⟩
theorem SDown.mono (h : SDown d n i) {m : Nat} (hm : n ≤ m) : SDown d m i := by obtain ⟨G, N, a, b, c⟩ := h; exact ⟨G, N, a, Nat.le_trans b hm, c⟩
theorem SDown.frame {d' : Dk} (h : SDown d n i) (hf : ∀ k, k / 2 = i → celAt d' k = celAt d k) : SDown d' n i := by
 obtain ⟨G, N, a, b, c⟩ := h
 exact ⟨G, N, a, b, .of fun k hk => by rw [hf k hk]; exact c.at hk⟩
theorem SDown.crash (h : SDown d n i) (hl : d.cs.length = 6) (hi : i < 3) (keep : List Int) : SDown (crash d keep) n i := by
 obtain ⟨G, N, a, b, c⟩ := h
 refine ⟨G, N, a, b, .of fun k hk => ?_⟩
 obtain ⟨x, hx⟩ := celAt_crash (d := d) keep (k := k) (by omega)
 rw [hx]
 split
 · exact c.at hk
 · exact (c.at hk).kept x
theorem num_M1 : numAt M1 0 = 1 := by decide +kernel
theorem rest_open {keep : List Int} (ho : Okd d) (hl : d.cs.length = 6) (hn : 1 ≤ n) (hs : ∀ i, i < 3 → SDown d n i) :
 openR (crash d keep) 0 3 = openN (crash d keep) 0 3 ∧ ONF (crash d keep) 3 (openN (crash d keep) 0 3) ∧ RestS (openN (crash d keep) 0 3).1 n ∧ Idle (crash d keep) := by
 obtain ⟨h1, h2⟩ := crash_ok ho keep
 have hid : Idle (crash d keep) := ⟨h1, rfl, h2⟩
 obtain ⟨e, f⟩ := hid.openRF rfl ((crash_len d keep).trans hl) (by simp [crash])
 refine ⟨e, f, ⟨f.idle, f.len, fun i hi => ?_⟩, hid⟩
 obtain ⟨S, g, b, o⟩ := f.both i hi
 refine ⟨S, .both g ?_ b⟩
 rcases o with rfl | ⟨a, ha, rfl⟩
 · rw [num_M1]; exact hn
 · obtain ⟨G, N, t, hN, w⟩ := (hs i hi).crash hl hi keep
   rcases t.only (w.at ha).cls g with e | e
   · rw [e]
     rcases t.ne with e2 | e2
     · rw [e2]; exact hN
     · omega
   · rw [e]; exact hN
structure NxF (d : Dk) (n i a : Nat) (b : Str) : Prop where
 good : goodS (mk1 (nextQ (fI d a)) b) = true
 few : numAt (mk1 (nextQ (fI d a)) b) 0 ≤ n + 1
 old : ∀ k, k / 2 = i → (goodS (celAt d k).s = true ∧ numAt (mk1 (nextQ (fI d a)) b) 0 = numAt (celAt d k).s 0 + 1) ∨ celAt d k = ⟨z0, true, []⟩
 down : ∃ G, Two G (mk1 (nextQ (fI d a)) b) ∧ Wk G (mk1 (nextQ (fI d a)) b) d i ∧ ∀ a, a / 2 = i → goodS (celAt d a).s = true → (celAt d a).s = G
theorem SRest.next (h : SRest d n i S) (hn : n ≤ 1000000000) {a c : Nat} (hab : Pair2 i a c) (hbad : goodS (celAt d a).s = false → goodS (celAt d c).s = false) {b : Str} (hb : b.length ≤ 55) : NxF d n i a b := by
 obtain ⟨g, hm, _, _⟩ := id h
 have haa : a / 2 = i := by unfold Pair2 at hab; omega
 have hall : ∀ k, k / 2 = i → k = a ∨ k = c := fun k hk => by unfold Pair2 at hab; omega
 cases hg : goodS (celAt d a).s with
 | true =>
  have ea := (h.at haa).eq hg
  have hq : nextQ (fI d a) = ((numAt S 0 + 1 : Nat) : Int) := by
   have h1 : (fI d a).good = true := hg
   have h2 : (fI d a).s = S := by
    have : (fI d a).s = (celAt d a).s := rfl
    rw [this, ea]
   unfold nextQ
   rw [if_pos h1, h2]
   omega
  have hnum := num_mk1 (q := ((numAt S 0 + 1 : Nat) : Int)) (by omega) (by omega) b
  have hgN : goodS (mk1 ((numAt S 0 + 1 : Nat) : Int) b) = true := good_mk1 (by omega) (by omega) hb
  refine ⟨by rw [hq]; exact hgN, by rw [hq]; omega, fun k hk => ?_, S, ?_, ?_, fun k hk hgk => by rw [(h.at hk).eq hgk]⟩
  · rw [hq]
    rcases h.at hk with e | e
    · exact .inl ⟨by rw [e]; exact g, by rw [e]; simp only; omega⟩
    · exact .inr e
  · rw [hq]; exact ⟨g, hgN, .inr (by omega)⟩
  · rw [hq]; exact ⟨(h.at (by omega)).kind _ _ (.inl rfl), (h.at (by omega)).kind _ _ (.inl rfl)⟩
 | false =>
  have hz : ∀ k, k / 2 = i → celAt d k = ⟨z0, true, []⟩ := fun k hk => by
   have hgk : goodS (celAt d k).s = false := by
    rcases hall k hk with rfl | rfl
    · exact hg
    · exact hbad hg
   rcases h.at hk with e | e
   · rw [e] at hgk; simp only at hgk; rw [g] at hgk; cases hgk
   · exact e
  have hq : nextQ (fI d a) = 1 := by
   have h1 : (fI d a).good = false := hg
   unfold nextQ
   rw [if_neg (by rw [h1]; simp)]
  have hnum := num_mk1 (q := 1) (by omega) (by omega) b
  have hgN : goodS (mk1 1 b) = true := good_mk1 (by omega) (by omega) hb
  refine ⟨by rw [hq]; exact hgN, by rw [hq]; omega, fun k hk => .inr (hz k hk), mk1 1 b, ?_, ?_, fun k hk hgk => ?_⟩
  · rw [hq]; exact two_self hgN
  · rw [hq]; exact .of fun k hk => by rw [hz k hk]; exact ⟨.z, by simp⟩
  · rw [hz k hk] at hgk; simp only [good_z0] at hgk; cases hgk
structure RcF (d : Dk) (n i a : Nat) (b : Str) (r : Dk × Int) : Prop extends ChF d i (mk1 (nextQ (fI d a)) b) r where
 nx : NxF d n i a b
 st2 : (r.2 = 0 ∧ RestS r.1 (n + 1)) ∨ (r.2 = 12 ∧ DownS r.1 (n + 1))
theorem RestS.change (h : RestS d n) (hn : n ≤ 1000000000) (hst : d.steps ≤ 800000000) (hi : i < 3) {b : Str} (hb : b.length ≤ 55) :
 ∃ a c, Pair2 i a c ∧ slotR d 0 i = (fI d a, fI d c, 0) ∧ RcF d n i a b (changeR d 0 i b) := by
 obtain ⟨a, c, hab, hsl, hbad⟩ := h.idle.slot h.len hi
 obtain ⟨S, hS⟩ := h.sl i hi
 have nx := hS.next hn hab hbad hb
 have hc := h.idle.changeF h.len hst hi hab hsl b
 refine ⟨a, c, hab, hsl, hc, nx, ?_⟩
 generalize changeR d 0 i b = r at hc ⊢
 rcases hc.out with ⟨h1, h2⟩ | ⟨h1, h2, h3⟩
 · refine .inl ⟨h1, h2, hc.len.trans h.len, fun j hj => ?_⟩
   by_cases e : j = i
   · subst e
     exact ⟨_, .both nx.good nx.few (hc.both h1)⟩
   · obtain ⟨S, hS⟩ := h.sl j hj
     exact ⟨S, (hS.mono (by omega)).frame fun k hk => hc.frame k (by omega)⟩
 · refine .inr ⟨h1, hc.ok, hc.len.trans h.len, h2, fun j hj => ?_⟩
   by_cases e : j = i
   · subst e
     obtain ⟨G, t, w, hG⟩ := nx.down
     exact ⟨G, _, t, nx.few, hc.wk G w hG⟩
   · obtain ⟨S, hS⟩ := h.sl j hj
     exact (hS.mono (by omega)).down.frame fun k hk => hc.frame k (by omega)
end
def EqM (d c : Dk) (n : Nat) : Prop := d = c ∧ (RestS d n ∨ DownS d n)
def SxM (sl : Nat) (d c : Dk) (n : Nat) : Prop := ∃ q A B, Scr q A B ∧ RD sl q A B d c ∧ Okd c ∧ ((RestS d n ∧ SRest d n sl A ∧ (celAt d (2 * sl) = ⟨A, false, []⟩ ∨ celAt d (2 * sl + 1) = ⟨A, false, []⟩)) ∨ DownS d n)
def Tw (sl : Nat) (d c : Dk) (n : Nat) : Prop := EqM d c n ∨ SxM sl d c n
theorem RestS.mono {d : Dk} {n m : Nat} (h : RestS d n) (hm : n ≤ m) : RestS d m := ⟨h.idle, h.len, fun i hi => by obtain ⟨S, hS⟩ := h.sl i hi; exact ⟨S, hS.mono hm⟩⟩
theorem DownS.mono {d : Dk} {n m : Nat} (h : DownS d n) (hm : n ≤ m) : DownS d m := ⟨h.ok, h.len, h.dead, fun i hi => (h.sl i hi).mono hm⟩
theorem EqM.mono {d c : Dk} {n m : Nat} (h : EqM d c n) (hm : n ≤ m) : EqM d c m := ⟨h.1, h.2.imp (fun h => h.mono hm) fun h => h.mono hm⟩
theorem SxM.mono {sl : Nat} {d c : Dk} {n m : Nat} (h : SxM sl d c n) (hm : n ≤ m) : SxM sl d c m := by
 obtain ⟨q, A, B, a, b, o, h⟩ := h
 exact ⟨q, A, B, a, b, o, h.imp (fun h => ⟨h.1.mono hm, h.2.1.mono hm, h.2.2⟩) fun h => h.mono hm⟩
theorem Tw.mono {sl : Nat} {d c : Dk} {n m : Nat} (h : Tw sl d c n) (hm : n ≤ m) : Tw sl d c m := h.imp (fun h => h.mono hm) fun h => h.mono hm
theorem EqM.facts {d c : Dk} {n : Nat} (h : EqM d c n) : Okd d ∧ d.cs.length = 6 ∧ (∀ i, i < 3 → SDown d n i) ∧ (d.dead = false → RestS d n) := by
 rcases h.2 with h | h
 · exact ⟨h.idle.ok, h.len, fun i hi => by obtain ⟨S, hS⟩ := h.sl i hi; exact hS.down, fun _ => h⟩
 · exact ⟨h.ok, h.len, h.sl, fun e => by rw [h.dead] at e; cases e⟩
theorem SxM.facts {sl : Nat} {d c : Dk} {n : Nat} (h : SxM sl d c n) : Okd d ∧ Okd c ∧ d.cs.length = 6 ∧ c.cs.length = 6 ∧ d.steps = c.steps ∧ d.dead = c.dead ∧ d.after = c.after ∧ (∀ i, i < 3 → SDown d n i) ∧ (d.dead = false → RestS d n) := by
 obtain ⟨q, A, B, a, b, o, h⟩ := h
 rcases h with ⟨h, _⟩ | h
 · exact ⟨h.idle.ok, o, b.l1, b.l2, b.steps, b.dead, b.aft, fun i hi => by obtain ⟨S, hS⟩ := h.sl i hi; exact hS.down, fun _ => h⟩
 · exact ⟨h.ok, o, b.l1, b.l2, b.steps, b.dead, b.aft, h.sl, fun e => by rw [h.dead] at e; cases e⟩
theorem Tw.facts {sl : Nat} {d c : Dk} {n : Nat} (h : Tw sl d c n) : Okd d ∧ Okd c ∧ d.cs.length = 6 ∧ c.cs.length = 6 ∧ d.steps = c.steps ∧ d.dead = c.dead ∧ d.after = c.after ∧ (∀ i, i < 3 → SDown d n i) ∧ (d.dead = false → RestS d n) := by
 rcases h with h | h
 · obtain ⟨a, b, x, y⟩ := h.facts
   obtain rfl := h.1
   exact ⟨a, a, b, b, rfl, rfl, rfl, x, y⟩
 · exact h.facts
section
variable {sl q : Nat} {A B : Sec} {d c : Dk} {n : Nat}
theorem Rc.none {k : Nat} {x y : Cel} (h : Rc sl q A B k x y) (h0 : numAt x.s 0 ≠ q) (h1 : numAt x.s 32 ≠ q) (ho : x.op = []) : x = y := by
 obtain ⟨r, b, o⟩ := h
 have hs : x.s = y.s := by
  unfold Ra at r
  split at r
  · rw [num_fH] at h0
    rw [num_sH] at h1
    exact halves (r.f1 h0) (r.s1 h1)
  · exact r
 have hy : y.op = [] := by
  rcases o with ⟨_, o⟩ | ⟨v, _, o, _⟩
  · exact o
  · rw [o] at ho; cases ho
 obtain ⟨s, b1, o1⟩ := x
 obtain ⟨s', b2, o2⟩ := y
 simp only at b hs ho hy
 rw [b, hs, ho, hy]
theorem RD.same_both (h : RD sl q A B d c) (hsl : sl < 3) {S : Sec} (hg : goodS S = true) (hq : numAt S 0 ≠ q) (hb : Both d sl S) : d = c := by
 have h32 : numAt S 32 ≠ q := by rw [← (good_num hg).1]; exact hq
 refine h.same ?_ ?_
 · refine (h.cel (2 * sl) (by omega)).none ?_ ?_ ?_ <;> rw [hb.1]
   · exact hq
   · exact h32
 · refine (h.cel (2 * sl + 1) (by omega)).none ?_ ?_ ?_ <;> rw [hb.2]
   · exact hq
   · exact h32
theorem Tw.open (h : Tw sl d c n) (hsl : sl < 3) (hn : 1 ≤ n) (keep : List Int) :
 (openR (crash d keep) 0 3).2.2 = 0 ∧ (openR (crash c keep) 0 3).2.2 = 0 ∧ Tw sl (openR (crash d keep) 0 3).1 (openR (crash c keep) 0 3).1 n ∧ RestS (openR (crash d keep) 0 3).1 n ∧ (openR (crash d keep) 0 3).1.steps ≤ 9 ∧ (EqM d c n → EqM (openR (crash d keep) 0 3).1 (openR (crash c keep) 0 3).1 n) := by
 rcases h with h | h
 · obtain ⟨a, b, x, y⟩ := h.facts
   obtain rfl := h.1
   obtain ⟨e, f, r, _⟩ := rest_open (keep := keep) a b hn x
   rw [e]
   have hst := f.st
   refine ⟨f.e, f.e, .inl ⟨rfl, .inl r⟩, r, ?_, fun _ => ⟨rfl, .inl r⟩⟩
   have : (crash d keep).steps = 0 := rfl
   omega
 · obtain ⟨a1, a2, a3, a4, a5, a6, a7, x, y⟩ := h.facts
   obtain ⟨q, A, B, scr, rd, okc, _⟩ := id h
   obtain ⟨e, f, r, id1⟩ := rest_open (keep := keep) a1 a3 hn x
   have rd1 := rd.crash scr keep
   have id2 : Idle (crash c keep) := rd1.idle id1 (crash_ok okc keep).1
   obtain ⟨e2, f2⟩ := id2.openRF rfl rd1.l2 (by simp [crash])
   have hon := rd1.openN scr id1 id2 rfl (by simp [crash]) 3 (by omega)
   rw [e, e2]
   have hst := f.st
   have hs0 : (crash d keep).steps = 0 := rfl
   have heq : d = c → (openN (crash d keep) 0 3).1 = (openN (crash c keep) 0 3).1 := fun e => by rw [e]
   generalize openN (crash d keep) 0 3 = o1 at f r hon hst heq
   generalize openN (crash c keep) 0 3 = o2 at f2 hon heq
   refine ⟨f.e, f2.e, ?_, r, by omega, fun hh => ?_⟩
   · rcases hon with hon | hon
     · obtain ⟨S, g, b, _⟩ := f.both sl hsl
       by_cases hq : numAt S 0 = q
       · have hcel := hon.cel (2 * sl) (by omega)
         rw [b.1] at hcel
         have hra := hcel.s
         unfold Ra at hra
         rw [if_pos (by omega)] at hra
         simp only at hra
         have hSA : S = A := by
          refine halves (hra.f2 (by rw [← num_fH]; exact hq)).1 (hra.s2 ?_).1
          rw [← num_sH, ← (good_num g).1]; exact hq
         subst hSA
         obtain ⟨S', hS'⟩ := r.sl sl hsl
         have hSS : S' = S := by
          have := hS'.2.2.1
          rw [b.1] at this
          rcases this with e | e
          · injection e with e; exact e.symm
          · injection e with _ e; cases e
         rw [hSS] at hS'
         exact .inr ⟨q, S, B, scr, hon, f2.idle.ok, .inl ⟨r, hS', .inl b.1⟩⟩
       · exact .inl ⟨hon.same_both hsl g hq b, .inl r⟩
     · exact .inl ⟨hon, .inl r⟩
   · exact ⟨heq hh.1, .inl r⟩
end
end C22
/-
 Layer 22 (slots): the twin's calls, as plain mathematics.
 Conditions: of each law as it says.
-/
namespace C22
section
variable {sl q : Nat} {A B : Sec} {d c : Dk} {n : Nat}
theorem nextQ_eq (hs : Scr q A B) (h : RD sl q A B d c) {a : Nat} (ha : a < 6) : nextQ (fI d a) = nextQ (fI c a) := by
 have hr := (h.cel a ha).s
 have g := hr.good hs
 have m := hr.num hs
 have e1 : (fI d a).good = (fI c a).good := g
 have e2 : numAt (fI d a).s 0 = numAt (fI c a).s 0 := m
 unfold nextQ
 rw [e1, e2]
theorem EqM.change (h : EqM d c n) (hl : d.dead = false) (hn : n ≤ 1000000000) (hst : d.steps ≤ 800000000) {i : Nat} (hi : i < 3) {b : Str} (hb : b.length ≤ 55) :
 (changeR d 0 i b).2 = (changeR c 0 i b).2 ∧ EqM (changeR d 0 i b).1 (changeR c 0 i b).1 (n + 1) ∧ (changeR d 0 i b).1.steps ≤ d.steps + 6 := by
 obtain ⟨x1, x2, x3, x4⟩ := h.facts
 obtain rfl := h.1
 obtain ⟨a, e, _, _, f⟩ := (x4 hl).change hn hst hi hb
 exact ⟨rfl, ⟨rfl, f.st2.imp (fun h => h.2) fun h => h.2⟩, f.st⟩
theorem SxM.change (h : SxM sl d c n) (hsl : sl < 3) (hl : d.dead = false) (hn : n ≤ 1000000000) (hst : d.steps ≤ 800000000) {i : Nat} (hi : i < 3) {b : Str} (hb : b.length ≤ 55) :
 (changeR d 0 i b).2 = (changeR c 0 i b).2 ∧ Tw sl (changeR d 0 i b).1 (changeR c 0 i b).1 (n + 1) ∧ ((changeR d 0 i b).2 = 0 → i = sl → EqM (changeR d 0 i b).1 (changeR c 0 i b).1 (n + 1)) ∧ (changeR d 0 i b).1.steps ≤ d.steps + 6 := by
 obtain ⟨_, _, _, _, hsteps, _, _, _, hrest⟩ := h.facts
 obtain ⟨q, A, B, scr, rd, okc, hst2⟩ := h
 have hr := hrest hl
 have hA : SRest d n sl A ∧ (celAt d (2 * sl) = ⟨A, false, []⟩ ∨ celAt d (2 * sl + 1) = ⟨A, false, []⟩) := by
  rcases hst2 with h | h
  · exact h.2
  · have := h.dead; rw [hl] at this; cases this
 obtain ⟨hA, hA2⟩ := hA
 have idc := rd.idle hr.idle okc
 obtain ⟨a, e, hab, hslot, f⟩ := hr.change hn hst hi hb
 have ha6 : a < 6 := by unfold Pair2 at hab; omega
 have haa : a / 2 = i := by unfold Pair2 at hab; omega
 -- the number of the next copy in the slot of the secret
 have hnum : i = sl → numAt (mk1 (nextQ (fI d a)) b) 0 = q + 1 := by
  rintro rfl
  have hAq : numAt A 0 = q := by rw [num_fH]; exact scr.a1
  have hk : ∃ k, k / 2 = i ∧ celAt d k = ⟨A, false, []⟩ := by
   rcases hA2 with e | e
   · exact ⟨_, by omega, e⟩
   · exact ⟨_, by omega, e⟩
  obtain ⟨k, hk, ek⟩ := hk
  rcases f.nx.old k hk with ⟨_, e⟩ | e
  · rw [e, ek]; simp only; omega
  · rw [ek] at e; exact Bool.noConfusion (congrArg Cel.bad e)
 have hN32 : numAt (mk1 (nextQ (fI d a)) b) 32 = numAt (mk1 (nextQ (fI d a)) b) 0 := (good_num f.nx.good).1.symm
 have hN : ∀ a' e', Pair2 i a' e' → slotR d 0 i = (fI d a', fI d e', 0) → Ra sl q A B (2 * i) (mk1 (nextQ (fI d a')) b) (mk1 (nextQ (fI c a')) b) := by
  intro a' e' hab' hs'
  have ha' : a' < 6 := by unfold Pair2 at hab'; omega
  rw [← nextQ_eq scr rd ha']
  have haa' : a' = a := by
   rw [hslot] at hs'
   have h1 : (fI d a).at' = (fI d a').at' := by rw [Prod.mk.injEq] at hs'; rw [hs'.1]
   rw [fI_at, fI_at] at h1
   omega
  subst haa'
  unfold Ra
  split
  · exact .self _ (by rw [hnum (by omega)]; omega) (by rw [hN32, hnum (by omega)]; omega)
  · rfl
 obtain ⟨he, hrd⟩ := rd.change scr hr.idle idc hst hi hN
 have okc' := (changeR_up okc (by rw [← hsteps]; omega) 0 i b).1
 obtain ⟨r2, hr2⟩ : ∃ r, r = changeR c 0 i b := ⟨_, rfl⟩
 obtain ⟨r1, hr1⟩ : ∃ r, r = changeR d 0 i b := ⟨_, rfl⟩
 rw [← hr2] at he hrd okc' ⊢
 rw [← hr1] at f he hrd ⊢
 have hst6 := f.st
 have key : r1.2 = 0 → i = sl → EqM r1.1 r2.1 (n + 1) := fun h0 hisl => by
  refine ⟨?_, ?_⟩
  · subst hisl
    exact hrd.same_both hsl f.nx.good (by rw [hnum rfl]; omega) (f.both h0)
  · rcases f.st2 with h | h
    · exact .inl h.2
    · rw [h.1] at h0; cases h0
 refine ⟨he, ?_, key, hst6⟩
 rcases f.st2 with ⟨h0, h⟩ | ⟨h12, h⟩
 · by_cases hisl : i = sl
   · exact .inl (key h0 hisl)
   · refine .inr ⟨q, A, B, scr, hrd, okc', .inl ⟨h, (hA.mono (by omega)).frame fun k hk => f.frame k (by omega), ?_⟩⟩
     rw [f.frame _ (by omega), f.frame _ (by omega)]
     exact hA2
 · exact .inr ⟨q, A, B, scr, hrd, okc', .inr h⟩
theorem EqM.secret (h : EqM d c n) (hsl : sl < 3) (hl : d.dead = false) (hn : n ≤ 1000000000) (hst : d.steps ≤ 800000000) {b b' : Str} (hb : b.length ≤ 55) (hb' : b'.length ≤ 55) :
 (changeR d 0 sl b).2 = (changeR c 0 sl b').2 ∧ Tw sl (changeR d 0 sl b).1 (changeR c 0 sl b').1 (n + 1) ∧ (changeR d 0 sl b).1.steps ≤ d.steps + 6 := by
 obtain ⟨okd, hlen, _, hrest⟩ := h.facts
 obtain rfl := h.1
 have hr := hrest hl
 obtain ⟨a, e, hab, hslot, f⟩ := hr.change hn hst hsl hb
 obtain ⟨a2, e2, hab2, hslot2, f2⟩ := hr.change hn hst hsl hb'
 have haa : a2 = a := by
  rw [hslot] at hslot2
  have h1 : (fI d a).at' = (fI d a2).at' := by rw [Prod.mk.injEq] at hslot2; rw [hslot2.1]
  rw [fI_at, fI_at] at h1
  omega
 subst haa
 have ha6 : a2 < 6 := by unfold Pair2 at hab; omega
 have hq : ∀ b : Str, (numAt (mk1 (nextQ (fI d a2)) b) 0 : Int) = nextQ (fI d a2) := fun b => by
  have : 0 ≤ nextQ (fI d a2) ∧ nextQ (fI d a2) < 4294967296 := by unfold nextQ; split <;> omega
  exact num_mk1 this.1 this.2 b
 have hold := f.nx.old
 have goodA := f.nx.good
 have goodB := f2.nx.good
 have fewA := f.nx.few
 have bothA := f.both
 have nA := hq b
 have nB := hq b'
 have hN0 : ∀ a' e', Pair2 sl a' e' → slotR d 0 sl = (fI d a', fI d e', 0) → a' = a2 := by
  intro a' e' hab' hs'
  rw [hslot] at hs'
  have h1 : (fI d a2).at' = (fI d a').at' := by rw [Prod.mk.injEq] at hs'; rw [hs'.1]
  rw [fI_at, fI_at] at h1
  omega
 obtain ⟨A, hA⟩ : ∃ A, A = mk1 (nextQ (fI d a2)) b := ⟨_, rfl⟩
 obtain ⟨B, hB⟩ : ∃ B, B = mk1 (nextQ (fI d a2)) b' := ⟨_, rfl⟩
 rw [← hA] at hold goodA fewA bothA nA
 rw [← hB] at goodB nB
 have gA := good_num goodA
 have gB := good_num goodB
 obtain ⟨qq, hqd⟩ : ∃ qq, qq = numAt A 0 := ⟨_, rfl⟩
 have hqB : numAt B 0 = qq := by omega
 have scr : Scr qq A B := by
  refine ⟨by rw [hqd]; exact gA.2.1, ?_, ?_, ?_, ?_, goodA, goodB⟩
  · rw [← num_fH]; exact hqd.symm
  · rw [← num_sH, ← gA.1]; exact hqd.symm
  · rw [← num_fH]; exact hqB
  · rw [← num_sH, ← gB.1]; exact hqB
 rw [← hqd] at hold
 have rd : RD sl qq A B d d := by
  refine ⟨rfl, rfl, rfl, hlen, hlen, fun k hk => ⟨?_, rfl, ?_⟩⟩
  · unfold Ra
    split
    · rename_i hks
      rcases hold k hks with ⟨g, e⟩ | e
      · have hg := (good_num g).1
        exact .self _ (by rw [e]; exact Nat.ne_of_lt (Nat.lt_succ_self _)) (by rw [← hg, e]; exact Nat.ne_of_lt (Nat.lt_succ_self _))
      · rw [e]; exact .z scr.pos
    · rfl
  · left
    have : (celAt d k).op = [] := by rw [celAt_get (by omega)]; exact hr.idle.shut _ (List.getElem_mem _)
    exact ⟨this, this⟩
 have hN : ∀ a' e', Pair2 sl a' e' → slotR d 0 sl = (fI d a', fI d e', 0) → Ra sl qq A B (2 * sl) (mk1 (nextQ (fI d a')) b) (mk1 (nextQ (fI d a')) b') := by
  intro a' e' hab' hs'
  obtain rfl := hN0 a' e' hab' hs'
  rw [← hA, ← hB]
  unfold Ra
  rw [if_pos (by omega)]
  exact .sec scr
 obtain ⟨he, hrd⟩ := rd.change scr hr.idle hr.idle hst hsl hN
 have okc' := (changeR_up okd (by omega) 0 sl b').1
 have st2 := f.st2
 have fst := f.st
 obtain ⟨r2, hr2⟩ : ∃ r, r = changeR d 0 sl b' := ⟨_, rfl⟩
 obtain ⟨r1, hr1⟩ : ∃ r, r = changeR d 0 sl b := ⟨_, rfl⟩
 rw [← hr2] at he hrd okc' ⊢
 rw [← hr1] at bothA st2 fst he hrd ⊢
 refine ⟨he, ?_, fst⟩
 rcases st2 with ⟨h0, h⟩ | ⟨h12, h⟩
 · exact .inr ⟨qq, A, B, scr, hrd, okc', .inl ⟨h, .both goodA fewA (bothA h0), .inl (bothA h0).1⟩⟩
 · exact .inr ⟨qq, A, B, scr, hrd, okc', .inr h⟩
theorem RestS.arm (h : RestS d n) {k : Int} (hk : k ≤ 9223372036854775807) : RestS (arm d k) n := ⟨h.idle.arm hk, h.len, h.sl⟩
theorem Tw.arm (h : Tw sl d c n) (hl : d.dead = false) {k : Int} (hk : k ≤ 9223372036854775807) : Tw sl (arm d k) (arm c k) n ∧ (EqM d c n → EqM (arm d k) (arm c k) n) := by
 obtain ⟨_, _, _, _, _, _, _, _, hrest⟩ := h.facts
 have hr := (hrest hl).arm hk
 have heq : EqM d c n → EqM (C22.arm d k) (C22.arm c k) n := fun h => ⟨by rw [h.1], .inl hr⟩
 refine ⟨?_, heq⟩
 rcases h with h | ⟨q, A, B, scr, rd, okc, h⟩
 · exact .inl (heq h)
 · refine .inr ⟨q, A, B, scr, ⟨rd.steps, rfl, rd.dead, rd.l1, rd.l2, rd.cel⟩, arm_ok okc hk, ?_⟩
   rcases h with h | h
   · exact .inl ⟨hr, h.2⟩
   · have := h.dead; rw [hl] at this; cases this
theorem chk_ok (h : d.dead = false) {a : Int} : chk d a = if a < 0 ∨ (d.cs.length : Int) ≤ a then 1 else 0 := by
 unfold chk; rw [if_neg (by rw [h]; simp)]
theorem rot_in (h : Idle d) {a : Nat} (ha : a < d.cs.length) : rot d a = ({ d with cs := d.cs.modify a fun c => { c with s := z0, bad := true } }, 0) := by
 unfold rot
 rw [if_neg (by rw [h.chk ha]; simp), Int.toNat_natCast]
theorem rot_cel (h : Idle d) {a : Nat} (ha : a < d.cs.length) (k : Nat) : celAt (rot d a).1 k = if k = a then ⟨z0, true, []⟩ else celAt d k := by
 rw [rot_in h ha]
 have := celAt_mk (d := d) (fun c => { c with s := z0, bad := true }) ha k d.steps d.after d.dead
 rw [this]
 split
 · have hop : (celAt d a).op = [] := by rw [celAt_get ha]; exact h.shut _ (List.getElem_mem _)
   simp only [hop]
 · rfl
theorem RestS.rot (h : RestS d n) {a : Nat} (ha : a < 6) : RestS (rot d a).1 n := by
 have hl := h.len
 obtain ⟨o1, o2⟩ := rot_ok h.idle.ok (a : Int)
 have hc := rot_cel h.idle (a := a) (by omega)
 have e := rot_in h.idle (a := a) (by omega)
 refine ⟨⟨o1, by rw [e]; exact h.idle.live, fun x hx => ?_⟩, by rw [e]; simpa using hl, fun i hi => ?_⟩
 · rw [e] at hx
   rcases mem_modify hx with hx | ⟨y, hy, rfl⟩
   · exact h.idle.shut x hx
   · exact h.idle.shut y hy
 · obtain ⟨S, g, m, r0, r1⟩ := h.sl i hi
   refine ⟨S, g, m, ?_, ?_⟩
   · rw [hc]; split
     · exact .inr rfl
     · exact r0
   · rw [hc]; split
     · exact .inr rfl
     · exact r1
theorem Tw.rot (h : Tw sl d c n) (hsl : sl < 3) (hl : d.dead = false) (a : Int) : (rot d a).2 = (rot c a).2 ∧ Tw sl (rot d a).1 (rot c a).1 n ∧ (EqM d c n → EqM (rot d a).1 (rot c a).1 n) ∧ (rot d a).1.steps = d.steps := by
 obtain ⟨okd, okc, l1, l2, _, hdd, _, _, hrest⟩ := h.facts
 have hr := hrest hl
 have hlc : c.dead = false := by rw [← hdd]; exact hl
 have hs := (rot_ok okd a).2
 by_cases ha : a < 0 ∨ ((6 : Nat) : Int) ≤ a
 · have e1 : C22.rot d a = (d, 1) := by unfold C22.rot; rw [chk_ok hl, l1, if_pos ha, if_pos (by simp)]
   have e2 : C22.rot c a = (c, 1) := by unfold C22.rot; rw [chk_ok hlc, l2, if_pos ha, if_pos (by simp)]
   rw [e1, e2]
   exact ⟨rfl, h, fun h => h, rfl⟩
 obtain ⟨a, rfl⟩ : ∃ k : Nat, a = k := ⟨a.toNat, by omega⟩
 have ha6 : a < 6 := by omega
 have hr' := hr.rot ha6
 have heq : EqM d c n → EqM (C22.rot d a).1 (C22.rot c a).1 n := fun h => ⟨by rw [h.1], .inl hr'⟩
 have hidc : Idle c := by
  rcases h with h | ⟨q, A, B, scr, rd, okc, _⟩
  · rw [← h.1]; exact hr.idle
  · exact rd.idle hr.idle okc
 have he : (C22.rot d a).2 = (C22.rot c a).2 := by rw [rot_in hr.idle (by omega), rot_in hidc (by omega)]
 refine ⟨he, ?_, heq, hs⟩
 rcases h with h | ⟨q, A, B, scr, rd, _, h⟩
 · exact .inl (heq h)
 · have hA : SRest d n sl A ∧ (celAt d (2 * sl) = ⟨A, false, []⟩ ∨ celAt d (2 * sl + 1) = ⟨A, false, []⟩) := by
    rcases h with h | h
    · exact h.2
    · have := h.dead; rw [hl] at this; cases this
   have hc1 := rot_cel hr.idle (a := a) (by omega)
   have hc2 := rot_cel hidc (a := a) (by omega)
   have rd' : RD sl q A B (C22.rot d a).1 (C22.rot c a).1 := by
    refine ⟨?_, ?_, ?_, hr'.len, ?_, fun k hk => ?_⟩
    · rw [rot_in hr.idle (by omega), rot_in hidc (by omega)]; exact rd.steps
    · rw [rot_in hr.idle (by omega), rot_in hidc (by omega)]; exact rd.aft
    · rw [rot_in hr.idle (by omega), rot_in hidc (by omega)]; exact rd.dead
    · rw [rot_in hidc (by omega)]; simpa using l2
    · rw [hc1, hc2]
      split
      · exact ⟨Ra.z scr k, rfl, .inl ⟨rfl, rfl⟩⟩
      · exact rd.cel k hk
   have hSA : SRest (C22.rot d a).1 n sl A := by
    obtain ⟨g, m, r0, r1⟩ := hA.1
    refine ⟨g, m, ?_, ?_⟩
    · rw [hc1]; split
      · exact .inr rfl
      · exact r0
    · rw [hc1]; split
      · exact .inr rfl
      · exact r1
   by_cases h2 : celAt (C22.rot d a).1 (2 * sl) = ⟨A, false, []⟩ ∨ celAt (C22.rot d a).1 (2 * sl + 1) = ⟨A, false, []⟩
   · exact .inr ⟨q, A, B, scr, rd', (rot_ok okc _).1, .inl ⟨hr', hSA, h2⟩⟩
   · left
     refine ⟨?_, .inl hr'⟩
     have z0q : numAt z0 0 ≠ q := by rw [num_z0]; have := scr.pos; omega
     have z32q : numAt z0 32 ≠ q := by rw [num_z032]; have := scr.pos; omega
     have hb0 : celAt (C22.rot d a).1 (2 * sl) = ⟨z0, true, []⟩ := by
      rcases hSA.2.2.1 with e | e
      · exact absurd (.inl e) h2
      · exact e
     have hb1 : celAt (C22.rot d a).1 (2 * sl + 1) = ⟨z0, true, []⟩ := by
      rcases hSA.2.2.2 with e | e
      · exact absurd (.inr e) h2
      · exact e
     refine rd'.same ?_ ?_
     · exact (rd'.cel (2 * sl) (by omega)).none (by rw [hb0]; exact z0q) (by rw [hb0]; exact z32q) (by rw [hb0])
     · exact (rd'.cel (2 * sl + 1) (by omega)).none (by rw [hb1]; exact z0q) (by rw [hb1]; exact z32q) (by rw [hb1])
end
end C22
