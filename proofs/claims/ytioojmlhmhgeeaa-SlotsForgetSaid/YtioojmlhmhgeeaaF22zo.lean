/-
 Layer 22 (slots): the calls that a statement is given.
 Conditions: none; definitions.
-/
import Derived.Test.YtioojmlhmhgeeaaF22za
import Derived.Test.YtioojmlhmhgeeaaS22r
namespace Go.Proofs.Ytioojmlhmhgeeaa
open Go Go.E2 C22
structure Op5 where
 kind : Int
 a : Int
 b : Str
 keep : List Int
def eQ (x : Op5) : D := .agg [.int .i64 x.kind, .int .i64 x.a, .str x.b, .list (x.keep.map eI)]
attribute [go_sem] eQ
@[go_sem] theorem eQ_size (x : Op5) : sizeOk 4 (eQ x) = true := rfl
@[go_sem] theorem eQ_all (l : List Op5) : (l.map eQ).all (sizeOk 4) = true := by rw [List.all_eq_true]; intro x hx; obtain ⟨s, _, rfl⟩ := List.mem_map.1 hx; rfl
structure WfO (o : Op5) : Prop where
 a0 : -9223372036854775808 ≤ o.a
 a1 : o.a ≤ 9223372036854775807
 k : o.keep.length ≤ 9223372036854775807
end Go.Proofs.Ytioojmlhmhgeeaa
/-
 Layer 22 (slots): the twin of SlotsForget: both, alike.
 Conditions: of each contract as it says.
-/
namespace Go.Proofs.Ytioojmlhmhgeeaa
open Go Go.E2 C22
set_option linter.unusedSimpArgs false
set_option maxHeartbeats 2000000
def TwA (t p0 p1 q0 q1 : Nat) : As := CellA t [.gp p0 0, .gp p1 0, .gp q0 0, .gp q1 0]
theorem both_ok (t p0 p1 q0 q1 : Nat) (d c : Dk) (o : Op5) (b0 b1 : Str) (ho : WfO o) (hd : d.steps ≤ 800000000) (hc : c.steps ≤ 800000000)
 (h4 : o.kind = 4 → (opK d o.kind o.a o.keep b0).2 = 0 ∧ (opK c o.kind o.a o.keep b1).2 = 0) :
 CallS Try.prog f_zz2 [.gp t 0, eQ o, .agg [.str b0, .str b1]] [TwA t p0 p1 q0 q1, StA q0 p0 0 3, DiskA p0 d, StA q1 p1 0 3, DiskA p1 c] (fun r post =>
  r = .tup [.bool (decide ((opK d o.kind o.a o.keep b0).2 = (opK c o.kind o.a o.keep b1).2 ∧ (opK d o.kind o.a o.keep b0).1.steps = (opK c o.kind o.a o.keep b1).1.steps ∧ (opK d o.kind o.a o.keep b0).1.dead = (opK c o.kind o.a o.keep b1).1.dead)), .int .i64 (opK d o.kind o.a o.keep b0).2] ∧
  ∃ p0' p1' q0' q1', post = [TwA t p0' p1' q0' q1', StA q0' p0' 0 3, DiskA p0' (opK d o.kind o.a o.keep b0).1, StA q1' p1' 0 3, DiskA p1' (opK c o.kind o.a o.keep b1).1]) := by
 refine callS_of_W fol zz2_cp fun R G σ hs => ?_
 have hs : Sep (CellA t [.gp p0 0, .gp p1 0, .gp q0 0, .gp q1 0] :: StA q0 p0 0 3 :: DiskA p0 d :: StA q1 p1 0 3 :: DiskA p1 c :: R) G := hs
 have hk := opK_cases o.kind o.a o.keep
 simp -dsimp (disch := first | omega | (simp only [go_sem]; omega)) only [go_sem, seval, Nat.reduceEqDiff, Nat.reduceLeDiff]
 (repeat (first | (with_reducible first | refine W.seq ?_ | refine W.block ?_) | ((with_reducible first | refine W.reg ?_ | refine W.skip ?_ | refine W.exit ?_ | refine W.ret ?_ | refine W.ifc ?_); simp -dsimp (disch := first | omega | (simp only [go_sem]; omega)) only [go_sem, seval, Nat.reduceEqDiff, Nat.reduceLeDiff])))
 refine W.loop (fun z st => ∃ (k p0 p1 q0 q1 : Nat) (e0 e1 : Int) (d' c' : Dk) (G : Gh), k ≤ 2 ∧ z = 2 - k ∧
  (k = 0 ∧ d' = d ∧ c' = c ∧ e0 = 0 ∧ e1 = 0 ∨ k = 1 ∧ d' = (opK d o.kind o.a o.keep b0).1 ∧ c' = c ∧ e0 = (opK d o.kind o.a o.keep b0).2 ∧ e1 = 0 ∨ k = 2 ∧ d' = (opK d o.kind o.a o.keep b0).1 ∧ c' = (opK c o.kind o.a o.keep b1).1 ∧ e0 = (opK d o.kind o.a o.keep b0).2 ∧ e1 = (opK c o.kind o.a o.keep b1).2) ∧
  Sep (CellA t [.gp p0 0, .gp p1 0, .gp q0 0, .gp q1 0] :: StA q0 p0 0 3 :: DiskA p0 d' :: StA q1 p1 0 3 :: DiskA p1 c' :: R) G ∧
  st = (E [(0, .d (.gp t 0)), (4, .ptr 0 4 1 0), (5, .ptr 0 5 1 0), (8, .ptr 0 8 1 0), (10, .d (.int .i64 k))],
   HB [(4, ⟨1, some [.int .i64 o.kind, .int .i64 o.a, .str o.b, .list (o.keep.map eI)]⟩), (5, ⟨1, some [.str b0, .str b1]⟩), (8, ⟨1, some [.int .i64 e0, .int .i64 e1]⟩)], σ, G))
  ⟨_, _, st_le (by (simp -dsimp (disch := first | omega | (simp only [go_sem]; omega)) only [go_sem, seval, Nat.reduceEqDiff, Nat.reduceLeDiff] <;> ((repeat' apply And.intro) <;> first | exact VLe.refl _ | (apply vle_int; omega) | (apply vle_int; simp; done) | exact VLe.own _ _ | exact VLe.nilown _ | exact VLe.norm _))), 0, p0, p1, q0, q1, 0, 0, d, c, G, by omega, rfl, .inl ⟨rfl, rfl, rfl, rfl, rfl⟩, hs, rfl⟩ ?_
 clear hs
 rintro z st ⟨k, p0, p1, q0, q1, e0, e1, d', c', G2, hk2, rfl, hcs, hs2, rfl⟩
 rcases hcs with ⟨rfl, rfl, rfl, rfl, rfl⟩ | ⟨rfl, hd', rfl, he0, rfl⟩ | ⟨rfl, hd', hc', he0, he1⟩
 · have hA : Sep (StA q0 p0 0 3 :: DiskA p0 d' :: CellA t [.gp p0 0, .gp p1 0, .gp q0 0, .gp q1 0] :: StA q1 p1 0 3 :: DiskA p1 c' :: R) G2 := hs2.perm (by (repeat (first | exact List.Perm.refl _ | with_reducible refine sp0 ?_ | with_reducible refine sp1 ?_ | with_reducible refine sp2 ?_ | with_reducible refine sp3 ?_ | with_reducible refine sp4 ?_ | with_reducible refine sp5 ?_ | with_reducible refine sp6 ?_ | with_reducible refine sp7 ?_ | with_reducible refine sp8 ?_ | with_reducible refine sp9 ?_ | with_reducible refine sp10 ?_ | with_reducible refine sp11 ?_)))
   have hcA := hs2.get
   have hst : d'.steps ≤ 800000000 := hd
   have h4' : o.kind = 4 → (opK d' o.kind o.a o.keep b0).2 = 0 := fun h => (h4 h).1
   (repeat (first | (with_reducible first | refine W.seq ?_ | refine W.block ?_) | ((with_reducible first | refine W.reg ?_ | refine W.skip ?_ | refine W.exit ?_ | refine W.ret ?_ | refine W.ifc ?_); simp -dsimp (disch := first | omega | (simp only [go_sem]; omega)) only [go_sem, seval, Nat.reduceEqDiff, Nat.reduceLeDiff])))
   rcases hk with ⟨f4, f0, f1, f3, f5, hop⟩ | ⟨f4, f0, f1, f3, f5, hop⟩ | ⟨f4, f0, f1, f3, f5, hop⟩ | ⟨f4, f0, f1, f3, f5, hop⟩ | ⟨f4, f0, f1, f3, f5, hop⟩ | ⟨f4, f0, f1, f3, f5, hop⟩
   all_goals
    have hopA := hop d' b0
    simp -dsimp (disch := first | omega | (simp only [go_sem]; omega)) only [go_sem, seval, Nat.reduceEqDiff, Nat.reduceLeDiff, f4]
    (repeat (first | (with_reducible first | refine W.seq ?_ | refine W.block ?_) | ((with_reducible first | refine W.reg ?_ | refine W.skip ?_ | refine W.exit ?_ | refine W.ret ?_ | refine W.ifc ?_); simp -dsimp (disch := first | omega | (simp only [go_sem]; omega)) only [go_sem, seval, Nat.reduceEqDiff, Nat.reduceLeDiff, hcA, f4, f0, f1, f3, f5])))
   · have hz : (openR (crash d' o.keep) 0 3).2.2 = 0 := by
      have := h4' (of_eq_true f4)
      rw [hopA] at this
      exact this
     have hs0 : (crash d' o.keep).steps = 0 := rfl
     (refine wC_sq (Crash_ok p0 d' o.keep ho.k) (hA.swap) (by decide) ?_ ?_; (focus (simp -dsimp (disch := first | omega | (simp only [go_sem]; omega)) only [go_sem, seval, Nat.reduceEqDiff, Nat.reduceLeDiff] <;> rfl)))
     rintro _ _ G3 ⟨pN, rfl, rfl⟩ hs3'
     have hs3 : Sep (CellA t [.gp p0 0, .gp p1 0, .gp q0 0, .gp q1 0] :: DiskA pN (crash d' o.keep) :: StA q1 p1 0 3 :: DiskA p1 c' :: R) G3 := (Sep.cons hs3' fun _ h => h.tail.tail).swap
     clear hs3'
     have hc3 := hs3.get
     have hs4 := hs3.set (cs' := [.gp pN 0, .gp p1 0, .gp q0 0, .gp q1 0])
     simp -dsimp (disch := first | omega | (simp only [go_sem]; omega)) only [go_sem, seval, Nat.reduceEqDiff, Nat.reduceLeDiff, hc3]
     (repeat (first | (with_reducible first | refine W.seq ?_ | refine W.block ?_) | ((with_reducible first | refine W.reg ?_ | refine W.skip ?_ | refine W.exit ?_ | refine W.ret ?_ | refine W.ifc ?_); simp -dsimp (disch := first | omega | (simp only [go_sem]; omega)) only [go_sem, seval, Nat.reduceEqDiff, Nat.reduceLeDiff, hc3, f4, f0, f1, f3, f5])))
     (refine wC_sq (openS_ok pN (crash d' o.keep) 0 3 (by omega)) (hs4.swap) (by decide) ?_ ?_; (focus (simp -dsimp (disch := first | omega | (simp only [go_sem]; omega)) only [go_sem, seval, Nat.reduceEqDiff, Nat.reduceLeDiff] <;> rfl)))
     rintro r3 post3 G5 h3 hs5'
     obtain ⟨qN, rfl, rfl⟩ : ∃ qN, r3 = .tup [.gp qN 0, .list ((openR (crash d' o.keep) 0 3).2.1.map eI), .int .i64 0] ∧ post3 = [StA qN pN 0 3, DiskA pN (openR (crash d' o.keep) 0 3).1] := by
      rcases h3 with ⟨_, qN, h, h'⟩ | ⟨h, _⟩
      · exact ⟨qN, h, h'⟩
      · exact absurd hz h
     have hs5 : Sep (StA qN pN 0 3 :: DiskA pN (openR (crash d' o.keep) 0 3).1 :: CellA t [.gp pN 0, .gp p1 0, .gp q0 0, .gp q1 0] :: StA q1 p1 0 3 :: DiskA p1 c' :: R) G5 := hs5'
     clear hs5' h3
     have hs6 := hs5.f3
     have hc6 := hs6.get
     have hs7 := hs6.set (cs' := [.gp pN 0, .gp p1 0, .gp qN 0, .gp q1 0])
     rw [hz] at hopA
     simp -dsimp (disch := first | omega | (simp only [go_sem]; omega)) only [go_sem, seval, Nat.reduceEqDiff, Nat.reduceLeDiff, hc6]
     (repeat (first | (with_reducible first | refine W.seq ?_ | refine W.block ?_) | ((with_reducible first | refine W.reg ?_ | refine W.skip ?_ | refine W.exit ?_ | refine W.ret ?_ | refine W.ifc ?_); simp -dsimp (disch := first | omega | (simp only [go_sem]; omega)) only [go_sem, seval, Nat.reduceEqDiff, Nat.reduceLeDiff, hc6, f4, f0, f1, f3, f5])))
     refine ⟨_, _, ?_, st_le (by (simp -dsimp (disch := first | omega | (simp only [go_sem]; omega)) only [go_sem, seval, Nat.reduceEqDiff, Nat.reduceLeDiff] <;> ((repeat' apply And.intro) <;> first | exact VLe.refl _ | (apply vle_int; omega) | (apply vle_int; simp; done) | exact VLe.own _ _ | exact VLe.nilown _ | exact VLe.norm _))), 1, pN, p1, qN, q1, 0, 0, (openR (crash d' o.keep) 0 3).1, c', _, by omega, rfl, .inr (.inl ⟨rfl, by rw [hopA], rfl, by rw [hopA], rfl⟩), Sep.perm (l' := CellA t [.gp (pN) 0, .gp p1 0, .gp (qN) 0, .gp q1 0] :: StA qN pN 0 3 :: DiskA pN ((openR (crash d' o.keep) 0 3).1) :: StA q1 p1 0 3 :: DiskA p1 c' :: R) (by (repeat (first | exact List.Perm.refl _ | with_reducible refine sp0 ?_ | with_reducible refine sp1 ?_ | with_reducible refine sp2 ?_ | with_reducible refine sp3 ?_ | with_reducible refine sp4 ?_ | with_reducible refine sp5 ?_ | with_reducible refine sp6 ?_ | with_reducible refine sp7 ?_ | with_reducible refine sp8 ?_ | with_reducible refine sp9 ?_ | with_reducible refine sp10 ?_ | with_reducible refine sp11 ?_))) hs7, rfl⟩; omega
   · (refine wC_sq (put_ok q0 p0 d' 0 3 o.a b0 (by omega) (by omega) hst) (hA) (by decide) ?_ ?_; (focus (simp -dsimp (disch := first | omega | (simp only [go_sem]; omega)) only [go_sem, seval, Nat.reduceEqDiff, Nat.reduceLeDiff] <;> rfl)))
     rintro _ _ G3 ⟨rfl, rfl⟩ hs3'
     have hs3 : Sep (StA q0 p0 0 3 :: DiskA p0 (putR d' 0 3 o.a b0).1 :: CellA t [.gp p0 0, .gp p1 0, .gp q0 0, .gp q1 0] :: StA q1 p1 0 3 :: DiskA p1 c' :: R) G3 := hs3'
     simp -dsimp (disch := first | omega | (simp only [go_sem]; omega)) only [go_sem, seval, Nat.reduceEqDiff, Nat.reduceLeDiff]
     (repeat (first | (with_reducible first | refine W.seq ?_ | refine W.block ?_) | ((with_reducible first | refine W.reg ?_ | refine W.skip ?_ | refine W.exit ?_ | refine W.ret ?_ | refine W.ifc ?_); simp -dsimp (disch := first | omega | (simp only [go_sem]; omega)) only [go_sem, seval, Nat.reduceEqDiff, Nat.reduceLeDiff, f4, f0, f1, f3, f5])))
     refine ⟨_, _, ?_, st_le (by (simp -dsimp (disch := first | omega | (simp only [go_sem]; omega)) only [go_sem, seval, Nat.reduceEqDiff, Nat.reduceLeDiff] <;> ((repeat' apply And.intro) <;> first | exact VLe.refl _ | (apply vle_int; omega) | (apply vle_int; simp; done) | exact VLe.own _ _ | exact VLe.nilown _ | exact VLe.norm _))), 1, p0, p1, q0, q1, (putR d' 0 3 o.a b0).2, 0, (putR d' 0 3 o.a b0).1, c', _, by omega, rfl, .inr (.inl ⟨rfl, by rw [hopA], rfl, by rw [hopA], rfl⟩), Sep.perm (l' := CellA t [.gp (p0) 0, .gp p1 0, .gp (q0) 0, .gp q1 0] :: StA q0 p0 0 3 :: DiskA p0 ((putR d' 0 3 o.a b0).1) :: StA q1 p1 0 3 :: DiskA p1 c' :: R) (by (repeat (first | exact List.Perm.refl _ | with_reducible refine sp0 ?_ | with_reducible refine sp1 ?_ | with_reducible refine sp2 ?_ | with_reducible refine sp3 ?_ | with_reducible refine sp4 ?_ | with_reducible refine sp5 ?_ | with_reducible refine sp6 ?_ | with_reducible refine sp7 ?_ | with_reducible refine sp8 ?_ | with_reducible refine sp9 ?_ | with_reducible refine sp10 ?_ | with_reducible refine sp11 ?_))) hs3, rfl⟩; omega
   · (refine wC_sq (kill_ok q0 p0 d' 0 3 o.a (by omega) (by omega) hst) (hA) (by decide) ?_ ?_; (focus (simp -dsimp (disch := first | omega | (simp only [go_sem]; omega)) only [go_sem, seval, Nat.reduceEqDiff, Nat.reduceLeDiff] <;> rfl)))
     rintro _ _ G3 ⟨rfl, rfl⟩ hs3'
     have hs3 : Sep (StA q0 p0 0 3 :: DiskA p0 (killR d' 0 3 o.a).1 :: CellA t [.gp p0 0, .gp p1 0, .gp q0 0, .gp q1 0] :: StA q1 p1 0 3 :: DiskA p1 c' :: R) G3 := hs3'
     simp -dsimp (disch := first | omega | (simp only [go_sem]; omega)) only [go_sem, seval, Nat.reduceEqDiff, Nat.reduceLeDiff]
     (repeat (first | (with_reducible first | refine W.seq ?_ | refine W.block ?_) | ((with_reducible first | refine W.reg ?_ | refine W.skip ?_ | refine W.exit ?_ | refine W.ret ?_ | refine W.ifc ?_); simp -dsimp (disch := first | omega | (simp only [go_sem]; omega)) only [go_sem, seval, Nat.reduceEqDiff, Nat.reduceLeDiff, f4, f0, f1, f3, f5])))
     refine ⟨_, _, ?_, st_le (by (simp -dsimp (disch := first | omega | (simp only [go_sem]; omega)) only [go_sem, seval, Nat.reduceEqDiff, Nat.reduceLeDiff] <;> ((repeat' apply And.intro) <;> first | exact VLe.refl _ | (apply vle_int; omega) | (apply vle_int; simp; done) | exact VLe.own _ _ | exact VLe.nilown _ | exact VLe.norm _))), 1, p0, p1, q0, q1, (killR d' 0 3 o.a).2, 0, (killR d' 0 3 o.a).1, c', _, by omega, rfl, .inr (.inl ⟨rfl, by rw [hopA], rfl, by rw [hopA], rfl⟩), Sep.perm (l' := CellA t [.gp (p0) 0, .gp p1 0, .gp (q0) 0, .gp q1 0] :: StA q0 p0 0 3 :: DiskA p0 ((killR d' 0 3 o.a).1) :: StA q1 p1 0 3 :: DiskA p1 c' :: R) (by (repeat (first | exact List.Perm.refl _ | with_reducible refine sp0 ?_ | with_reducible refine sp1 ?_ | with_reducible refine sp2 ?_ | with_reducible refine sp3 ?_ | with_reducible refine sp4 ?_ | with_reducible refine sp5 ?_ | with_reducible refine sp6 ?_ | with_reducible refine sp7 ?_ | with_reducible refine sp8 ?_ | with_reducible refine sp9 ?_ | with_reducible refine sp10 ?_ | with_reducible refine sp11 ?_))) hs3, rfl⟩; omega
   · (refine wC_sq (Arm_ok p0 d' o.a ho.a1) (hA.swap) (by decide) ?_ ?_; (focus (simp -dsimp (disch := first | omega | (simp only [go_sem]; omega)) only [go_sem, seval, Nat.reduceEqDiff, Nat.reduceLeDiff] <;> rfl)))
     rintro _ _ G3 rfl hs3'
     have hs3 : Sep (DiskA p0 (arm d' o.a) :: StA q0 p0 0 3 :: CellA t [.gp p0 0, .gp p1 0, .gp q0 0, .gp q1 0] :: StA q1 p1 0 3 :: DiskA p1 c' :: R) G3 := hs3'
     simp -dsimp (disch := first | omega | (simp only [go_sem]; omega)) only [go_sem, seval, Nat.reduceEqDiff, Nat.reduceLeDiff]
     (repeat (first | (with_reducible first | refine W.seq ?_ | refine W.block ?_) | ((with_reducible first | refine W.reg ?_ | refine W.skip ?_ | refine W.exit ?_ | refine W.ret ?_ | refine W.ifc ?_); simp -dsimp (disch := first | omega | (simp only [go_sem]; omega)) only [go_sem, seval, Nat.reduceEqDiff, Nat.reduceLeDiff, f4, f0, f1, f3, f5])))
     refine ⟨_, _, ?_, st_le (by (simp -dsimp (disch := first | omega | (simp only [go_sem]; omega)) only [go_sem, seval, Nat.reduceEqDiff, Nat.reduceLeDiff] <;> ((repeat' apply And.intro) <;> first | exact VLe.refl _ | (apply vle_int; omega) | (apply vle_int; simp; done) | exact VLe.own _ _ | exact VLe.nilown _ | exact VLe.norm _))), 1, p0, p1, q0, q1, 0, 0, arm d' o.a, c', _, by omega, rfl, .inr (.inl ⟨rfl, by rw [hopA], rfl, by rw [hopA], rfl⟩), Sep.perm (l' := CellA t [.gp (p0) 0, .gp p1 0, .gp (q0) 0, .gp q1 0] :: StA q0 p0 0 3 :: DiskA p0 (arm d' o.a) :: StA q1 p1 0 3 :: DiskA p1 c' :: R) (by (repeat (first | exact List.Perm.refl _ | with_reducible refine sp0 ?_ | with_reducible refine sp1 ?_ | with_reducible refine sp2 ?_ | with_reducible refine sp3 ?_ | with_reducible refine sp4 ?_ | with_reducible refine sp5 ?_ | with_reducible refine sp6 ?_ | with_reducible refine sp7 ?_ | with_reducible refine sp8 ?_ | with_reducible refine sp9 ?_ | with_reducible refine sp10 ?_ | with_reducible refine sp11 ?_))) hs3, rfl⟩; omega
   · (refine wC_sq (Rot_ok p0 d' o.a) (hA.swap) (by decide) ?_ ?_; (focus (simp -dsimp (disch := first | omega | (simp only [go_sem]; omega)) only [go_sem, seval, Nat.reduceEqDiff, Nat.reduceLeDiff] <;> rfl)))
     rintro _ _ G3 ⟨rfl, rfl⟩ hs3'
     have hs3 : Sep (DiskA p0 (rot d' o.a).1 :: StA q0 p0 0 3 :: CellA t [.gp p0 0, .gp p1 0, .gp q0 0, .gp q1 0] :: StA q1 p1 0 3 :: DiskA p1 c' :: R) G3 := hs3'
     simp -dsimp (disch := first | omega | (simp only [go_sem]; omega)) only [go_sem, seval, Nat.reduceEqDiff, Nat.reduceLeDiff]
     (repeat (first | (with_reducible first | refine W.seq ?_ | refine W.block ?_) | ((with_reducible first | refine W.reg ?_ | refine W.skip ?_ | refine W.exit ?_ | refine W.ret ?_ | refine W.ifc ?_); simp -dsimp (disch := first | omega | (simp only [go_sem]; omega)) only [go_sem, seval, Nat.reduceEqDiff, Nat.reduceLeDiff, f4, f0, f1, f3, f5])))
     refine ⟨_, _, ?_, st_le (by (simp -dsimp (disch := first | omega | (simp only [go_sem]; omega)) only [go_sem, seval, Nat.reduceEqDiff, Nat.reduceLeDiff] <;> ((repeat' apply And.intro) <;> first | exact VLe.refl _ | (apply vle_int; omega) | (apply vle_int; simp; done) | exact VLe.own _ _ | exact VLe.nilown _ | exact VLe.norm _))), 1, p0, p1, q0, q1, (rot d' o.a).2, 0, (rot d' o.a).1, c', _, by omega, rfl, .inr (.inl ⟨rfl, by rw [hopA], rfl, by rw [hopA], rfl⟩), Sep.perm (l' := CellA t [.gp (p0) 0, .gp p1 0, .gp (q0) 0, .gp q1 0] :: StA q0 p0 0 3 :: DiskA p0 ((rot d' o.a).1) :: StA q1 p1 0 3 :: DiskA p1 c' :: R) (by (repeat (first | exact List.Perm.refl _ | with_reducible refine sp0 ?_ | with_reducible refine sp1 ?_ | with_reducible refine sp2 ?_ | with_reducible refine sp3 ?_ | with_reducible refine sp4 ?_ | with_reducible refine sp5 ?_ | with_reducible refine sp6 ?_ | with_reducible refine sp7 ?_ | with_reducible refine sp8 ?_ | with_reducible refine sp9 ?_ | with_reducible refine sp10 ?_ | with_reducible refine sp11 ?_))) hs3, rfl⟩; omega
   · refine ⟨_, _, ?_, st_le (by (simp -dsimp (disch := first | omega | (simp only [go_sem]; omega)) only [go_sem, seval, Nat.reduceEqDiff, Nat.reduceLeDiff] <;> ((repeat' apply And.intro) <;> first | exact VLe.refl _ | (apply vle_int; omega) | (apply vle_int; simp; done) | exact VLe.own _ _ | exact VLe.nilown _ | exact VLe.norm _))), 1, p0, p1, q0, q1, 0, 0, d', c', _, by omega, rfl, .inr (.inl ⟨rfl, by rw [hopA], rfl, by rw [hopA], rfl⟩), Sep.perm (l' := CellA t [.gp (p0) 0, .gp p1 0, .gp (q0) 0, .gp q1 0] :: StA q0 p0 0 3 :: DiskA p0 (d') :: StA q1 p1 0 3 :: DiskA p1 c' :: R) (by (repeat (first | exact List.Perm.refl _ | with_reducible refine sp0 ?_ | with_reducible refine sp1 ?_ | with_reducible refine sp2 ?_ | with_reducible refine sp3 ?_ | with_reducible refine sp4 ?_ | with_reducible refine sp5 ?_ | with_reducible refine sp6 ?_ | with_reducible refine sp7 ?_ | with_reducible refine sp8 ?_ | with_reducible refine sp9 ?_ | with_reducible refine sp10 ?_ | with_reducible refine sp11 ?_))) hA, rfl⟩; omega
 · have hA : Sep (StA q1 p1 0 3 :: DiskA p1 c' :: CellA t [.gp p0 0, .gp p1 0, .gp q0 0, .gp q1 0] :: StA q0 p0 0 3 :: DiskA p0 d' :: R) G2 := hs2.perm (by (repeat (first | exact List.Perm.refl _ | with_reducible refine sp0 ?_ | with_reducible refine sp1 ?_ | with_reducible refine sp2 ?_ | with_reducible refine sp3 ?_ | with_reducible refine sp4 ?_ | with_reducible refine sp5 ?_ | with_reducible refine sp6 ?_ | with_reducible refine sp7 ?_ | with_reducible refine sp8 ?_ | with_reducible refine sp9 ?_ | with_reducible refine sp10 ?_ | with_reducible refine sp11 ?_)))
   have hcA := hs2.get
   have hst : c'.steps ≤ 800000000 := hc
   have h4' : o.kind = 4 → (opK c' o.kind o.a o.keep b1).2 = 0 := fun h => (h4 h).2
   (repeat (first | (with_reducible first | refine W.seq ?_ | refine W.block ?_) | ((with_reducible first | refine W.reg ?_ | refine W.skip ?_ | refine W.exit ?_ | refine W.ret ?_ | refine W.ifc ?_); simp -dsimp (disch := first | omega | (simp only [go_sem]; omega)) only [go_sem, seval, Nat.reduceEqDiff, Nat.reduceLeDiff])))
   rcases hk with ⟨f4, f0, f1, f3, f5, hop⟩ | ⟨f4, f0, f1, f3, f5, hop⟩ | ⟨f4, f0, f1, f3, f5, hop⟩ | ⟨f4, f0, f1, f3, f5, hop⟩ | ⟨f4, f0, f1, f3, f5, hop⟩ | ⟨f4, f0, f1, f3, f5, hop⟩
   all_goals
    have hopA := hop c' b1
    simp -dsimp (disch := first | omega | (simp only [go_sem]; omega)) only [go_sem, seval, Nat.reduceEqDiff, Nat.reduceLeDiff, f4]
    (repeat (first | (with_reducible first | refine W.seq ?_ | refine W.block ?_) | ((with_reducible first | refine W.reg ?_ | refine W.skip ?_ | refine W.exit ?_ | refine W.ret ?_ | refine W.ifc ?_); simp -dsimp (disch := first | omega | (simp only [go_sem]; omega)) only [go_sem, seval, Nat.reduceEqDiff, Nat.reduceLeDiff, hcA, f4, f0, f1, f3, f5])))
   · have hz : (openR (crash c' o.keep) 0 3).2.2 = 0 := by
      have := h4' (of_eq_true f4)
      rw [hopA] at this
      exact this
     have hs0 : (crash c' o.keep).steps = 0 := rfl
     (refine wC_sq (Crash_ok p1 c' o.keep ho.k) (hA.swap) (by decide) ?_ ?_; (focus (simp -dsimp (disch := first | omega | (simp only [go_sem]; omega)) only [go_sem, seval, Nat.reduceEqDiff, Nat.reduceLeDiff] <;> rfl)))
     rintro _ _ G3 ⟨pN, rfl, rfl⟩ hs3'
     have hs3 : Sep (CellA t [.gp p0 0, .gp p1 0, .gp q0 0, .gp q1 0] :: DiskA pN (crash c' o.keep) :: StA q0 p0 0 3 :: DiskA p0 d' :: R) G3 := (Sep.cons hs3' fun _ h => h.tail.tail).swap
     clear hs3'
     have hc3 := hs3.get
     have hs4 := hs3.set (cs' := [.gp p0 0, .gp pN 0, .gp q0 0, .gp q1 0])
     simp -dsimp (disch := first | omega | (simp only [go_sem]; omega)) only [go_sem, seval, Nat.reduceEqDiff, Nat.reduceLeDiff, hc3]
     (repeat (first | (with_reducible first | refine W.seq ?_ | refine W.block ?_) | ((with_reducible first | refine W.reg ?_ | refine W.skip ?_ | refine W.exit ?_ | refine W.ret ?_ | refine W.ifc ?_); simp -dsimp (disch := first | omega | (simp only [go_sem]; omega)) only [go_sem, seval, Nat.reduceEqDiff, Nat.reduceLeDiff, hc3, f4, f0, f1, f3, f5])))
     (refine wC_sq (openS_ok pN (crash c' o.keep) 0 3 (by omega)) (hs4.swap) (by decide) ?_ ?_; (focus (simp -dsimp (disch := first | omega | (simp only [go_sem]; omega)) only [go_sem, seval, Nat.reduceEqDiff, Nat.reduceLeDiff] <;> rfl)))
     rintro r3 post3 G5 h3 hs5'
     obtain ⟨qN, rfl, rfl⟩ : ∃ qN, r3 = .tup [.gp qN 0, .list ((openR (crash c' o.keep) 0 3).2.1.map eI), .int .i64 0] ∧ post3 = [StA qN pN 0 3, DiskA pN (openR (crash c' o.keep) 0 3).1] := by
      rcases h3 with ⟨_, qN, h, h'⟩ | ⟨h, _⟩
      · exact ⟨qN, h, h'⟩
      · exact absurd hz h
     have hs5 : Sep (StA qN pN 0 3 :: DiskA pN (openR (crash c' o.keep) 0 3).1 :: CellA t [.gp p0 0, .gp pN 0, .gp q0 0, .gp q1 0] :: StA q0 p0 0 3 :: DiskA p0 d' :: R) G5 := hs5'
     clear hs5' h3
     have hs6 := hs5.f3
     have hc6 := hs6.get
     have hs7 := hs6.set (cs' := [.gp p0 0, .gp pN 0, .gp q0 0, .gp qN 0])
     rw [hz] at hopA
     simp -dsimp (disch := first | omega | (simp only [go_sem]; omega)) only [go_sem, seval, Nat.reduceEqDiff, Nat.reduceLeDiff, hc6]
     (repeat (first | (with_reducible first | refine W.seq ?_ | refine W.block ?_) | ((with_reducible first | refine W.reg ?_ | refine W.skip ?_ | refine W.exit ?_ | refine W.ret ?_ | refine W.ifc ?_); simp -dsimp (disch := first | omega | (simp only [go_sem]; omega)) only [go_sem, seval, Nat.reduceEqDiff, Nat.reduceLeDiff, hc6, f4, f0, f1, f3, f5])))
     refine ⟨_, _, ?_, st_le (by (simp -dsimp (disch := first | omega | (simp only [go_sem]; omega)) only [go_sem, seval, Nat.reduceEqDiff, Nat.reduceLeDiff] <;> ((repeat' apply And.intro) <;> first | exact VLe.refl _ | (apply vle_int; omega) | (apply vle_int; simp; done) | exact VLe.own _ _ | exact VLe.nilown _ | exact VLe.norm _))), 2, p0, pN, q0, qN, e0, 0, d', (openR (crash c' o.keep) 0 3).1, _, by omega, rfl, .inr (.inr ⟨rfl, hd', by rw [hopA], he0, by rw [hopA]⟩), Sep.perm (l' := CellA t [.gp p0 0, .gp (pN) 0, .gp q0 0, .gp (qN) 0] :: StA q0 p0 0 3 :: DiskA p0 d' :: StA qN pN 0 3 :: DiskA pN ((openR (crash c' o.keep) 0 3).1) :: R) (by (repeat (first | exact List.Perm.refl _ | with_reducible refine sp0 ?_ | with_reducible refine sp1 ?_ | with_reducible refine sp2 ?_ | with_reducible refine sp3 ?_ | with_reducible refine sp4 ?_ | with_reducible refine sp5 ?_ | with_reducible refine sp6 ?_ | with_reducible refine sp7 ?_ | with_reducible refine sp8 ?_ | with_reducible refine sp9 ?_ | with_reducible refine sp10 ?_ | with_reducible refine sp11 ?_))) hs7, rfl⟩; omega
   · (refine wC_sq (put_ok q1 p1 c' 0 3 o.a b1 (by omega) (by omega) hst) (hA) (by decide) ?_ ?_; (focus (simp -dsimp (disch := first | omega | (simp only [go_sem]; omega)) only [go_sem, seval, Nat.reduceEqDiff, Nat.reduceLeDiff] <;> rfl)))
     rintro _ _ G3 ⟨rfl, rfl⟩ hs3'
     have hs3 : Sep (StA q1 p1 0 3 :: DiskA p1 (putR c' 0 3 o.a b1).1 :: CellA t [.gp p0 0, .gp p1 0, .gp q0 0, .gp q1 0] :: StA q0 p0 0 3 :: DiskA p0 d' :: R) G3 := hs3'
     simp -dsimp (disch := first | omega | (simp only [go_sem]; omega)) only [go_sem, seval, Nat.reduceEqDiff, Nat.reduceLeDiff]
     (repeat (first | (with_reducible first | refine W.seq ?_ | refine W.block ?_) | ((with_reducible first | refine W.reg ?_ | refine W.skip ?_ | refine W.exit ?_ | refine W.ret ?_ | refine W.ifc ?_); simp -dsimp (disch := first | omega | (simp only [go_sem]; omega)) only [go_sem, seval, Nat.reduceEqDiff, Nat.reduceLeDiff, f4, f0, f1, f3, f5])))
     refine ⟨_, _, ?_, st_le (by (simp -dsimp (disch := first | omega | (simp only [go_sem]; omega)) only [go_sem, seval, Nat.reduceEqDiff, Nat.reduceLeDiff] <;> ((repeat' apply And.intro) <;> first | exact VLe.refl _ | (apply vle_int; omega) | (apply vle_int; simp; done) | exact VLe.own _ _ | exact VLe.nilown _ | exact VLe.norm _))), 2, p0, p1, q0, q1, e0, (putR c' 0 3 o.a b1).2, d', (putR c' 0 3 o.a b1).1, _, by omega, rfl, .inr (.inr ⟨rfl, hd', by rw [hopA], he0, by rw [hopA]⟩), Sep.perm (l' := CellA t [.gp p0 0, .gp (p1) 0, .gp q0 0, .gp (q1) 0] :: StA q0 p0 0 3 :: DiskA p0 d' :: StA q1 p1 0 3 :: DiskA p1 ((putR c' 0 3 o.a b1).1) :: R) (by (repeat (first | exact List.Perm.refl _ | with_reducible refine sp0 ?_ | with_reducible refine sp1 ?_ | with_reducible refine sp2 ?_ | with_reducible refine sp3 ?_ | with_reducible refine sp4 ?_ | with_reducible refine sp5 ?_ | with_reducible refine sp6 ?_ | with_reducible refine sp7 ?_ | with_reducible refine sp8 ?_ | with_reducible refine sp9 ?_ | with_reducible refine sp10 ?_ | with_reducible refine sp11 ?_))) hs3, rfl⟩; omega
   · (refine wC_sq (kill_ok q1 p1 c' 0 3 o.a (by omega) (by omega) hst) (hA) (by decide) ?_ ?_; (focus (simp -dsimp (disch := first | omega | (simp only [go_sem]; omega)) only [go_sem, seval, Nat.reduceEqDiff, Nat.reduceLeDiff] <;> rfl)))
     rintro _ _ G3 ⟨rfl, rfl⟩ hs3'
     have hs3 : Sep (StA q1 p1 0 3 :: DiskA p1 (killR c' 0 3 o.a).1 :: CellA t [.gp p0 0, .gp p1 0, .gp q0 0, .gp q1 0] :: StA q0 p0 0 3 :: DiskA p0 d' :: R) G3 := hs3'
     simp -dsimp (disch := first | omega | (simp only [go_sem]; omega)) only [go_sem, seval, Nat.reduceEqDiff, Nat.reduceLeDiff]
     (repeat (first | (with_reducible first | refine W.seq ?_ | refine W.block ?_) | ((with_reducible first | refine W.reg ?_ | refine W.skip ?_ | refine W.exit ?_ | refine W.ret ?_ | refine W.ifc ?_); simp -dsimp (disch := first | omega | (simp only [go_sem]; omega)) only [go_sem, seval, Nat.reduceEqDiff, Nat.reduceLeDiff, f4, f0, f1, f3, f5])))
     refine ⟨_, _, ?_, st_le (by (simp -dsimp (disch := first | omega | (simp only [go_sem]; omega)) only [go_sem, seval, Nat.reduceEqDiff, Nat.reduceLeDiff] <;> ((repeat' apply And.intro) <;> first | exact VLe.refl _ | (apply vle_int; omega) | (apply vle_int; simp; done) | exact VLe.own _ _ | exact VLe.nilown _ | exact VLe.norm _))), 2, p0, p1, q0, q1, e0, (killR c' 0 3 o.a).2, d', (killR c' 0 3 o.a).1, _, by omega, rfl, .inr (.inr ⟨rfl, hd', by rw [hopA], he0, by rw [hopA]⟩), Sep.perm (l' := CellA t [.gp p0 0, .gp (p1) 0, .gp q0 0, .gp (q1) 0] :: StA q0 p0 0 3 :: DiskA p0 d' :: StA q1 p1 0 3 :: DiskA p1 ((killR c' 0 3 o.a).1) :: R) (by (repeat (first | exact List.Perm.refl _ | with_reducible refine sp0 ?_ | with_reducible refine sp1 ?_ | with_reducible refine sp2 ?_ | with_reducible refine sp3 ?_ | with_reducible refine sp4 ?_ | with_reducible refine sp5 ?_ | with_reducible refine sp6 ?_ | with_reducible refine sp7 ?_ | with_reducible refine sp8 ?_ | with_reducible refine sp9 ?_ | with_reducible refine sp10 ?_ | with_reducible refine sp11 ?_))) hs3, rfl⟩; omega
   · (refine wC_sq (Arm_ok p1 c' o.a ho.a1) (hA.swap) (by decide) ?_ ?_; (focus (simp -dsimp (disch := first | omega | (simp only [go_sem]; omega)) only [go_sem, seval, Nat.reduceEqDiff, Nat.reduceLeDiff] <;> rfl)))
     rintro _ _ G3 rfl hs3'
     have hs3 : Sep (DiskA p1 (arm c' o.a) :: StA q1 p1 0 3 :: CellA t [.gp p0 0, .gp p1 0, .gp q0 0, .gp q1 0] :: StA q0 p0 0 3 :: DiskA p0 d' :: R) G3 := hs3'
     simp -dsimp (disch := first | omega | (simp only [go_sem]; omega)) only [go_sem, seval, Nat.reduceEqDiff, Nat.reduceLeDiff]
     (repeat (first | (with_reducible first | refine W.seq ?_ | refine W.block ?_) | ((with_reducible first | refine W.reg ?_ | refine W.skip ?_ | refine W.exit ?_ | refine W.ret ?_ | refine W.ifc ?_); simp -dsimp (disch := first | omega | (simp only [go_sem]; omega)) only [go_sem, seval, Nat.reduceEqDiff, Nat.reduceLeDiff, f4, f0, f1, f3, f5])))
     refine ⟨_, _, ?_, st_le (by (simp -dsimp (disch := first | omega | (simp only [go_sem]; omega)) only [go_sem, seval, Nat.reduceEqDiff, Nat.reduceLeDiff] <;> ((repeat' apply And.intro) <;> first | exact VLe.refl _ | (apply vle_int; omega) | (apply vle_int; simp; done) | exact VLe.own _ _ | exact VLe.nilown _ | exact VLe.norm _))), 2, p0, p1, q0, q1, e0, 0, d', arm c' o.a, _, by omega, rfl, .inr (.inr ⟨rfl, hd', by rw [hopA], he0, by rw [hopA]⟩), Sep.perm (l' := CellA t [.gp p0 0, .gp (p1) 0, .gp q0 0, .gp (q1) 0] :: StA q0 p0 0 3 :: DiskA p0 d' :: StA q1 p1 0 3 :: DiskA p1 (arm c' o.a) :: R) (by (repeat (first | exact List.Perm.refl _ | with_reducible refine sp0 ?_ | with_reducible refine sp1 ?_ | with_reducible refine sp2 ?_ | with_reducible refine sp3 ?_ | with_reducible refine sp4 ?_ | with_reducible refine sp5 ?_ | with_reducible refine sp6 ?_ | with_reducible refine sp7 ?_ | with_reducible refine sp8 ?_ | with_reducible refine sp9 ?_ | with_reducible refine sp10 ?_ | with_reducible refine sp11 ?_))) hs3, rfl⟩; omega
   · (refine wC_sq (Rot_ok p1 c' o.a) (hA.swap) (by decide) ?_ ?_; (focus (simp -dsimp (disch := first | omega | (simp only [go_sem]; omega)) only [go_sem, seval, Nat.reduceEqDiff, Nat.reduceLeDiff] <;> rfl)))
     rintro _ _ G3 ⟨rfl, rfl⟩ hs3'
     have hs3 : Sep (DiskA p1 (rot c' o.a).1 :: StA q1 p1 0 3 :: CellA t [.gp p0 0, .gp p1 0, .gp q0 0, .gp q1 0] :: StA q0 p0 0 3 :: DiskA p0 d' :: R) G3 := hs3'
     simp -dsimp (disch := first | omega | (simp only [go_sem]; omega)) only [go_sem, seval, Nat.reduceEqDiff, Nat.reduceLeDiff]
     (repeat (first | (with_reducible first | refine W.seq ?_ | refine W.block ?_) | ((with_reducible first | refine W.reg ?_ | refine W.skip ?_ | refine W.exit ?_ | refine W.ret ?_ | refine W.ifc ?_); simp -dsimp (disch := first | omega | (simp only [go_sem]; omega)) only [go_sem, seval, Nat.reduceEqDiff, Nat.reduceLeDiff, f4, f0, f1, f3, f5])))
     refine ⟨_, _, ?_, st_le (by (simp -dsimp (disch := first | omega | (simp only [go_sem]; omega)) only [go_sem, seval, Nat.reduceEqDiff, Nat.reduceLeDiff] <;> ((repeat' apply And.intro) <;> first | exact VLe.refl _ | (apply vle_int; omega) | (apply vle_int; simp; done) | exact VLe.own _ _ | exact VLe.nilown _ | exact VLe.norm _))), 2, p0, p1, q0, q1, e0, (rot c' o.a).2, d', (rot c' o.a).1, _, by omega, rfl, .inr (.inr ⟨rfl, hd', by rw [hopA], he0, by rw [hopA]⟩), Sep.perm (l' := CellA t [.gp p0 0, .gp (p1) 0, .gp q0 0, .gp (q1) 0] :: StA q0 p0 0 3 :: DiskA p0 d' :: StA q1 p1 0 3 :: DiskA p1 ((rot c' o.a).1) :: R) (by (repeat (first | exact List.Perm.refl _ | with_reducible refine sp0 ?_ | with_reducible refine sp1 ?_ | with_reducible refine sp2 ?_ | with_reducible refine sp3 ?_ | with_reducible refine sp4 ?_ | with_reducible refine sp5 ?_ | with_reducible refine sp6 ?_ | with_reducible refine sp7 ?_ | with_reducible refine sp8 ?_ | with_reducible refine sp9 ?_ | with_reducible refine sp10 ?_ | with_reducible refine sp11 ?_))) hs3, rfl⟩; omega
   · refine ⟨_, _, ?_, st_le (by (simp -dsimp (disch := first | omega | (simp only [go_sem]; omega)) only [go_sem, seval, Nat.reduceEqDiff, Nat.reduceLeDiff] <;> ((repeat' apply And.intro) <;> first | exact VLe.refl _ | (apply vle_int; omega) | (apply vle_int; simp; done) | exact VLe.own _ _ | exact VLe.nilown _ | exact VLe.norm _))), 2, p0, p1, q0, q1, e0, 0, d', c', _, by omega, rfl, .inr (.inr ⟨rfl, hd', by rw [hopA], he0, by rw [hopA]⟩), Sep.perm (l' := CellA t [.gp p0 0, .gp (p1) 0, .gp q0 0, .gp (q1) 0] :: StA q0 p0 0 3 :: DiskA p0 d' :: StA q1 p1 0 3 :: DiskA p1 (c') :: R) (by (repeat (first | exact List.Perm.refl _ | with_reducible refine sp0 ?_ | with_reducible refine sp1 ?_ | with_reducible refine sp2 ?_ | with_reducible refine sp3 ?_ | with_reducible refine sp4 ?_ | with_reducible refine sp5 ?_ | with_reducible refine sp6 ?_ | with_reducible refine sp7 ?_ | with_reducible refine sp8 ?_ | with_reducible refine sp9 ?_ | with_reducible refine sp10 ?_ | with_reducible refine sp11 ?_))) hA, rfl⟩; omega
 · have hcA := hs2.get
   have hs3 : Sep (DiskA p0 d' :: DiskA p1 c' :: CellA t [.gp p0 0, .gp p1 0, .gp q0 0, .gp q1 0] :: StA q0 p0 0 3 :: StA q1 p1 0 3 :: R) G2 := hs2.perm (by (repeat (first | exact List.Perm.refl _ | with_reducible refine sp0 ?_ | with_reducible refine sp1 ?_ | with_reducible refine sp2 ?_ | with_reducible refine sp3 ?_ | with_reducible refine sp4 ?_ | with_reducible refine sp5 ?_ | with_reducible refine sp6 ?_ | with_reducible refine sp7 ?_ | with_reducible refine sp8 ?_ | with_reducible refine sp9 ?_ | with_reducible refine sp10 ?_ | with_reducible refine sp11 ?_)))
   subst hd' hc' he0 he1
   have hq1 := (Steps_ok p0 (opK d o.kind o.a o.keep b0).1).q hs3
   have hq2 := (Steps_ok p1 (opK c o.kind o.a o.keep b1).1).q hs3.swap
   have hq3 := (Down_ok p0 (opK d o.kind o.a o.keep b0).1).q hs3
   have hq4 := (Down_ok p1 (opK c o.kind o.a o.keep b1).1).q hs3.swap
   generalize opK d o.kind o.a o.keep b0 = r0 at *
   generalize opK c o.kind o.a o.keep b1 = r1 at *
   have hs4 : Sep ([TwA t p0 p1 q0 q1, StA q0 p0 0 3, DiskA p0 r0.1, StA q1 p1 0 3, DiskA p1 r1.1] ++ R) G2 := hs2
   have fin : ∀ x : Bool, x = decide (r0.2 = r1.2 ∧ r0.1.steps = r1.1.steps ∧ r0.1.dead = r1.1.dead) → AV.tup [.bool x, .int .i64 r0.2] = .tup [.bool (decide (r0.2 = r1.2 ∧ r0.1.steps = r1.1.steps ∧ r0.1.dead = r1.1.dead)), .int .i64 r0.2] := fun x h => by rw [h]
   have b1 : ((r0.2 = r1.2) = True ∧ (r0.1.steps = r1.1.steps) = True ∧ True) ∨ ((r0.2 = r1.2) = True ∧ (r0.1.steps = r1.1.steps) = False ∧ True) ∨ ((r0.2 = r1.2) = False ∧ True = True ∧ True) := by
    by_cases a1 : r0.2 = r1.2
    · by_cases a2 : r0.1.steps = r1.1.steps
      · exact .inl ⟨eq_true a1, eq_true a2, trivial⟩
      · exact .inr (.inl ⟨eq_true a1, eq_false a2, trivial⟩)
    · exact .inr (.inr ⟨eq_false a1, rfl, trivial⟩)
   (repeat (first | (with_reducible first | refine W.seq ?_ | refine W.block ?_) | ((with_reducible first | refine W.reg ?_ | refine W.skip ?_ | refine W.exit ?_ | refine W.ret ?_ | refine W.ifc ?_); simp -dsimp (disch := first | omega | (simp only [go_sem]; omega)) only [go_sem, seval, Nat.reduceEqDiff, Nat.reduceLeDiff, hcA])))
   rcases b1 with ⟨a1, a2, -⟩ | ⟨a1, a2, -⟩ | ⟨a1, a2, -⟩
   all_goals
    simp -dsimp (disch := first | omega | (simp only [go_sem]; omega)) only [go_sem, seval, Nat.reduceEqDiff, Nat.reduceLeDiff, a1, a2]
    (repeat' (first | (with_reducible first | refine W.seq ?_ | refine W.block ?_) | ((first | (with_reducible first | refine W.reg ?_ | refine W.skip ?_ | refine W.exit ?_ | refine W.ret ?_ | refine W.ifc ?_) | (apply wC_Q (hq1); (focus (simp -dsimp (disch := first | omega | (simp only [go_sem]; omega)) only [go_sem, seval, Nat.reduceEqDiff, Nat.reduceLeDiff] <;> rfl)); rintro _ rfl) | (apply wC_Q (hq2); (focus (simp -dsimp (disch := first | omega | (simp only [go_sem]; omega)) only [go_sem, seval, Nat.reduceEqDiff, Nat.reduceLeDiff] <;> rfl)); rintro _ rfl) | (apply wC_Q (hq3); (focus (simp -dsimp (disch := first | omega | (simp only [go_sem]; omega)) only [go_sem, seval, Nat.reduceEqDiff, Nat.reduceLeDiff] <;> rfl)); rintro _ rfl) | (apply wC_Q (hq4); (focus (simp -dsimp (disch := first | omega | (simp only [go_sem]; omega)) only [go_sem, seval, Nat.reduceEqDiff, Nat.reduceLeDiff] <;> rfl)); rintro _ rfl) | ((with_reducible first | refine wG_decE (fun _ hG => ?_) (fun _ hG => ?_) | refine wG_decFE (fun _ hG => ?_) (fun _ hG => ?_)) <;> (try simp -dsimp only [hG, decide_true, decide_false, not_true_eq_false, not_false_eq_true]) <;> clear hG)) <;> (try simp -dsimp (disch := first | omega | (simp only [go_sem]; omega)) only [go_sem, seval, Nat.reduceEqDiff, Nat.reduceLeDiff, hcA, a1, a2])) | simp -dsimp (disch := first | omega | (simp only [go_sem]; omega)) only [go_sem, seval, Nat.reduceEqDiff, Nat.reduceLeDiff, hcA, a1, a2]))
   all_goals exact Fin.eq rfl ⟨rfl, _, ⟨fin _ (by
    simp only [a1, a2, true_and, false_and, and_false, decide_false]
    first
     | done
     | rfl
     | (cases r0.1.dead <;> cases r1.1.dead <;> rfl)), p0, p1, q0, q1, rfl⟩, hs4⟩
end Go.Proofs.Ytioojmlhmhgeeaa
