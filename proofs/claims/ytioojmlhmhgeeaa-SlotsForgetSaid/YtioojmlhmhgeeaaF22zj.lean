/-
 Layer 22 (slots): the twin of SlotsForget: alike.
 Conditions: of each contract as it says.
-/
import Derived.Test.YtioojmlhmhgeeaaF22zo
namespace Go.Proofs.Ytioojmlhmhgeeaa
open Go Go.E2 C22
set_option linter.unusedSimpArgs false
set_option maxHeartbeats 2000000
theorem alike_ok (t p0 p1 q0 q1 : Nat) (d : Dk) :
 CallS Try.prog f_zz1 [.gp t 0] [TwA t p0 p1 q0 q1, StA q0 p0 0 3, DiskA p0 d, StA q1 p1 0 3, DiskA p1 d] (fun r post => r = .d (.bool true) ∧ post = [TwA t p0 p1 q0 q1, StA q0 p0 0 3, DiskA p0 d, StA q1 p1 0 3, DiskA p1 d]) := by
 refine callS_of_W fol zz1_cp fun R G σ hs => ?_
 have hs : Sep (CellA t [.gp p0 0, .gp p1 0, .gp q0 0, .gp q1 0] :: StA q0 p0 0 3 :: DiskA p0 d :: StA q1 p1 0 3 :: DiskA p1 d :: R) G := hs
 have hcA := hs.get
 have hs3 : Sep (DiskA p0 d :: DiskA p1 d :: CellA t [.gp p0 0, .gp p1 0, .gp q0 0, .gp q1 0] :: StA q0 p0 0 3 :: StA q1 p1 0 3 :: R) G := hs.perm (by (repeat (first | exact List.Perm.refl _ | with_reducible refine sp0 ?_ | with_reducible refine sp1 ?_ | with_reducible refine sp2 ?_ | with_reducible refine sp3 ?_ | with_reducible refine sp4 ?_ | with_reducible refine sp5 ?_ | with_reducible refine sp6 ?_ | with_reducible refine sp7 ?_ | with_reducible refine sp8 ?_ | with_reducible refine sp9 ?_ | with_reducible refine sp10 ?_ | with_reducible refine sp11 ?_)))
 simp -dsimp (disch := first | omega | (simp only [go_sem]; omega)) only [go_sem, seval, Nat.reduceEqDiff, Nat.reduceLeDiff]
 (repeat (first | (with_reducible first | refine W.seq ?_ | refine W.block ?_) | ((with_reducible first | refine W.reg ?_ | refine W.skip ?_ | refine W.exit ?_ | refine W.ret ?_ | refine W.ifc ?_); simp -dsimp (disch := first | omega | (simp only [go_sem]; omega)) only [go_sem, seval, Nat.reduceEqDiff, Nat.reduceLeDiff])))
 refine W.loop (fun z st => ∃ (k : Nat) (b4 b6 : Blk), k ≤ 6 ∧ z = 6 - k ∧ st = (E [(0, .d (.gp t 0)), (8, .d (.int .i64 k))], HB [(4, b4), (6, b6)], σ, G))
  ⟨_, _, st_leB (by (simp -dsimp (disch := first | omega | (simp only [go_sem]; omega)) only [go_sem, seval, Nat.reduceEqDiff, Nat.reduceLeDiff] <;> ((repeat' apply And.intro) <;> first | exact VLe.refl _ | (apply vle_int; omega) | (apply vle_int; simp; done) | exact VLe.own _ _ | exact VLe.nilown _ | exact VLe.norm _))) (HB_pad [] [4, 6] rfl).symm, 0, _, _, by omega, rfl, rfl⟩ ?_
 rintro z st ⟨k, b4, b6, hk, rfl, rfl⟩
 (repeat (first | (with_reducible first | refine W.seq ?_ | refine W.block ?_) | ((with_reducible first | refine W.reg ?_ | refine W.skip ?_ | refine W.exit ?_ | refine W.ret ?_ | refine W.ifc ?_); simp -dsimp (disch := first | omega | (simp only [go_sem]; omega)) only [go_sem, seval, Nat.reduceEqDiff, Nat.reduceLeDiff])))
 refine wG_dec (fun g1 => ?_) (fun g1 => ?_)
 · have hq1 := (Read_ok p0 d k).q hs3
   have hq2 := (Read_ok p1 d k).q hs3.swap
   generalize rd d k = r at hq1 hq2
   (repeat' (first | (with_reducible first | refine W.seq ?_ | refine W.block ?_) | ((first | (with_reducible first | refine W.reg ?_ | refine W.skip ?_ | refine W.exit ?_ | refine W.ret ?_ | refine W.ifc ?_) | (apply wC_Q (hq1); (focus (simp -dsimp (disch := first | omega | (simp only [go_sem]; omega)) only [go_sem, seval, Nat.reduceEqDiff, Nat.reduceLeDiff] <;> rfl)); rintro _ rfl) | (apply wC_Q (hq2); (focus (simp -dsimp (disch := first | omega | (simp only [go_sem]; omega)) only [go_sem, seval, Nat.reduceEqDiff, Nat.reduceLeDiff] <;> rfl)); rintro _ rfl) | ((with_reducible first | refine wG_decE (fun _ hG => ?_) (fun _ hG => ?_) | refine wG_decFE (fun _ hG => ?_) (fun _ hG => ?_)) <;> (try simp -dsimp only [hG, decide_true, decide_false, not_true_eq_false, not_false_eq_true]) <;> clear hG)) <;> (try simp -dsimp (disch := first | omega | (simp only [go_sem]; omega)) only [go_sem, seval, Nat.reduceEqDiff, Nat.reduceLeDiff, hcA])) | simp -dsimp (disch := first | omega | (simp only [go_sem]; omega)) only [go_sem, seval, Nat.reduceEqDiff, Nat.reduceLeDiff, hcA]))
   refine ⟨_, _, ?_, st_le (by (simp -dsimp (disch := first | omega | (simp only [go_sem]; omega)) only [go_sem, seval, Nat.reduceEqDiff, Nat.reduceLeDiff] <;> ((repeat' apply And.intro) <;> first | exact VLe.refl _ | (apply vle_int; omega) | (apply vle_int; simp; done) | exact VLe.own _ _ | exact VLe.nilown _ | exact VLe.norm _))), k + 1, _, _, by omega, rfl, rfl⟩
   omega
 · obtain rfl : k = 6 := by omega
   (repeat (first | (with_reducible first | refine W.seq ?_ | refine W.block ?_) | ((with_reducible first | refine W.reg ?_ | refine W.skip ?_ | refine W.exit ?_ | refine W.ret ?_ | refine W.ifc ?_); simp -dsimp (disch := first | omega | (simp only [go_sem]; omega)) only [go_sem, seval, Nat.reduceEqDiff, Nat.reduceLeDiff])))
   exact Fin.eq rfl ⟨rfl, _, ⟨rfl, rfl⟩, hs⟩
theorem forget_ok (l : List Op5) (hw : ∀ o ∈ l, WfO o) (at' : Int) (h0 : 0 ≤ at') (h1 : at' < 256) (ot : Str) : CallP Try.prog f_zz0 [.list (l.map eQ), .int .u8 at', .str ot] (· = .d (.bool true)) := by
 refine CallP.of_deep (callT_of_W fol zz0_cp ?_)
 have hs : Sep ([] ++ []) noGh := trivial
 simp -dsimp (disch := first | omega | (simp only [go_sem]; omega)) only [go_sem, seval, Nat.reduceEqDiff, Nat.reduceLeDiff]
 (repeat (first | (with_reducible first | refine W.seq ?_ | refine W.block ?_) | ((with_reducible first | refine W.reg ?_ | refine W.skip ?_ | refine W.exit ?_ | refine W.ret ?_ | refine W.ifc ?_); simp -dsimp (disch := first | omega | (simp only [go_sem]; omega)) only [go_sem, seval, Nat.reduceEqDiff, Nat.reduceLeDiff])))
 (refine wC_sq (New_ok 6 (by omega) (by omega)) (hs) (by decide) ?_ ?_; (focus (simp -dsimp (disch := first | omega | (simp only [go_sem]; omega)) only [go_sem, seval, Nat.reduceEqDiff, Nat.reduceLeDiff] <;> rfl)))
 rintro _ _ G1 ⟨p0, rfl, rfl⟩ hs1'
 have hs1 : Sep (DiskA p0 (fresh 6) :: []) G1 := hs1'
 clear hs1'
 simp -dsimp (disch := first | omega | (simp only [go_sem]; omega)) only [go_sem, seval, Nat.reduceEqDiff, Nat.reduceLeDiff]
 (repeat (first | (with_reducible first | refine W.seq ?_ | refine W.block ?_) | ((with_reducible first | refine W.reg ?_ | refine W.skip ?_ | refine W.exit ?_ | refine W.ret ?_ | refine W.ifc ?_); simp -dsimp (disch := first | omega | (simp only [go_sem]; omega)) only [go_sem, seval, Nat.reduceEqDiff, Nat.reduceLeDiff])))
 (refine wC_sq (New_ok 6 (by omega) (by omega)) ((show Sep ([] ++ (DiskA p0 (fresh 6) :: [])) G1 from hs1)) (by decide) ?_ ?_; (focus (simp -dsimp (disch := first | omega | (simp only [go_sem]; omega)) only [go_sem, seval, Nat.reduceEqDiff, Nat.reduceLeDiff] <;> rfl)))
 rintro _ _ G2 ⟨p1, rfl, rfl⟩ hs2'
 have hs2 : Sep (DiskA p1 (fresh 6) :: DiskA p0 (fresh 6) :: []) G2 := hs2'
 clear hs2'
 have hh : ((((l.length : Int) = 0) = True) ∧ True = True ∧ True = True ∧ True = True ∧ True) ∨ ((((l.length : Int) = 0) = False) ∧ (30 < (l.length : Int)) = True ∧ True = True ∧ True = True ∧ True) ∨
  ((((l.length : Int) = 0) = False) ∧ (30 < (l.length : Int)) = False ∧ ((ot.length : Int) < 1) = True ∧ True = True ∧ True) ∨ ((((l.length : Int) = 0) = False) ∧ (30 < (l.length : Int)) = False ∧ ((ot.length : Int) < 1) = False ∧ (55 < (ot.length : Int)) = True ∧ True) ∨
  ((((l.length : Int) = 0) = False) ∧ (30 < (l.length : Int)) = False ∧ ((ot.length : Int) < 1) = False ∧ (55 < (ot.length : Int)) = False ∧ (1 ≤ l.length ∧ l.length ≤ 30 ∧ 1 ≤ ot.length ∧ ot.length ≤ 55)) := by
  by_cases a1 : (l.length : Int) = 0
  · exact .inl ⟨eq_true a1, rfl, rfl, rfl, trivial⟩
  by_cases a2 : 30 < (l.length : Int)
  · exact .inr (.inl ⟨eq_false a1, eq_true a2, rfl, rfl, trivial⟩)
  by_cases a3 : (ot.length : Int) < 1
  · exact .inr (.inr (.inl ⟨eq_false a1, eq_false a2, eq_true a3, rfl, trivial⟩))
  by_cases a4 : 55 < (ot.length : Int)
  · exact .inr (.inr (.inr (.inl ⟨eq_false a1, eq_false a2, eq_false a3, eq_true a4, trivial⟩)))
  · exact .inr (.inr (.inr (.inr ⟨eq_false a1, eq_false a2, eq_false a3, eq_false a4, by omega⟩)))
 simp -dsimp (disch := first | omega | (simp only [go_sem]; omega)) only [go_sem, seval, Nat.reduceEqDiff, Nat.reduceLeDiff]
 (repeat (first | (with_reducible first | refine W.seq ?_ | refine W.block ?_) | ((with_reducible first | refine W.reg ?_ | refine W.skip ?_ | refine W.exit ?_ | refine W.ret ?_ | refine W.ifc ?_); simp -dsimp (disch := first | omega | (simp only [go_sem]; omega)) only [go_sem, seval, Nat.reduceEqDiff, Nat.reduceLeDiff])))
 rcases hh with ⟨a1, a2, a3, a4, a5⟩ | ⟨a1, a2, a3, a4, a5⟩ | ⟨a1, a2, a3, a4, a5⟩ | ⟨a1, a2, a3, a4, a5⟩ | ⟨a1, a2, a3, a4, l1, l30, o1, o55⟩
 all_goals
  simp -dsimp (disch := first | omega | (simp only [go_sem]; omega)) only [go_sem, seval, Nat.reduceEqDiff, Nat.reduceLeDiff, a1, a2, a3, a4]
  (repeat (first | (with_reducible first | refine W.seq ?_ | refine W.block ?_) | ((with_reducible first | refine W.reg ?_ | refine W.skip ?_ | refine W.exit ?_ | refine W.ret ?_ | refine W.ifc ?_); simp -dsimp (disch := first | omega | (simp only [go_sem]; omega)) only [go_sem, seval, Nat.reduceEqDiff, Nat.reduceLeDiff, a1, a2, a3, a4])))
 iterate 4
  · (refine wC_sq (sanity22_ok) ((show Sep ([] ++ _) G2 from hs2)) (by decide) ?_ ?_; (focus (simp -dsimp (disch := first | omega | (simp only [go_sem]; omega)) only [go_sem, seval, Nat.reduceEqDiff, Nat.reduceLeDiff] <;> rfl)))
    rintro _ _ G3 ⟨rfl, rfl⟩ hs3
    simp -dsimp (disch := first | omega | (simp only [go_sem]; omega)) only [go_sem, seval, Nat.reduceEqDiff, Nat.reduceLeDiff]
    (repeat (first | (with_reducible first | refine W.seq ?_ | refine W.block ?_) | ((with_reducible first | refine W.reg ?_ | refine W.skip ?_ | refine W.exit ?_ | refine W.ret ?_ | refine W.ifc ?_); simp -dsimp (disch := first | omega | (simp only [go_sem]; omega)) only [go_sem, seval, Nat.reduceEqDiff, Nat.reduceLeDiff])))
    exact Fin.eq rfl ⟨rfl, _, .refl _, rfl⟩
 obtain ⟨kk, hkk⟩ : ∃ kk : Nat, kk = at'.toNat % l.length := ⟨_, rfl⟩
 have hkl : kk < l.length := by rw [hkk]; exact Nat.mod_lt _ (by omega)
 have hk : at'.tmod (l.length : Int) = (kk : Int) := by
  rw [Int.tmod_eq_emod_of_nonneg h0, hkk]
  have : at' = (at'.toNat : Int) := by omega
  rw [this, Int.natCast_emod]
  rfl
 clear hkk
 have hn : (List.map eQ l)[kk]? = some (eQ l[kk]) := by rw [List.getElem?_map, List.getElem?_eq_getElem hkl]; rfl
 have hh : ((l[kk].kind = 0) = False ∧ True = True ∧ True = True ∧ True = True ∧ True = True ∧ True) ∨ ((l[kk].kind = 0) = True ∧ ((l[kk].b.length : Int) < 1) = True ∧ True = True ∧ True = True ∧ True = True ∧ True) ∨
  ((l[kk].kind = 0) = True ∧ ((l[kk].b.length : Int) < 1) = False ∧ (55 < (l[kk].b.length : Int)) = True ∧ True = True ∧ True = True ∧ True) ∨ ((l[kk].kind = 0) = True ∧ ((l[kk].b.length : Int) < 1) = False ∧ (55 < (l[kk].b.length : Int)) = False ∧ (l[kk].a < 0) = True ∧ True = True ∧ True) ∨
  ((l[kk].kind = 0) = True ∧ ((l[kk].b.length : Int) < 1) = False ∧ (55 < (l[kk].b.length : Int)) = False ∧ (l[kk].a < 0) = False ∧ (2 < l[kk].a) = True ∧ True) ∨ ((l[kk].kind = 0) = True ∧ ((l[kk].b.length : Int) < 1) = False ∧ (55 < (l[kk].b.length : Int)) = False ∧ (l[kk].a < 0) = False ∧ (2 < l[kk].a) = False ∧ (l[kk].kind = 0 ∧ 1 ≤ l[kk].b.length ∧ l[kk].b.length ≤ 55 ∧ 0 ≤ l[kk].a ∧ l[kk].a < 3)) := by
  by_cases b1 : l[kk].kind = 0
  · by_cases b2 : (l[kk].b.length : Int) < 1
    · exact .inr (.inl ⟨eq_true b1, eq_true b2, rfl, rfl, rfl, trivial⟩)
    by_cases b3 : 55 < (l[kk].b.length : Int)
    · exact .inr (.inr (.inl ⟨eq_true b1, eq_false b2, eq_true b3, rfl, rfl, trivial⟩))
    by_cases b4 : l[kk].a < 0
    · exact .inr (.inr (.inr (.inl ⟨eq_true b1, eq_false b2, eq_false b3, eq_true b4, rfl, trivial⟩)))
    by_cases b5 : 2 < l[kk].a
    · exact .inr (.inr (.inr (.inr (.inl ⟨eq_true b1, eq_false b2, eq_false b3, eq_false b4, eq_true b5, trivial⟩))))
    · exact .inr (.inr (.inr (.inr (.inr ⟨eq_true b1, eq_false b2, eq_false b3, eq_false b4, eq_false b5, by omega⟩))))
  · exact .inl ⟨eq_false b1, rfl, rfl, rfl, rfl, trivial⟩
 simp -dsimp (disch := first | omega | (simp only [go_sem]; omega)) only [go_sem, seval, Nat.reduceEqDiff, Nat.reduceLeDiff, hk, hn]
 (repeat (first | (with_reducible first | refine W.seq ?_ | refine W.block ?_) | ((with_reducible first | refine W.reg ?_ | refine W.skip ?_ | refine W.exit ?_ | refine W.ret ?_ | refine W.ifc ?_); simp -dsimp (disch := first | omega | (simp only [go_sem]; omega)) only [go_sem, seval, Nat.reduceEqDiff, Nat.reduceLeDiff, hk, hn])))
 rcases hh with ⟨b1, b2, b3, b4, b5, b6⟩ | ⟨b1, b2, b3, b4, b5, b6⟩ | ⟨b1, b2, b3, b4, b5, b6⟩ | ⟨b1, b2, b3, b4, b5, b6⟩ | ⟨b1, b2, b3, b4, b5, b6⟩ | ⟨b1, b2, b3, b4, b5, kz, l1b, l55, ha0, ha3⟩
 all_goals
  simp -dsimp (disch := first | omega | (simp only [go_sem]; omega)) only [go_sem, seval, Nat.reduceEqDiff, Nat.reduceLeDiff, hk, hn, b1, b2, b3, b4, b5]
  (repeat (first | (with_reducible first | refine W.seq ?_ | refine W.block ?_) | ((with_reducible first | refine W.reg ?_ | refine W.skip ?_ | refine W.exit ?_ | refine W.ret ?_ | refine W.ifc ?_); simp -dsimp (disch := first | omega | (simp only [go_sem]; omega)) only [go_sem, seval, Nat.reduceEqDiff, Nat.reduceLeDiff, hk, hn, b1, b2, b3, b4, b5])))
 iterate 5
  · (refine wC_sq (sanity22_ok) ((show Sep ([] ++ _) G2 from hs2)) (by decide) ?_ ?_; (focus (simp -dsimp (disch := first | omega | (simp only [go_sem]; omega)) only [go_sem, seval, Nat.reduceEqDiff, Nat.reduceLeDiff] <;> rfl)))
    rintro _ _ G3 ⟨rfl, rfl⟩ hs3
    simp -dsimp (disch := first | omega | (simp only [go_sem]; omega)) only [go_sem, seval, Nat.reduceEqDiff, Nat.reduceLeDiff]
    (repeat (first | (with_reducible first | refine W.seq ?_ | refine W.block ?_) | ((with_reducible first | refine W.reg ?_ | refine W.skip ?_ | refine W.exit ?_ | refine W.ret ?_ | refine W.ifc ?_); simp -dsimp (disch := first | omega | (simp only [go_sem]; omega)) only [go_sem, seval, Nat.reduceEqDiff, Nat.reduceLeDiff])))
    exact Fin.eq rfl ⟨rfl, _, .refl _, rfl⟩
 refine wNew_mk fun t ht => ?_
 have hs3 : Sep (CellA t [.gp p0 0, .gp p1 0, .nilP, .nilP] :: DiskA p0 (fresh 6) :: DiskA p1 (fresh 6) :: []) _ := (Sep.new (cs := [.gp p0 0, .gp p1 0, .nilP, .nilP]) ht hs2.swap)
 generalize G2.set t (some [.gp p0 0, .gp p1 0, .nilP, .nilP]) = G3 at hs3 ⊢
 clear hs1 hs2
 simp -dsimp (disch := first | omega | (simp only [go_sem]; omega)) only [go_sem, seval, Nat.reduceEqDiff, Nat.reduceLeDiff]
 (repeat (first | (with_reducible first | refine W.seq ?_ | refine W.block ?_) | ((with_reducible first | refine W.reg ?_ | refine W.skip ?_ | refine W.exit ?_ | refine W.ret ?_ | refine W.ifc ?_); simp -dsimp (disch := first | omega | (simp only [go_sem]; omega)) only [go_sem, seval, Nat.reduceEqDiff, Nat.reduceLeDiff])))
 refine W.loop (fun z st => ∃ (i : Nat) (G : Gh), i ≤ 2 ∧ z = 2 - i ∧
  (i = 0 ∧ Sep (CellA t [.gp p0 0, .gp p1 0, .nilP, .nilP] :: DiskA p0 (fresh 6) :: DiskA p1 (fresh 6) :: []) G ∨ i = 1 ∧ (∃ q0, Sep (CellA t [.gp p0 0, .gp p1 0, .gp q0 0, .nilP] :: StA q0 p0 0 3 :: DiskA p0 (dN 9) :: DiskA p1 (fresh 6) :: []) G) ∨
    i = 2 ∧ ∃ q0 q1, Sep (CellA t [.gp p0 0, .gp p1 0, .gp q0 0, .gp q1 0] :: StA q0 p0 0 3 :: DiskA p0 (dN 9) :: StA q1 p1 0 3 :: DiskA p1 (dN 9) :: []) G) ∧
  st = (E [(0, .d (.list (l.map eQ))), (2, .d (.str ot)), (9, .d (.int .i64 kk)), (10, .d (.gp t 0)), (101, .d (.int .i64 i))], HB [], [], G))
  ⟨_, _, st_le (by (simp -dsimp (disch := first | omega | (simp only [go_sem]; omega)) only [go_sem, seval, Nat.reduceEqDiff, Nat.reduceLeDiff] <;> ((repeat' apply And.intro) <;> first | exact VLe.refl _ | (apply vle_int; omega) | (apply vle_int; simp; done) | exact VLe.own _ _ | exact VLe.nilown _ | exact VLe.norm _))), 0, G3, by omega, rfl, .inl ⟨rfl, hs3⟩, rfl⟩ ?_
 rintro z st ⟨i, G4, hi, rfl, hcs, rfl⟩
 rcases hcs with ⟨rfl, hs4⟩ | ⟨rfl, q0, hs4⟩ | ⟨rfl, q0, q1, hs4⟩
 · have hc4 := hs4.get
   (repeat (first | (with_reducible first | refine W.seq ?_ | refine W.block ?_) | ((with_reducible first | refine W.reg ?_ | refine W.skip ?_ | refine W.exit ?_ | refine W.ret ?_ | refine W.ifc ?_); simp -dsimp (disch := first | omega | (simp only [go_sem]; omega)) only [go_sem, seval, Nat.reduceEqDiff, Nat.reduceLeDiff, hc4])))
   (refine wC_sq (openS_ok p0 (fresh 6) 0 3 (by decide)) ((hs4.perm (l' := DiskA p0 (fresh 6) :: CellA t [.gp p0 0, .gp p1 0, .nilP, .nilP] :: DiskA p1 (fresh 6) :: []) (by (repeat (first | exact List.Perm.refl _ | with_reducible refine sp0 ?_ | with_reducible refine sp1 ?_ | with_reducible refine sp2 ?_ | with_reducible refine sp3 ?_ | with_reducible refine sp4 ?_ | with_reducible refine sp5 ?_ | with_reducible refine sp6 ?_ | with_reducible refine sp7 ?_ | with_reducible refine sp8 ?_ | with_reducible refine sp9 ?_ | with_reducible refine sp10 ?_ | with_reducible refine sp11 ?_))))) (by decide) ?_ ?_; (focus (simp -dsimp (disch := first | omega | (simp only [go_sem]; omega)) only [go_sem, seval, Nat.reduceEqDiff, Nat.reduceLeDiff] <;> rfl)))
   rintro r3 post3 G5 h3 hs5'
   rw [open_fresh] at h3
   obtain ⟨qN, rfl, rfl⟩ : ∃ q, r3 = .tup [.gp q 0, .list [eI 0, eI 1, eI 2], .int .i64 0] ∧ post3 = [StA q p0 0 3, DiskA p0 (dN 9)] := by
    rcases h3 with ⟨_, q, h, h'⟩ | ⟨h, _⟩
    · exact ⟨q, h, h'⟩
    · exact absurd rfl h
   have hs5 : Sep (StA qN p0 0 3 :: DiskA p0 (dN 9) :: CellA t [.gp p0 0, .gp p1 0, .nilP, .nilP] :: DiskA p1 (fresh 6) :: []) G5 := hs5'
   clear hs5' h3
   have hs6 : Sep (CellA t [.gp p0 0, .gp p1 0, .nilP, .nilP] :: StA qN p0 0 3 :: DiskA p0 (dN 9) :: DiskA p1 (fresh 6) :: []) G5 := hs5.perm (by (repeat (first | exact List.Perm.refl _ | with_reducible refine sp0 ?_ | with_reducible refine sp1 ?_ | with_reducible refine sp2 ?_ | with_reducible refine sp3 ?_ | with_reducible refine sp4 ?_ | with_reducible refine sp5 ?_ | with_reducible refine sp6 ?_ | with_reducible refine sp7 ?_ | with_reducible refine sp8 ?_ | with_reducible refine sp9 ?_ | with_reducible refine sp10 ?_ | with_reducible refine sp11 ?_)))
   have hc6 := hs6.get
   have hs7 := hs6.set (cs' := [.gp p0 0, .gp p1 0, .gp qN 0, .nilP])
   simp -dsimp (disch := first | omega | (simp only [go_sem]; omega)) only [go_sem, seval, Nat.reduceEqDiff, Nat.reduceLeDiff]
   (repeat (first | (with_reducible first | refine W.seq ?_ | refine W.block ?_) | ((with_reducible first | refine W.reg ?_ | refine W.skip ?_ | refine W.exit ?_ | refine W.ret ?_ | refine W.ifc ?_); simp -dsimp (disch := first | omega | (simp only [go_sem]; omega)) only [go_sem, seval, Nat.reduceEqDiff, Nat.reduceLeDiff, hc6])))
   refine ⟨_, _, ?_, st_le (by (simp -dsimp (disch := first | omega | (simp only [go_sem]; omega)) only [go_sem, seval, Nat.reduceEqDiff, Nat.reduceLeDiff] <;> ((repeat' apply And.intro) <;> first | exact VLe.refl _ | (apply vle_int; omega) | (apply vle_int; simp; done) | exact VLe.own _ _ | exact VLe.nilown _ | exact VLe.norm _))), 1, _, by omega, rfl, .inr (.inl ⟨rfl, qN, hs7⟩), rfl⟩
   omega
 · have hc4 := hs4.get
   (repeat (first | (with_reducible first | refine W.seq ?_ | refine W.block ?_) | ((with_reducible first | refine W.reg ?_ | refine W.skip ?_ | refine W.exit ?_ | refine W.ret ?_ | refine W.ifc ?_); simp -dsimp (disch := first | omega | (simp only [go_sem]; omega)) only [go_sem, seval, Nat.reduceEqDiff, Nat.reduceLeDiff, hc4])))
   (refine wC_sq (openS_ok p1 (fresh 6) 0 3 (by decide)) ((hs4.perm (l' := DiskA p1 (fresh 6) :: CellA t [.gp p0 0, .gp p1 0, .gp q0 0, .nilP] :: StA q0 p0 0 3 :: DiskA p0 (dN 9) :: []) (by (repeat (first | exact List.Perm.refl _ | with_reducible refine sp0 ?_ | with_reducible refine sp1 ?_ | with_reducible refine sp2 ?_ | with_reducible refine sp3 ?_ | with_reducible refine sp4 ?_ | with_reducible refine sp5 ?_ | with_reducible refine sp6 ?_ | with_reducible refine sp7 ?_ | with_reducible refine sp8 ?_ | with_reducible refine sp9 ?_ | with_reducible refine sp10 ?_ | with_reducible refine sp11 ?_))))) (by decide) ?_ ?_; (focus (simp -dsimp (disch := first | omega | (simp only [go_sem]; omega)) only [go_sem, seval, Nat.reduceEqDiff, Nat.reduceLeDiff] <;> rfl)))
   rintro r3 post3 G5 h3 hs5'
   rw [open_fresh] at h3
   obtain ⟨qN, rfl, rfl⟩ : ∃ q, r3 = .tup [.gp q 0, .list [eI 0, eI 1, eI 2], .int .i64 0] ∧ post3 = [StA q p1 0 3, DiskA p1 (dN 9)] := by
    rcases h3 with ⟨_, q, h, h'⟩ | ⟨h, _⟩
    · exact ⟨q, h, h'⟩
    · exact absurd rfl h
   have hs5 : Sep (StA qN p1 0 3 :: DiskA p1 (dN 9) :: CellA t [.gp p0 0, .gp p1 0, .gp q0 0, .nilP] :: StA q0 p0 0 3 :: DiskA p0 (dN 9) :: []) G5 := hs5'
   clear hs5' h3
   have hs6 : Sep (CellA t [.gp p0 0, .gp p1 0, .gp q0 0, .nilP] :: StA q0 p0 0 3 :: DiskA p0 (dN 9) :: StA qN p1 0 3 :: DiskA p1 (dN 9) :: []) G5 := hs5.perm (by (repeat (first | exact List.Perm.refl _ | with_reducible refine sp0 ?_ | with_reducible refine sp1 ?_ | with_reducible refine sp2 ?_ | with_reducible refine sp3 ?_ | with_reducible refine sp4 ?_ | with_reducible refine sp5 ?_ | with_reducible refine sp6 ?_ | with_reducible refine sp7 ?_ | with_reducible refine sp8 ?_ | with_reducible refine sp9 ?_ | with_reducible refine sp10 ?_ | with_reducible refine sp11 ?_)))
   have hc6 := hs6.get
   have hs7 := hs6.set (cs' := [.gp p0 0, .gp p1 0, .gp q0 0, .gp qN 0])
   simp -dsimp (disch := first | omega | (simp only [go_sem]; omega)) only [go_sem, seval, Nat.reduceEqDiff, Nat.reduceLeDiff]
   (repeat (first | (with_reducible first | refine W.seq ?_ | refine W.block ?_) | ((with_reducible first | refine W.reg ?_ | refine W.skip ?_ | refine W.exit ?_ | refine W.ret ?_ | refine W.ifc ?_); simp -dsimp (disch := first | omega | (simp only [go_sem]; omega)) only [go_sem, seval, Nat.reduceEqDiff, Nat.reduceLeDiff, hc6])))
   refine ⟨_, _, ?_, st_le (by (simp -dsimp (disch := first | omega | (simp only [go_sem]; omega)) only [go_sem, seval, Nat.reduceEqDiff, Nat.reduceLeDiff] <;> ((repeat' apply And.intro) <;> first | exact VLe.refl _ | (apply vle_int; omega) | (apply vle_int; simp; done) | exact VLe.own _ _ | exact VLe.nilown _ | exact VLe.norm _))), 2, _, by omega, rfl, .inr (.inr ⟨rfl, q0, qN, hs7⟩), rfl⟩
   omega
 · obtain ⟨sl, hsl⟩ : ∃ sl : Nat, l[kk].a = sl := ⟨l[kk].a.toNat, by omega⟩
   have hsl3 : sl < 3 := by omega
   have hE0 : EqM (dN 9) (dN 9) 1 := ⟨rfl, .inl (dN_rest (by omega) (by omega))⟩
   clear hs3
   (repeat (first | (with_reducible first | refine W.seq ?_ | refine W.block ?_) | ((with_reducible first | refine W.reg ?_ | refine W.skip ?_ | refine W.exit ?_ | refine W.ret ?_ | refine W.ifc ?_); simp -dsimp (disch := first | omega | (simp only [go_sem]; omega)) only [go_sem, seval, Nat.reduceEqDiff, Nat.reduceLeDiff])))
   refine W.loop (fun z st => ∃ (j p0 p1 q0 q1 : Nat) (d c : Dk) (ov : Bool) (b17 b18 : Blk) (G : Gh), j ≤ l.length ∧ z = l.length - j ∧ Tw sl d c (1 + j) ∧ d.steps ≤ 9 + 9 * (j : Int) ∧ (ov = true → kk < j ∧ EqM d c (1 + j)) ∧ (j ≤ kk → EqM d c (1 + j)) ∧
    Sep (TwA t p0 p1 q0 q1 :: StA q0 p0 0 3 :: DiskA p0 d :: StA q1 p1 0 3 :: DiskA p1 c :: []) G ∧
    st = (E [(0, .d (.list (l.map eQ))), (2, .d (.str ot)), (9, .d (.int .i64 kk)), (10, .d (.gp t 0)), (15, .d (.bool ov)), (128, .d (.list (l.map eQ))), (129, .d (.int .i64 l.length)), (130, .d (.int .i64 j))], HB [(17, b17), (18, b18)], [], G))
    ⟨_, _, st_leB (by (simp -dsimp (disch := first | omega | (simp only [go_sem]; omega)) only [go_sem, seval, Nat.reduceEqDiff, Nat.reduceLeDiff] <;> ((repeat' apply And.intro) <;> first | exact VLe.refl _ | (apply vle_int; omega) | (apply vle_int; simp; done) | exact VLe.own _ _ | exact VLe.nilown _ | exact VLe.norm _))) (HB_pad [] [17, 18] rfl).symm, 0, p0, p1, q0, q1, dN 9, dN 9, false, _, _, G4, by omega, rfl, .inl hE0, by decide, fun h => by (cases h), fun _ => hE0, hs4, rfl⟩ ?_
   clear hs4
   rintro z st ⟨j, p0, p1, q0, q1, d, c, ov, b17, b18, G5, hj, rfl, hT, hst, hov, hle, hs5, rfl⟩
   (repeat (first | (with_reducible first | refine W.seq ?_ | refine W.block ?_) | ((with_reducible first | refine W.reg ?_ | refine W.skip ?_ | refine W.exit ?_ | refine W.ret ?_ | refine W.ifc ?_); simp -dsimp (disch := first | omega | (simp only [go_sem]; omega)) only [go_sem, seval, Nat.reduceEqDiff, Nat.reduceLeDiff])))
   refine wG_dec (fun g1 => ?_) (fun g1 => ?_)
   · have hj' : j < l.length := by omega
     have hwo := hw l[j] (List.getElem_mem _)
     have hnj : (List.map eQ l)[j]? = some (eQ l[j]) := by rw [List.getElem?_map, List.getElem?_eq_getElem hj']; rfl
     have hs6 : Sep (CellA t [.gp p0 0, .gp p1 0, .gp q0 0, .gp q1 0] :: StA q0 p0 0 3 :: DiskA p0 d :: StA q1 p1 0 3 :: DiskA p1 c :: []) G5 := hs5
     have hc6 := hs6.get
     have hq := (Down_ok p0 d).q (hs6.perm (l' := DiskA p0 d :: CellA t [.gp p0 0, .gp p1 0, .gp q0 0, .gp q1 0] :: StA q0 p0 0 3 :: StA q1 p1 0 3 :: DiskA p1 c :: []) (by (repeat (first | exact List.Perm.refl _ | with_reducible refine sp0 ?_ | with_reducible refine sp1 ?_ | with_reducible refine sp2 ?_ | with_reducible refine sp3 ?_ | with_reducible refine sp4 ?_ | with_reducible refine sp5 ?_ | with_reducible refine sp6 ?_ | with_reducible refine sp7 ?_ | with_reducible refine sp8 ?_ | with_reducible refine sp9 ?_ | with_reducible refine sp10 ?_ | with_reducible refine sp11 ?_))))
     obtain ⟨f1, f2, f3, f4, f5, f6, f7, f8, f9⟩ := hT.facts
     (repeat (first | (with_reducible first | refine W.seq ?_ | refine W.block ?_) | ((with_reducible first | refine W.reg ?_ | refine W.skip ?_ | refine W.exit ?_ | refine W.ret ?_ | refine W.ifc ?_); simp -dsimp (disch := first | omega | (simp only [go_sem]; omega)) only [go_sem, seval, Nat.reduceEqDiff, Nat.reduceLeDiff, hnj, hc6])))
     have hdk : (d.dead = true ∧ (l[j].kind = 4) = False ∧ True) ∨ (d.dead = true ∧ (l[j].kind = 4) = True ∧ (l[j].kind = 4 ∨ d.dead = false)) ∨ (d.dead = false ∧ True = True ∧ (l[j].kind = 4 ∨ d.dead = false)) := by
      cases h : d.dead with
      | false => exact .inr (.inr ⟨rfl, rfl, .inr rfl⟩)
      | true =>
       by_cases h4 : l[j].kind = 4
       · exact .inr (.inl ⟨rfl, eq_true h4, .inl h4⟩)
       · exact .inl ⟨rfl, eq_false h4, trivial⟩
     rcases hdk with ⟨e1, e4, -⟩ | ⟨e1, e4, hlv⟩ | ⟨e1, e4, hlv⟩
     · (repeat' (first | (with_reducible first | refine W.seq ?_ | refine W.block ?_) | ((first | (with_reducible first | refine W.reg ?_ | refine W.skip ?_ | refine W.exit ?_ | refine W.ret ?_ | refine W.ifc ?_) | (apply wC_Q (hq); (focus (simp -dsimp (disch := first | omega | (simp only [go_sem]; omega)) only [go_sem, seval, Nat.reduceEqDiff, Nat.reduceLeDiff] <;> rfl)); rintro _ rfl) | ((with_reducible first | refine wG_decE (fun _ hG => ?_) (fun _ hG => ?_) | refine wG_decFE (fun _ hG => ?_) (fun _ hG => ?_)) <;> (try simp -dsimp only [hG, decide_true, decide_false, not_true_eq_false, not_false_eq_true]) <;> clear hG)) <;> (try simp -dsimp (disch := first | omega | (simp only [go_sem]; omega)) only [go_sem, seval, Nat.reduceEqDiff, Nat.reduceLeDiff, hnj, hc6, e1, e4])) | simp -dsimp (disch := first | omega | (simp only [go_sem]; omega)) only [go_sem, seval, Nat.reduceEqDiff, Nat.reduceLeDiff, hnj, hc6, e1, e4]))
       refine ⟨_, _, ?_, st_le (by (simp -dsimp (disch := first | omega | (simp only [go_sem]; omega)) only [go_sem, seval, Nat.reduceEqDiff, Nat.reduceLeDiff] <;> ((repeat' apply And.intro) <;> first | exact VLe.refl _ | (apply vle_int; omega) | (apply vle_int; simp; done) | exact VLe.own _ _ | exact VLe.nilown _ | exact VLe.norm _))), j + 1, p0, p1, q0, q1, d, c, ov, _, _, G5, by omega, rfl, hT.mono (by omega), by omega, fun h => ⟨by have := (hov h).1; omega, (hov h).2.mono (by omega)⟩, fun h => (hle (by omega)).mono (by omega), hs5, rfl⟩
       omega
     all_goals
      have hejj : (((j : Int) = (kk : Int)) = True ∧ j = kk) ∨ (((j : Int) = (kk : Int)) = False ∧ j ≠ kk) := by
       by_cases h : j = kk
       · exact .inl ⟨eq_true (by omega), h⟩
       · exact .inr ⟨eq_false (by omega), h⟩
      have h4 : ∀ b1 : Str, l[j].kind = 4 → (opK d l[j].kind l[j].a l[j].keep l[j].b).2 = 0 ∧ (opK c l[j].kind l[j].a l[j].keep b1).2 = 0 := fun b1 h => by
       obtain ⟨x1, x2, _⟩ := hT.open hsl3 (by omega) l[j].keep
       unfold opK
       rw [if_pos h, if_pos h]
       exact ⟨x1, x2⟩
      rcases hejj with ⟨ej, hejk⟩ | ⟨ej, hejk⟩
     all_goals
      (repeat' (first | (with_reducible first | refine W.seq ?_ | refine W.block ?_) | ((first | (with_reducible first | refine W.reg ?_ | refine W.skip ?_ | refine W.exit ?_ | refine W.ret ?_ | refine W.ifc ?_) | (apply wC_Q (hq); (focus (simp -dsimp (disch := first | omega | (simp only [go_sem]; omega)) only [go_sem, seval, Nat.reduceEqDiff, Nat.reduceLeDiff] <;> rfl)); rintro _ rfl) | ((with_reducible first | refine wG_decE (fun _ hG => ?_) (fun _ hG => ?_) | refine wG_decFE (fun _ hG => ?_) (fun _ hG => ?_)) <;> (try simp -dsimp only [hG, decide_true, decide_false, not_true_eq_false, not_false_eq_true]) <;> clear hG)) <;> (try simp -dsimp (disch := first | omega | (simp only [go_sem]; omega)) only [go_sem, seval, Nat.reduceEqDiff, Nat.reduceLeDiff, hnj, hc6, e1, e4, ej])) | simp -dsimp (disch := first | omega | (simp only [go_sem]; omega)) only [go_sem, seval, Nat.reduceEqDiff, Nat.reduceLeDiff, hnj, hc6, e1, e4, ej]))
     all_goals first
      | ((refine wC_sq (both_ok t p0 p1 q0 q1 d c l[j] l[j].b l[j].b hwo (by omega) (by omega) (h4 _)) (hs6) (by decide) ?_ ?_; (focus (simp -dsimp (disch := first | omega | (simp only [go_sem]; omega)) only [go_sem, seval, Nat.reduceEqDiff, Nat.reduceLeDiff] <;> rfl)))
         have hS := tw_call hT hsl3 (by omega) (by omega) (by omega) hwo.a1 hlv l[j].keep l[j].b
         have hTS := hS.1
         have hlt : j < kk → EqM (opK d l[j].kind l[j].a l[j].keep l[j].b).1 (opK c l[j].kind l[j].a l[j].keep l[j].b).1 (1 + j + 1) := fun h => hS.2.1 (hle (by omega))
         have hov2 : ov = true → EqM (opK d l[j].kind l[j].a l[j].keep l[j].b).1 (opK c l[j].kind l[j].a l[j].keep l[j].b).1 (1 + j + 1) := fun h => hS.2.1 (hov h).2
         have hsc : kk < j → l[j].kind ≤ 1 → 0 ≤ l[j].kind → l[j].a = l[kk].a → (opK d l[j].kind l[j].a l[j].keep l[j].b).2 = 0 → EqM (opK d l[j].kind l[j].a l[j].keep l[j].b).1 (opK c l[j].kind l[j].a l[j].keep l[j].b).1 (1 + j + 1) := fun _ h1 h2 h3 h5 => hS.2.2 (by omega) (by omega) h5
         obtain ⟨r1, hr1⟩ : ∃ r1, r1 = opK c l[j].kind l[j].a l[j].keep l[j].b := ⟨_, rfl⟩)
      | ((refine wC_sq (both_ok t p0 p1 q0 q1 d c l[j] l[j].b ot hwo (by omega) (by omega) (h4 _)) (hs6) (by decide) ?_ ?_; (focus (simp -dsimp (disch := first | omega | (simp only [go_sem]; omega)) only [go_sem, seval, Nat.reduceEqDiff, Nat.reduceLeDiff] <;> rfl)))
         have hTS : TwS sl d c (1 + j + 1) (opK d l[j].kind l[j].a l[j].keep l[j].b) (opK c l[j].kind l[j].a l[j].keep ot) := by
          subst hejk
          have hlive : d.dead = false := hlv.resolve_left (by omega)
          rw [kz, hsl]
          exact tw_secret (hle (by omega)) hsl3 (by omega) (by omega) hlive l[j].keep ⟨l1b, l55⟩ ⟨o1, o55⟩
         have hlt : j < kk → EqM (opK d l[j].kind l[j].a l[j].keep l[j].b).1 (opK c l[j].kind l[j].a l[j].keep ot).1 (1 + j + 1) := fun h => absurd h (by omega)
         have hov2 : ov = true → EqM (opK d l[j].kind l[j].a l[j].keep l[j].b).1 (opK c l[j].kind l[j].a l[j].keep ot).1 (1 + j + 1) := fun h => absurd (hov h).1 (by omega)
         have hsc : kk < j → l[j].kind ≤ 1 → 0 ≤ l[j].kind → l[j].a = l[kk].a → (opK d l[j].kind l[j].a l[j].keep l[j].b).2 = 0 → EqM (opK d l[j].kind l[j].a l[j].keep l[j].b).1 (opK c l[j].kind l[j].a l[j].keep ot).1 (1 + j + 1) := fun h => absurd h (by omega)
         obtain ⟨r1, hr1⟩ : ∃ r1, r1 = opK c l[j].kind l[j].a l[j].keep ot := ⟨_, rfl⟩)
     all_goals
      rintro _ _ G6 ⟨rfl, p0', p1', q0', q1', rfl⟩ hs7'
      obtain ⟨r0, hr0⟩ : ∃ r0, r0 = opK d l[j].kind l[j].a l[j].keep l[j].b := ⟨_, rfl⟩
      rw [← hr0] at hTS hlt hov2 hsc hs7' ⊢
      rw [← hr1] at hTS hlt hov2 hsc hs7' ⊢
      have hs7 : Sep (TwA t p0' p1' q0' q1' :: StA q0' p0' 0 3 :: DiskA p0' r0.1 :: StA q1' p1' 0 3 :: DiskA p1' r1.1 :: []) G6 := hs7'
      obtain ⟨-, -, -, -, fs, fd, -, -, -⟩ := hTS.tw.facts
      have hres : decide (r0.2 = r1.2 ∧ r0.1.steps = r1.1.steps ∧ r0.1.dead = r1.1.dead) = true := decide_eq_true ⟨hTS.e, fs, fd⟩
      rw [hres]
      have hst9 : r0.1.steps ≤ 9 + 9 * ((j + 1 : Nat) : Int) := by have := hTS.st; omega
      have hTw := hTS.tw
      clear hs7' hr0 hr1 hTS hres hq h4 hs6 hc6 hs5 hle
     all_goals
      have hn2 : (List.map eQ l)[kk]? = some (eQ l[kk]) := by rw [List.getElem?_map, List.getElem?_eq_getElem hkl]; rfl
      have hch : (ov = true ∧ True = True ∧ True = True ∧ True = True ∧ True = True ∧ True = True ∧ True = True ∧ (kk < j + 1 ∧ EqM r0.1 r1.1 (1 + j + 1))) ∨
       (ov = false ∧ ((kk : Int) < j) = True ∧ (l[j].kind ≤ 1) = True ∧ (0 ≤ l[j].kind) = True ∧ (l[j].a = l[kk].a) = True ∧ (r0.2 = 0) = True ∧ True = True ∧ (kk < j + 1 ∧ EqM r0.1 r1.1 (1 + j + 1))) ∨
       (ov = false ∧ ((kk : Int) < j) = False ∧ True = True ∧ True = True ∧ True = True ∧ True = True ∧ ((j : Int) < kk) = True ∧ (True ∧ EqM r0.1 r1.1 (1 + j + 1))) ∨
       (ov = false ∧ ((kk : Int) < j) = False ∧ True = True ∧ True = True ∧ True = True ∧ True = True ∧ ((j : Int) < kk) = False ∧ (True ∧ True)) ∨
       (ov = false ∧ ((kk : Int) < j) = True ∧ (l[j].kind ≤ 1) = False ∧ True = True ∧ True = True ∧ True = True ∧ ((j : Int) < kk) = False ∧ (True ∧ True)) ∨
       (ov = false ∧ ((kk : Int) < j) = True ∧ (l[j].kind ≤ 1) = True ∧ (0 ≤ l[j].kind) = False ∧ True = True ∧ True = True ∧ ((j : Int) < kk) = False ∧ (True ∧ True)) ∨
       (ov = false ∧ ((kk : Int) < j) = True ∧ (l[j].kind ≤ 1) = True ∧ (0 ≤ l[j].kind) = True ∧ (l[j].a = l[kk].a) = False ∧ True = True ∧ ((j : Int) < kk) = False ∧ (True ∧ True)) ∨
       (ov = false ∧ ((kk : Int) < j) = True ∧ (l[j].kind ≤ 1) = True ∧ (0 ≤ l[j].kind) = True ∧ (l[j].a = l[kk].a) = True ∧ (r0.2 = 0) = False ∧ ((j : Int) < kk) = False ∧ (True ∧ True)) := by
       cases hovv : ov with
       | true => exact .inl ⟨rfl, rfl, rfl, rfl, rfl, rfl, rfl, by have := (hov hovv).1; omega, hov2 hovv⟩
       | false =>
        right
        by_cases c1 : (kk : Int) < j
        · have c0 : ((j : Int) < kk) = False := eq_false (by omega)
          by_cases c2 : l[j].kind ≤ 1
          · by_cases c3 : 0 ≤ l[j].kind
            · by_cases c4 : l[j].a = l[kk].a
              · by_cases c5 : r0.2 = 0
                · exact .inl ⟨rfl, eq_true c1, eq_true c2, eq_true c3, eq_true c4, eq_true c5, rfl, by omega, hsc (by omega) c2 c3 c4 c5⟩
                · exact .inr (.inr (.inr (.inr (.inr (.inr ⟨rfl, eq_true c1, eq_true c2, eq_true c3, eq_true c4, eq_false c5, c0, trivial, trivial⟩)))))
              · exact .inr (.inr (.inr (.inr (.inr (.inl ⟨rfl, eq_true c1, eq_true c2, eq_true c3, eq_false c4, rfl, c0, trivial, trivial⟩)))))
            · exact .inr (.inr (.inr (.inr (.inl ⟨rfl, eq_true c1, eq_true c2, eq_false c3, rfl, rfl, c0, trivial, trivial⟩))))
          · exact .inr (.inr (.inr (.inl ⟨rfl, eq_true c1, eq_false c2, rfl, rfl, rfl, c0, trivial, trivial⟩)))
        · by_cases c0 : (j : Int) < kk
          · exact .inr (.inl ⟨rfl, eq_false c1, rfl, rfl, rfl, rfl, eq_true c0, trivial, hlt (by omega)⟩)
          · exact .inr (.inr (.inl ⟨rfl, eq_false c1, rfl, rfl, rfl, rfl, eq_false c0, trivial, trivial⟩))
      have hfin : ∀ {ov' : Bool}, (ov' = true → kk < j + 1 ∧ EqM r0.1 r1.1 (1 + j + 1)) → (ov' = true → kk < j + 1 ∧ EqM r0.1 r1.1 (1 + (j + 1))) ∧ (j + 1 ≤ kk → EqM r0.1 r1.1 (1 + (j + 1))) := fun h => ⟨fun e => ⟨(h e).1, (h e).2.mono (by omega)⟩, fun h => (hlt (by omega)).mono (by omega)⟩
      have hTw2 : Tw sl r0.1 r1.1 (1 + (j + 1)) := hTw.mono (by omega)
      clear hsc hov2 hov hlt hTw
      rcases hch with ⟨rfl, c1, c2, c3, c4, c5, c0, hA, hE⟩ | ⟨rfl, c1, c2, c3, c4, c5, c0, hA, hE⟩ | ⟨rfl, c1, c2, c3, c4, c5, c0, hA, hE⟩ | ⟨rfl, c1, c2, c3, c4, c5, c0, hA, hE⟩ | ⟨rfl, c1, c2, c3, c4, c5, c0, hA, hE⟩ | ⟨rfl, c1, c2, c3, c4, c5, c0, hA, hE⟩ | ⟨rfl, c1, c2, c3, c4, c5, c0, hA, hE⟩ | ⟨rfl, c1, c2, c3, c4, c5, c0, hA, hE⟩
     all_goals
      simp -dsimp (disch := first | omega | (simp only [go_sem]; omega)) only [go_sem, seval, Nat.reduceEqDiff, Nat.reduceLeDiff]
      (repeat (first | (with_reducible first | refine W.seq ?_ | refine W.block ?_) | ((with_reducible first | refine W.reg ?_ | refine W.skip ?_ | refine W.exit ?_ | refine W.ret ?_ | refine W.ifc ?_); simp -dsimp (disch := first | omega | (simp only [go_sem]; omega)) only [go_sem, seval, Nat.reduceEqDiff, Nat.reduceLeDiff, hn2, c0, c1, c2, c3, c4, c5])))
     all_goals first
      | (refine ⟨_, _, ?_, st_le (by (simp -dsimp (disch := first | omega | (simp only [go_sem]; omega)) only [go_sem, seval, Nat.reduceEqDiff, Nat.reduceLeDiff] <;> ((repeat' apply And.intro) <;> first | exact VLe.refl _ | (apply vle_int; omega) | (apply vle_int; simp; done) | exact VLe.own _ _ | exact VLe.nilown _ | exact VLe.norm _))), j + 1, p0', p1', q0', q1', r0.1, r1.1, false, _, _, G6, by omega, rfl, hTw2, hst9, (hfin (ov' := false) (fun h => by cases h)).1, (hfin (ov' := false) (fun h => by cases h)).2, hs7, rfl⟩
         omega)
      | (have hE1 := hE.1
         have hs8 : Sep ([TwA t p0' p1' q0' q1', StA q0' p0' 0 3, DiskA p0' r0.1, StA q1' p1' 0 3, DiskA p1' r0.1] ++ []) G6 := by rw [← hE1] at hs7; exact hs7
         (refine wC_sq (alike_ok t p0' p1' q0' q1' r0.1) (hs8) (by decide) ?_ ?_; (focus (simp -dsimp (disch := first | omega | (simp only [go_sem]; omega)) only [go_sem, seval, Nat.reduceEqDiff, Nat.reduceLeDiff] <;> rfl)))
         rintro _ _ G7 ⟨rfl, rfl⟩ hs9'
         have hs9 : Sep (TwA t p0' p1' q0' q1' :: StA q0' p0' 0 3 :: DiskA p0' r0.1 :: StA q1' p1' 0 3 :: DiskA p1' r1.1 :: []) G7 := by rw [← hE1]; exact hs9'
         simp -dsimp (disch := first | omega | (simp only [go_sem]; omega)) only [go_sem, seval, Nat.reduceEqDiff, Nat.reduceLeDiff]
         (repeat (first | (with_reducible first | refine W.seq ?_ | refine W.block ?_) | ((with_reducible first | refine W.reg ?_ | refine W.skip ?_ | refine W.exit ?_ | refine W.ret ?_ | refine W.ifc ?_); simp -dsimp (disch := first | omega | (simp only [go_sem]; omega)) only [go_sem, seval, Nat.reduceEqDiff, Nat.reduceLeDiff])))
         first
          | (refine ⟨_, _, ?_, st_le (by (simp -dsimp (disch := first | omega | (simp only [go_sem]; omega)) only [go_sem, seval, Nat.reduceEqDiff, Nat.reduceLeDiff] <;> ((repeat' apply And.intro) <;> first | exact VLe.refl _ | (apply vle_int; omega) | (apply vle_int; simp; done) | exact VLe.own _ _ | exact VLe.nilown _ | exact VLe.norm _))), j + 1, p0', p1', q0', q1', r0.1, r1.1, true, _, _, G7, by omega, rfl, hTw2, hst9, (hfin (ov' := true) (fun _ => ⟨hA, hE⟩)).1, (hfin (ov' := true) (fun _ => ⟨hA, hE⟩)).2, hs9, rfl⟩
             omega)
          | (refine ⟨_, _, ?_, st_le (by (simp -dsimp (disch := first | omega | (simp only [go_sem]; omega)) only [go_sem, seval, Nat.reduceEqDiff, Nat.reduceLeDiff] <;> ((repeat' apply And.intro) <;> first | exact VLe.refl _ | (apply vle_int; omega) | (apply vle_int; simp; done) | exact VLe.own _ _ | exact VLe.nilown _ | exact VLe.norm _))), j + 1, p0', p1', q0', q1', r0.1, r1.1, false, _, _, G7, by omega, rfl, hTw2, hst9, (hfin (ov' := false) (fun h => by cases h)).1, (hfin (ov' := false) (fun h => by cases h)).2, hs9, rfl⟩
             omega))
   · obtain rfl : j = l.length := by omega
     (repeat (first | (with_reducible first | refine W.seq ?_ | refine W.block ?_) | ((with_reducible first | refine W.reg ?_ | refine W.skip ?_ | refine W.exit ?_ | refine W.ret ?_ | refine W.ifc ?_); simp -dsimp (disch := first | omega | (simp only [go_sem]; omega)) only [go_sem, seval, Nat.reduceEqDiff, Nat.reduceLeDiff])))
     (refine wC_sq (sanity22_ok) ((show Sep ([] ++ _) G5 from hs5)) (by decide) ?_ ?_; (focus (simp -dsimp (disch := first | omega | (simp only [go_sem]; omega)) only [go_sem, seval, Nat.reduceEqDiff, Nat.reduceLeDiff] <;> rfl)))
     rintro _ _ G6 ⟨rfl, rfl⟩ hs6
     simp -dsimp (disch := first | omega | (simp only [go_sem]; omega)) only [go_sem, seval, Nat.reduceEqDiff, Nat.reduceLeDiff]
     (repeat (first | (with_reducible first | refine W.seq ?_ | refine W.block ?_) | ((with_reducible first | refine W.reg ?_ | refine W.skip ?_ | refine W.exit ?_ | refine W.ret ?_ | refine W.ifc ?_); simp -dsimp (disch := first | omega | (simp only [go_sem]; omega)) only [go_sem, seval, Nat.reduceEqDiff, Nat.reduceLeDiff])))
     exact Fin.eq rfl ⟨rfl, _, .refl _, rfl⟩
end Go.Proofs.Ytioojmlhmhgeeaa
