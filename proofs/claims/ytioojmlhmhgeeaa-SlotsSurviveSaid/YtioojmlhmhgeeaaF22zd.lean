/-
 Layer 22 (slots): the guard of SlotsSurvive: right, change, reopen.
 Conditions: of each contract as it says.
-/
import Derived.Test.YtioojmlhmhgeeaaF22za
import Derived.Test.YtioojmlhmhgeeaaS22r
namespace Go.Proofs.Ytioojmlhmhgeeaa
open Go Go.E2 C22
set_option linter.unusedSimpArgs false
set_option maxHeartbeats 1000000
def guC (p q : Nat) (hv : Nat → Str) (pd : Bool) (sl : Int) (nx : Str) (rt : Nat → Int) : List D :=
 [.gp p 0, .gp q 0, .str (hv 0), .str (hv 1), .str (hv 2), .bool pd, .int .i64 sl, .str nx, .int .i64 (rt 0), .int .i64 (rt 1), .int .i64 (rt 2)]
attribute [go_sem] guC
def GuA (g p q : Nat) (hv : Nat → Str) (pd : Bool) (sl : Int) (nx : Str) (rt : Nat → Int) : As := CellA g (guC p q hv pd sl nx rt)
theorem right_ok (g p q : Nat) (d : Dk) (hv : Nat → Str) (pd : Bool) (sl : Int) (nx : Str) (rt : Nat → Int) (hget : ∀ i : Nat, i < 3 → getR d 0 3 i = if hv i = [] then ([], 8) else (hv i, 0)) :
 CallS Try.prog f_quietuslaw22_guard_right [.gp g 0] [GuA g p q hv pd sl nx rt, StA q p 0 3, DiskA p d] (fun r post => r = .d (.bool true) ∧ post = [GuA g p q hv pd sl nx rt, StA q p 0 3, DiskA p d]) := by
 refine callS_of_W fol quietuslaw22_guard_right_cp fun R G σ hs => ?_
 have hs : Sep (CellA g (guC p q hv pd sl nx rt) :: StA q p 0 3 :: DiskA p d :: R) G := hs
 have hc := hs.get
 simp -dsimp (disch := first | omega | (simp only [go_sem]; omega)) only [go_sem, seval, Nat.reduceEqDiff, Nat.reduceLeDiff]
 (repeat (first | (with_reducible first | refine W.seq ?_ | refine W.block ?_) | ((with_reducible first | refine W.reg ?_ | refine W.skip ?_ | refine W.exit ?_ | refine W.ret ?_ | refine W.ifc ?_); simp -dsimp (disch := first | omega | (simp only [go_sem]; omega)) only [go_sem, seval, Nat.reduceEqDiff, Nat.reduceLeDiff, hc])))
 refine W.loop (fun z st => ∃ (i : Nat) (G : Gh), i ≤ 3 ∧ z = 3 - i ∧ Sep (CellA g (guC p q hv pd sl nx rt) :: StA q p 0 3 :: DiskA p d :: R) G ∧
  st = (E [(0, .d (.gp g 0)), (10, .d (.agg [.str (hv 0), .str (hv 1), .str (hv 2)])), (11, .d (.int .i64 i))], HB [], σ, G))
  ⟨_, _, st_le (by (simp -dsimp (disch := first | omega | (simp only [go_sem]; omega)) only [go_sem, seval, Nat.reduceEqDiff, Nat.reduceLeDiff] <;> ((repeat' apply And.intro) <;> first | exact VLe.refl _ | (apply vle_int; omega) | (apply vle_int; simp; done) | exact VLe.own _ _ | exact VLe.nilown _ | exact VLe.norm _))), 0, G, by omega, rfl, hs, rfl⟩ ?_
 rintro z st ⟨i, G2, hi, rfl, hs2, rfl⟩
 have hc2 := hs2.get
 (repeat (first | (with_reducible first | refine W.seq ?_ | refine W.block ?_) | ((with_reducible first | refine W.reg ?_ | refine W.skip ?_ | refine W.exit ?_ | refine W.ret ?_ | refine W.ifc ?_); simp -dsimp (disch := first | omega | (simp only [go_sem]; omega)) only [go_sem, seval, Nat.reduceEqDiff, Nat.reduceLeDiff])))
 refine wG_dec (fun g1 => ?_) (fun g1 => ?_)
 · have hi' : i < 3 := by omega
   have hg := hget i hi'
   have hd : (List.drop (i * 1) [D.str (hv 0), D.str (hv 1), D.str (hv 2)]).head? = some (.str (hv i)) := by
    rcases (by omega : i = 0 ∨ i = 1 ∨ i = 2) with rfl | rfl | rfl <;> rfl
   (repeat (first | (with_reducible first | refine W.seq ?_ | refine W.block ?_) | ((with_reducible first | refine W.reg ?_ | refine W.skip ?_ | refine W.exit ?_ | refine W.ret ?_ | refine W.ifc ?_); simp -dsimp (disch := first | omega | (simp only [go_sem]; omega)) only [go_sem, seval, Nat.reduceEqDiff, Nat.reduceLeDiff, hc2, hd])))
   (refine wC_sq (getS_ok q p d 0 3 i (by omega) (by omega)) (hs2.b3) (by decide) ?_ ?_; (focus (simp -dsimp (disch := first | omega | (simp only [go_sem]; omega)) only [go_sem, seval, Nat.reduceEqDiff, Nat.reduceLeDiff] <;> rfl)))
   rintro _ _ G3 ⟨rfl, rfl⟩ hs3'
   have hs3 : Sep (StA q p 0 3 :: DiskA p d :: CellA g (guC p q hv pd sl nx rt) :: R) G3 := hs3'
   clear hs3'
   rw [hg]
   have hs4 := hs3.f3
   by_cases e : hv i = []
   · rw [if_pos e]
     simp -dsimp (disch := first | omega | (simp only [go_sem]; omega)) only [go_sem, seval, Nat.reduceEqDiff, Nat.reduceLeDiff]
     (repeat' (first | (with_reducible first | refine W.seq ?_ | refine W.block ?_) | ((first | (with_reducible first | refine W.reg ?_ | refine W.skip ?_ | refine W.exit ?_ | refine W.ret ?_ | refine W.ifc ?_) | ((with_reducible first | refine wG_decE (fun _ hG => ?_) (fun _ hG => ?_) | refine wG_decFE (fun _ hG => ?_) (fun _ hG => ?_)) <;> (try simp -dsimp only [hG, decide_true, decide_false, not_true_eq_false, not_false_eq_true]) <;> clear hG)) <;> (try simp -dsimp (disch := first | omega | (simp only [go_sem]; omega)) only [go_sem, seval, Nat.reduceEqDiff, Nat.reduceLeDiff, e])) | simp -dsimp (disch := first | omega | (simp only [go_sem]; omega)) only [go_sem, seval, Nat.reduceEqDiff, Nat.reduceLeDiff, e]))
     refine ⟨_, _, ?_, st_le (by (simp -dsimp (disch := first | omega | (simp only [go_sem]; omega)) only [go_sem, seval, Nat.reduceEqDiff, Nat.reduceLeDiff] <;> ((repeat' apply And.intro) <;> first | exact VLe.refl _ | (apply vle_int; omega) | (apply vle_int; simp; done) | exact VLe.own _ _ | exact VLe.nilown _ | exact VLe.norm _))), i + 1, G3, by omega, rfl, hs4, rfl⟩
     omega
   · rw [if_neg e]
     simp -dsimp (disch := first | omega | (simp only [go_sem]; omega)) only [go_sem, seval, Nat.reduceEqDiff, Nat.reduceLeDiff]
     (repeat' (first | (with_reducible first | refine W.seq ?_ | refine W.block ?_) | ((first | (with_reducible first | refine W.reg ?_ | refine W.skip ?_ | refine W.exit ?_ | refine W.ret ?_ | refine W.ifc ?_) | ((with_reducible first | refine wG_decE (fun _ hG => ?_) (fun _ hG => ?_) | refine wG_decFE (fun _ hG => ?_) (fun _ hG => ?_)) <;> (try simp -dsimp only [hG, decide_true, decide_false, not_true_eq_false, not_false_eq_true]) <;> clear hG)) <;> (try simp -dsimp (disch := first | omega | (simp only [go_sem]; omega)) only [go_sem, seval, Nat.reduceEqDiff, Nat.reduceLeDiff, e])) | simp -dsimp (disch := first | omega | (simp only [go_sem]; omega)) only [go_sem, seval, Nat.reduceEqDiff, Nat.reduceLeDiff, e]))
     refine ⟨_, _, ?_, st_le (by (simp -dsimp (disch := first | omega | (simp only [go_sem]; omega)) only [go_sem, seval, Nat.reduceEqDiff, Nat.reduceLeDiff] <;> ((repeat' apply And.intro) <;> first | exact VLe.refl _ | (apply vle_int; omega) | (apply vle_int; simp; done) | exact VLe.own _ _ | exact VLe.nilown _ | exact VLe.norm _))), i + 1, G3, by omega, rfl, hs4, rfl⟩
     omega
 · obtain rfl : i = 3 := by omega
   (repeat (first | (with_reducible first | refine W.seq ?_ | refine W.block ?_) | ((with_reducible first | refine W.reg ?_ | refine W.skip ?_ | refine W.exit ?_ | refine W.ret ?_ | refine W.ifc ?_); simp -dsimp (disch := first | omega | (simp only [go_sem]; omega)) only [go_sem, seval, Nat.reduceEqDiff, Nat.reduceLeDiff])))
   exact Fin.eq rfl ⟨rfl, _, ⟨rfl, rfl⟩, hs2⟩
theorem gchange_ok (g p q : Nat) (d : Dk) (hv : Nat → Str) (sl : Int) (nx : Str) (rt : Nat → Int) (n : Nat) (qn : Nat → Nat) (hQ : Qui d qn hv rt n) (hn : n ≤ 1000000) (hst : d.steps ≤ 800000000) (i : Nat) (hi : i < 3) (b : Str) (hb : b.length ≤ 55) :
 CallS Try.prog f_quietuslaw22_guard_change [.gp g 0, .int .i64 i, .str b] [GuA g p q hv false sl nx rt, StA q p 0 3, DiskA p d] (fun r post => r = .d (.bool true) ∧ ∃ d' hv' pd' sl' nx' rt', post = [GuA g p q hv' pd' sl' nx' rt', StA q p 0 3, DiskA p d'] ∧ GSt d' hv' pd' sl' nx' rt' (n + 1) ∧ d'.steps ≤ d.steps + 6) := by
 refine callS_of_W fol quietuslaw22_guard_change_cp fun R G σ hs => ?_
 have hs : Sep (CellA g (guC p q hv false sl nx rt) :: StA q p 0 3 :: DiskA p d :: R) G := hs
 have hc := hs.get
 have hch := hQ.change (by omega) hst hi hb
 have fin : ∀ (r : Dk × Int), r = changeR d 0 i b → Chd d qn hv rt n i b r := fun r h => by rw [h]; exact hch
 clear hch
 by_cases e : b = []
 · subst e
   have hk : killR d 0 3 i = changeR d 0 i [] := by unfold killR; rw [if_neg (by omega)]
   have fin := fin _ hk
   simp -dsimp (disch := first | omega | (simp only [go_sem]; omega)) only [go_sem, seval, Nat.reduceEqDiff, Nat.reduceLeDiff]
   (repeat' (first | (with_reducible first | refine W.seq ?_ | refine W.block ?_) | ((first | (with_reducible first | refine W.reg ?_ | refine W.skip ?_ | refine W.exit ?_ | refine W.ret ?_ | refine W.ifc ?_) | ((with_reducible first | refine wG_decE (fun _ hG => ?_) (fun _ hG => ?_) | refine wG_decFE (fun _ hG => ?_) (fun _ hG => ?_)) <;> (try simp -dsimp only [hG, decide_true, decide_false, not_true_eq_false, not_false_eq_true]) <;> clear hG)) <;> (try simp -dsimp (disch := first | omega | (simp only [go_sem]; omega)) only [go_sem, seval, Nat.reduceEqDiff, Nat.reduceLeDiff, hc])) | simp -dsimp (disch := first | omega | (simp only [go_sem]; omega)) only [go_sem, seval, Nat.reduceEqDiff, Nat.reduceLeDiff, hc]))
   (refine wC_sq (kill_ok q p d 0 3 i (by omega) (by omega) (by omega)) (hs.b3) (by decide) ?_ ?_; (focus (simp -dsimp (disch := first | omega | (simp only [go_sem]; omega)) only [go_sem, seval, Nat.reduceEqDiff, Nat.reduceLeDiff] <;> rfl)))
   rintro _ _ G3 ⟨rfl, rfl⟩ hs3'
   obtain ⟨r, hr⟩ : ∃ r, r = killR d 0 3 i := ⟨_, rfl⟩
   rw [← hr] at fin hs3' ⊢
   obtain ⟨d2, e2⟩ := r
   have hs3 : Sep (StA q p 0 3 :: DiskA p d2 :: CellA g (guC p q hv false sl nx rt) :: R) G3 := hs3'
   clear hs3' hr hk
   have hs4 := hs3.f3
   have hc4 := hs4.get
   rcases fin with ⟨he, hdead, hpw, hst2⟩ | ⟨he, hq2, hst2⟩
   · simp only at he
     subst he
     simp only at hdead hpw hst2
     have hs5 := hs4.set (cs' := guC p q hv true i [] rt)
     simp -dsimp (disch := first | omega | (simp only [go_sem]; omega)) only [go_sem, seval, Nat.reduceEqDiff, Nat.reduceLeDiff]
     (repeat' (first | (with_reducible first | refine W.seq ?_ | refine W.block ?_) | ((first | (with_reducible first | refine W.reg ?_ | refine W.skip ?_ | refine W.exit ?_ | refine W.ret ?_ | refine W.ifc ?_) | (apply wC_Q ((Down_ok p d2).q hs5.f3); (focus (simp -dsimp (disch := first | omega | (simp only [go_sem]; omega)) only [go_sem, seval, Nat.reduceEqDiff, Nat.reduceLeDiff, hdead] <;> rfl)); rintro _ rfl; try simp -dsimp (disch := first | omega | (simp only [go_sem]; omega)) only [go_sem, seval, Nat.reduceEqDiff, Nat.reduceLeDiff, hdead]) | ((with_reducible first | refine wG_decE (fun _ hG => ?_) (fun _ hG => ?_) | refine wG_decFE (fun _ hG => ?_) (fun _ hG => ?_)) <;> (try simp -dsimp only [hG, decide_true, decide_false, not_true_eq_false, not_false_eq_true]) <;> clear hG)) <;> (try simp -dsimp (disch := first | omega | (simp only [go_sem]; omega)) only [go_sem, seval, Nat.reduceEqDiff, Nat.reduceLeDiff, hc4, hdead])) | simp -dsimp (disch := first | omega | (simp only [go_sem]; omega)) only [go_sem, seval, Nat.reduceEqDiff, Nat.reduceLeDiff, hc4, hdead]))
     exact Fin.eq rfl ⟨rfl, _, ⟨rfl, d2, hv, true, i, [], rt, rfl, .inr ⟨rfl, i, qn, rfl, hi, hb, fun j hj => by have := hQ.few j hj; omega, hdead, hpw⟩, hst2⟩, hs5⟩
   · simp only at he
     subst he
     simp only at hq2 hst2
     have hs5 := hs4.set (cs' := guC p q (updN hv i []) false sl nx (updN rt i (-1)))
     have fin : ∀ G', G' = G3.set g (some (guC p q (updN hv i []) false sl nx (updN rt i (-1)))) → Sep ([GuA g p q (updN hv i []) false sl nx (updN rt i (-1)), StA q p 0 3, DiskA p d2] ++ R) G' := fun G' h => by rw [h]; exact hs5
     rcases (by omega : i = 0 ∨ i = 1 ∨ i = 2) with rfl | rfl | rfl
     all_goals
      simp -dsimp (disch := first | omega | (simp only [go_sem]; omega)) only [go_sem, seval, Nat.reduceEqDiff, Nat.reduceLeDiff]
      (repeat' (first | (with_reducible first | refine W.seq ?_ | refine W.block ?_) | ((first | (with_reducible first | refine W.reg ?_ | refine W.skip ?_ | refine W.exit ?_ | refine W.ret ?_ | refine W.ifc ?_) | ((with_reducible first | refine wG_decE (fun _ hG => ?_) (fun _ hG => ?_) | refine wG_decFE (fun _ hG => ?_) (fun _ hG => ?_)) <;> (try simp -dsimp only [hG, decide_true, decide_false, not_true_eq_false, not_false_eq_true]) <;> clear hG)) <;> (try simp -dsimp (disch := first | omega | (simp only [go_sem]; omega)) only [go_sem, seval, Nat.reduceEqDiff, Nat.reduceLeDiff, hc4])) | simp -dsimp (disch := first | omega | (simp only [go_sem]; omega)) only [go_sem, seval, Nat.reduceEqDiff, Nat.reduceLeDiff, hc4]))
      exact Fin.eq rfl ⟨rfl, _, ⟨rfl, d2, _, false, sl, nx, _, rfl, .inl ⟨rfl, _, hq2⟩, hst2⟩, fin _ rfl⟩
 · have hb1 : 1 ≤ b.length := by rcases b with _ | ⟨x, y⟩; exact absurd rfl e; simp
   have hk : putR d 0 3 i b = changeR d 0 i b := by unfold putR; rw [if_neg (by omega)]
   have fin := fin _ hk
   simp -dsimp (disch := first | omega | (simp only [go_sem]; omega)) only [go_sem, seval, Nat.reduceEqDiff, Nat.reduceLeDiff, e]
   (repeat' (first | (with_reducible first | refine W.seq ?_ | refine W.block ?_) | ((first | (with_reducible first | refine W.reg ?_ | refine W.skip ?_ | refine W.exit ?_ | refine W.ret ?_ | refine W.ifc ?_) | ((with_reducible first | refine wG_decE (fun _ hG => ?_) (fun _ hG => ?_) | refine wG_decFE (fun _ hG => ?_) (fun _ hG => ?_)) <;> (try simp -dsimp only [hG, decide_true, decide_false, not_true_eq_false, not_false_eq_true]) <;> clear hG)) <;> (try simp -dsimp (disch := first | omega | (simp only [go_sem]; omega)) only [go_sem, seval, Nat.reduceEqDiff, Nat.reduceLeDiff, hc, e])) | simp -dsimp (disch := first | omega | (simp only [go_sem]; omega)) only [go_sem, seval, Nat.reduceEqDiff, Nat.reduceLeDiff, hc, e]))
   (refine wC_sq (put_ok q p d 0 3 i b (by omega) (by omega) (by omega)) (hs.b3) (by decide) ?_ ?_; (focus (simp -dsimp (disch := first | omega | (simp only [go_sem]; omega)) only [go_sem, seval, Nat.reduceEqDiff, Nat.reduceLeDiff] <;> rfl)))
   rintro _ _ G3 ⟨rfl, rfl⟩ hs3'
   obtain ⟨r, hr⟩ : ∃ r, r = putR d 0 3 i b := ⟨_, rfl⟩
   rw [← hr] at fin hs3' ⊢
   obtain ⟨d2, e2⟩ := r
   have hs3 : Sep (StA q p 0 3 :: DiskA p d2 :: CellA g (guC p q hv false sl nx rt) :: R) G3 := hs3'
   clear hs3' hr hk
   have hs4 := hs3.f3
   have hc4 := hs4.get
   rcases fin with ⟨he, hdead, hpw, hst2⟩ | ⟨he, hq2, hst2⟩
   · simp only at he
     subst he
     simp only at hdead hpw hst2
     have hs5 := hs4.set (cs' := guC p q hv true i b rt)
     simp -dsimp (disch := first | omega | (simp only [go_sem]; omega)) only [go_sem, seval, Nat.reduceEqDiff, Nat.reduceLeDiff]
     (repeat' (first | (with_reducible first | refine W.seq ?_ | refine W.block ?_) | ((first | (with_reducible first | refine W.reg ?_ | refine W.skip ?_ | refine W.exit ?_ | refine W.ret ?_ | refine W.ifc ?_) | (apply wC_Q ((Down_ok p d2).q hs5.f3); (focus (simp -dsimp (disch := first | omega | (simp only [go_sem]; omega)) only [go_sem, seval, Nat.reduceEqDiff, Nat.reduceLeDiff, hdead] <;> rfl)); rintro _ rfl; try simp -dsimp (disch := first | omega | (simp only [go_sem]; omega)) only [go_sem, seval, Nat.reduceEqDiff, Nat.reduceLeDiff, hdead]) | ((with_reducible first | refine wG_decE (fun _ hG => ?_) (fun _ hG => ?_) | refine wG_decFE (fun _ hG => ?_) (fun _ hG => ?_)) <;> (try simp -dsimp only [hG, decide_true, decide_false, not_true_eq_false, not_false_eq_true]) <;> clear hG)) <;> (try simp -dsimp (disch := first | omega | (simp only [go_sem]; omega)) only [go_sem, seval, Nat.reduceEqDiff, Nat.reduceLeDiff, hc4, hdead])) | simp -dsimp (disch := first | omega | (simp only [go_sem]; omega)) only [go_sem, seval, Nat.reduceEqDiff, Nat.reduceLeDiff, hc4, hdead]))
     exact Fin.eq rfl ⟨rfl, _, ⟨rfl, d2, hv, true, i, b, rt, rfl, .inr ⟨rfl, i, qn, rfl, hi, hb, fun j hj => by have := hQ.few j hj; omega, hdead, hpw⟩, hst2⟩, hs5⟩
   · simp only at he
     subst he
     simp only at hq2 hst2
     have hs5 := hs4.set (cs' := guC p q (updN hv i b) false sl nx (updN rt i (-1)))
     have fin : ∀ G', G' = G3.set g (some (guC p q (updN hv i b) false sl nx (updN rt i (-1)))) → Sep ([GuA g p q (updN hv i b) false sl nx (updN rt i (-1)), StA q p 0 3, DiskA p d2] ++ R) G' := fun G' h => by rw [h]; exact hs5
     rcases (by omega : i = 0 ∨ i = 1 ∨ i = 2) with rfl | rfl | rfl
     all_goals
      simp -dsimp (disch := first | omega | (simp only [go_sem]; omega)) only [go_sem, seval, Nat.reduceEqDiff, Nat.reduceLeDiff]
      (repeat' (first | (with_reducible first | refine W.seq ?_ | refine W.block ?_) | ((first | (with_reducible first | refine W.reg ?_ | refine W.skip ?_ | refine W.exit ?_ | refine W.ret ?_ | refine W.ifc ?_) | ((with_reducible first | refine wG_decE (fun _ hG => ?_) (fun _ hG => ?_) | refine wG_decFE (fun _ hG => ?_) (fun _ hG => ?_)) <;> (try simp -dsimp only [hG, decide_true, decide_false, not_true_eq_false, not_false_eq_true]) <;> clear hG)) <;> (try simp -dsimp (disch := first | omega | (simp only [go_sem]; omega)) only [go_sem, seval, Nat.reduceEqDiff, Nat.reduceLeDiff, hc4])) | simp -dsimp (disch := first | omega | (simp only [go_sem]; omega)) only [go_sem, seval, Nat.reduceEqDiff, Nat.reduceLeDiff, hc4]))
      exact Fin.eq rfl ⟨rfl, _, ⟨rfl, d2, _, false, sl, nx, _, rfl, .inl ⟨rfl, _, hq2⟩, hst2⟩, fin _ rfl⟩
end Go.Proofs.Ytioojmlhmhgeeaa
/-
 Layer 22 (slots): the calls that a statement is given.
 Conditions: none; definitions.
-/
namespace Go.Proofs.Ytioojmlhmhgeeaa
open Go Go.E2 C22
structure Op5 where
 kind : Int
 a : Int
 b : Str
 keep : List Int
def eQ (x : Op5) : D := .agg [.int .i64 x.kind, .int .i64 x.a, .str x.b, .list (x.keep.map eI)]
attribute [go_sem] eQ
@[go_sem] theorem eQ_size (x : Op5) : sizeOk 4 (eQ x) = true := rfl
@[go_sem] theorem eQ_all (l : List Op5) : (l.map eQ).all (sizeOk 4) = true := by rw [List.all_eq_true]; intro x hx; obtain ⟨s, _, rfl⟩ := List.mem_map.1 hx; rfl
/-- What a call holds at most. -/
structure WfO (o : Op5) : Prop where
 a0 : -9223372036854775808 ≤ o.a
 a1 : o.a ≤ 9223372036854775807
 k : o.keep.length ≤ 9223372036854775807
end Go.Proofs.Ytioojmlhmhgeeaa
/-
 Layer 22 (slots): the guard of SlotsSurvive: reopen.
 Conditions: of each contract as it says.
-/
namespace Go.Proofs.Ytioojmlhmhgeeaa
open Go Go.E2 C22
set_option linter.unusedSimpArgs false
set_option maxHeartbeats 2000000
theorem reopen_ok (g p q : Nat) (d : Dk) (hv : Nat → Str) (pd : Bool) (sl : Int) (nx : Str) (rt : Nat → Int) (n : Nat) (hG : GSt d hv pd sl nx rt n) (hn : n ≤ 1000000) (hst : d.steps ≤ 800000000) (o : Op5) (hk : o.keep.length ≤ 9223372036854775807) (ha : o.a ≤ 9223372036854775807) :
 CallS Try.prog f_quietuslaw22_guard_reopen [.gp g 0, eQ o] [GuA g p q hv pd sl nx rt, StA q p 0 3, DiskA p d] (fun r post => r = .d (.bool true) ∧ ∃ p' q' d' hv' sl' nx' q2, post = [GuA g p' q' hv' false sl' nx' (fun _ => -1), StA q' p' 0 3, DiskA p' d'] ∧ Qui d' q2 hv' (fun _ => -1) n ∧ d'.steps ≤ 6) := by
 refine callS_of_W fol quietuslaw22_guard_reopen_cp fun R G σ hs => ?_
 have hs : Sep (CellA g (guC p q hv pd sl nx rt) :: StA q p 0 3 :: DiskA p d :: R) G := hs
 have hc := hs.get
 obtain ⟨hokd, hO1, hO2⟩ := hG.open (by omega) o.keep ha
 have hs0 : (crash d o.keep).steps = 0 := rfl
 have hsa0 : (arm (crash d o.keep) o.a).steps = 0 := rfl
 simp -dsimp (disch := first | omega | (simp only [go_sem]; omega)) only [go_sem, seval, Nat.reduceEqDiff, Nat.reduceLeDiff]
 (repeat' (first | (with_reducible first | refine W.seq ?_ | refine W.block ?_) | ((first | (with_reducible first | refine W.reg ?_ | refine W.skip ?_ | refine W.exit ?_ | refine W.ret ?_ | refine W.ifc ?_) | ((with_reducible first | refine wG_decE (fun _ hG => ?_) (fun _ hG => ?_) | refine wG_decFE (fun _ hG => ?_) (fun _ hG => ?_)) <;> (try simp -dsimp only [hG, decide_true, decide_false, not_true_eq_false, not_false_eq_true]) <;> clear hG)) <;> (try simp -dsimp (disch := first | omega | (simp only [go_sem]; omega)) only [go_sem, seval, Nat.reduceEqDiff, Nat.reduceLeDiff, hc])) | simp -dsimp (disch := first | omega | (simp only [go_sem]; omega)) only [go_sem, seval, Nat.reduceEqDiff, Nat.reduceLeDiff, hc]))
 (refine wC_sq (Crash_ok p d o.keep hk) (hs.f3) (by decide) ?_ ?_; (focus (simp -dsimp (disch := first | omega | (simp only [go_sem]; omega)) only [go_sem, seval, Nat.reduceEqDiff, Nat.reduceLeDiff] <;> rfl)))
 rintro _ _ G2 ⟨pX, rfl, rfl⟩ hs2'
 have hs2 : Sep (DiskA pX (crash d o.keep) :: DiskA p d :: CellA g (guC p q hv pd sl nx rt) :: StA q p 0 3 :: R) G2 := hs2'
 clear hs2'
 have hs3 : Sep (CellA g (guC p q hv pd sl nx rt) :: DiskA pX (crash d o.keep) :: R) G2 := (hs2.f3.cons fun _ h => h.cons fun _ h => h.tail.tail)
 have hc3 := hs3.get
 have hs4 := hs3.set (cs' := guC pX q hv pd sl nx rt)
 have hc4 := hs4.get
 simp -dsimp (disch := first | omega | (simp only [go_sem]; omega)) only [go_sem, seval, Nat.reduceEqDiff, Nat.reduceLeDiff, hc3]
 (repeat (first | (with_reducible first | refine W.seq ?_ | refine W.block ?_) | ((with_reducible first | refine W.reg ?_ | refine W.skip ?_ | refine W.exit ?_ | refine W.ret ?_ | refine W.ifc ?_); simp -dsimp (disch := first | omega | (simp only [go_sem]; omega)) only [go_sem, seval, Nat.reduceEqDiff, Nat.reduceLeDiff, hc3])))
 have heq4 : G2.set g (some (guC pX q hv pd sl nx rt)) = G2.set g (some [.gp pX 0, .gp q 0, .str (hv 0), .str (hv 1), .str (hv 2), .bool pd, .int .i64 sl, .str nx, .int .i64 (rt 0), .int .i64 (rt 1), .int .i64 (rt 2)]) := rfl
 rw [← heq4]
 clear hs hc hs2 hs3 hc3 heq4
 generalize G2.set g (some (guC pX q hv pd sl nx rt)) = G4 at *
 refine wG_dec (fun gA => ?aa) (fun gA => ?ab)
 case' aa =>
  (repeat (first | (with_reducible first | refine W.seq ?_ | refine W.block ?_) | ((with_reducible first | refine W.reg ?_ | refine W.skip ?_ | refine W.exit ?_ | refine W.ret ?_ | refine W.ifc ?_); simp -dsimp (disch := first | omega | (simp only [go_sem]; omega)) only [go_sem, seval, Nat.reduceEqDiff, Nat.reduceLeDiff, hc4])))
  (refine wC_sq (Arm_ok pX (crash d o.keep) o.a ha) (hs4.swap) (by decide) ?_ ?_; (focus (simp -dsimp (disch := first | omega | (simp only [go_sem]; omega)) only [go_sem, seval, Nat.reduceEqDiff, Nat.reduceLeDiff] <;> rfl)))
  rintro _ _ G4' rfl hs4'
  have hs4a : Sep (DiskA pX (arm (crash d o.keep) o.a) :: CellA g (guC pX q hv pd sl nx rt) :: R) G4' := hs4'
  clear hs4' hs4 hc4
  have hc4a := hs4a.swap.get
  have gA' : (0 ≤ o.a) = True := eq_true gA
  simp -dsimp (disch := first | omega | (simp only [go_sem]; omega)) only [go_sem, seval, Nat.reduceEqDiff, Nat.reduceLeDiff]
  (repeat' (first | (with_reducible first | refine W.seq ?_ | refine W.block ?_) | ((first | (with_reducible first | refine W.reg ?_ | refine W.skip ?_ | refine W.exit ?_ | refine W.ret ?_ | refine W.ifc ?_) | ((with_reducible first | refine wG_decE (fun _ hG => ?_) (fun _ hG => ?_) | refine wG_decFE (fun _ hG => ?_) (fun _ hG => ?_)) <;> (try simp -dsimp only [hG, decide_true, decide_false, not_true_eq_false, not_false_eq_true]) <;> clear hG)) <;> (try simp -dsimp (disch := first | omega | (simp only [go_sem]; omega)) only [go_sem, seval, Nat.reduceEqDiff, Nat.reduceLeDiff, hc4a])) | simp -dsimp (disch := first | omega | (simp only [go_sem]; omega)) only [go_sem, seval, Nat.reduceEqDiff, Nat.reduceLeDiff, hc4a]))
  refine hO2.elim (fun hre => ?ac) (fun hh => ?ad)
  case' ac =>
   (refine wC_sq (openS_ok _ (arm (crash d o.keep) o.a) 0 3 (by omega)) (hs4a) (by decide) ?_ ?_; (focus (simp -dsimp (disch := first | omega | (simp only [go_sem]; omega)) only [go_sem, seval, Nat.reduceEqDiff, Nat.reduceLeDiff] <;> rfl)))
   rintro r3 post3 G5 h3 hs5'
   obtain ⟨q5, rfl, rfl⟩ : ∃ q5, r3 = .tup [.gp q5 0, .list [], .int .i64 0] ∧ post3 = [StA q5 pX 0 3, DiskA pX (openR (arm (crash d o.keep) o.a) 0 3).1] := by
    rcases h3 with ⟨_, q5, h, h'⟩ | ⟨h, _⟩
    · exact ⟨q5, by rw [h, hre.lost]; rfl, h'⟩
    · exact absurd hre.e h
   have hs5 : Sep (StA q5 pX 0 3 :: DiskA pX (openR (arm (crash d o.keep) o.a) 0 3).1 :: CellA g (guC pX q hv pd sl nx rt) :: R) G5 := hs5'
   clear hs5' h3
   have hs6 := hs5.f3
   have hst6 : (arm (openR (arm (crash d o.keep) o.a) 0 3).1 (-1)).steps ≤ 6 := hre.st
   obtain ⟨q2, hv2, hQ, hv2h⟩ := hre.qui
   clear hre
   generalize (openR (arm (crash d o.keep) o.a) 0 3).1 = dX at *
  case' ad =>
   obtain ⟨pY, hpY⟩ : ∃ y, y = pX := ⟨_, rfl⟩
   subst hpY
   obtain ⟨he12, hok5, hst5, hre⟩ := hh
   (refine wC_sq (openS_ok pY (arm (crash d o.keep) o.a) 0 3 (by omega)) (hs4a) (by decide) ?_ ?_; (focus (simp -dsimp (disch := first | omega | (simp only [go_sem]; omega)) only [go_sem, seval, Nat.reduceEqDiff, Nat.reduceLeDiff] <;> rfl)))
   rintro r3 post3 G5 h3 hs5'
   obtain ⟨rfl, rfl⟩ : r3 = .tup [.nilP, .nilS, .int .i64 12] ∧ post3 = [DiskA pY (openR (arm (crash d o.keep) o.a) 0 3).1] := by
    rcases h3 with ⟨h, _⟩ | ⟨_, h, h'⟩
    · rw [he12] at h; cases h
    · exact ⟨by rw [h, he12], h'⟩
   have hs5 : Sep (DiskA pY (openR (arm (crash d o.keep) o.a) 0 3).1 :: CellA g (guC pY q hv pd sl nx rt) :: R) G5 := hs5'
   clear hs5' h3
   obtain ⟨d5, hd5⟩ : ∃ d5, d5 = (openR (arm (crash d o.keep) o.a) 0 3).1 := ⟨_, rfl⟩
   rw [← hd5] at hs5 hok5 hst5 hre
   clear hO2 hs4a hc4a
   have hc5 := hs5.swap.get
   have hs05 : (crash d5 o.keep).steps = 0 := rfl
   simp -dsimp (disch := first | omega | (simp only [go_sem]; omega)) only [go_sem, seval, Nat.reduceEqDiff, Nat.reduceLeDiff]
   (repeat' (first | (with_reducible first | refine W.seq ?_ | refine W.block ?_) | ((first | (with_reducible first | refine W.reg ?_ | refine W.skip ?_ | refine W.exit ?_ | refine W.ret ?_ | refine W.ifc ?_) | ((with_reducible first | refine wG_decE (fun _ hG => ?_) (fun _ hG => ?_) | refine wG_decFE (fun _ hG => ?_) (fun _ hG => ?_)) <;> (try simp -dsimp only [hG, decide_true, decide_false, not_true_eq_false, not_false_eq_true]) <;> clear hG)) <;> (try simp -dsimp (disch := first | omega | (simp only [go_sem]; omega)) only [go_sem, seval, Nat.reduceEqDiff, Nat.reduceLeDiff, hc5, gA'])) | simp -dsimp (disch := first | omega | (simp only [go_sem]; omega)) only [go_sem, seval, Nat.reduceEqDiff, Nat.reduceLeDiff, hc5, gA']))
   (refine wC_sq (Crash_ok pY d5 o.keep hk) (hs5) (by decide) ?_ ?_; (focus (simp -dsimp (disch := first | omega | (simp only [go_sem]; omega)) only [go_sem, seval, Nat.reduceEqDiff, Nat.reduceLeDiff] <;> rfl)))
   rintro _ _ G6 ⟨pX, rfl, rfl⟩ hs6'
   have hs6 : Sep (DiskA pX (crash d5 o.keep) :: DiskA pY d5 :: CellA g (guC pY q hv pd sl nx rt) :: R) G6 := hs6'
   clear hs6'
   have hs7 : Sep (CellA g (guC pY q hv pd sl nx rt) :: DiskA pX (crash d5 o.keep) :: R) G6 := (hs6.f3.cons fun _ h => h.cons fun _ h => h.tail)
   have hc7 := hs7.get
   have hs8 := hs7.set (cs' := guC pX q hv pd sl nx rt)
   have hc8 := hs8.get
   simp -dsimp (disch := first | omega | (simp only [go_sem]; omega)) only [go_sem, seval, Nat.reduceEqDiff, Nat.reduceLeDiff, hc7]
   (repeat (first | (with_reducible first | refine W.seq ?_ | refine W.block ?_) | ((with_reducible first | refine W.reg ?_ | refine W.skip ?_ | refine W.exit ?_ | refine W.ret ?_ | refine W.ifc ?_); simp -dsimp (disch := first | omega | (simp only [go_sem]; omega)) only [go_sem, seval, Nat.reduceEqDiff, Nat.reduceLeDiff, hc7])))
   have heq8 : G6.set g (some (guC pX q hv pd sl nx rt)) = G6.set g (some [.gp pX 0, .gp q 0, .str (hv 0), .str (hv 1), .str (hv 2), .bool pd, .int .i64 sl, .str nx, .int .i64 (rt 0), .int .i64 (rt 1), .int .i64 (rt 2)]) := rfl
   rw [← heq8]
   clear hs5 hs6 hs7 hc7 heq8
   generalize G6.set g (some (guC pX q hv pd sl nx rt)) = G8 at *
   (repeat (first | (with_reducible first | refine W.seq ?_ | refine W.block ?_) | ((with_reducible first | refine W.reg ?_ | refine W.skip ?_ | refine W.exit ?_ | refine W.ret ?_ | refine W.ifc ?_); simp -dsimp (disch := first | omega | (simp only [go_sem]; omega)) only [go_sem, seval, Nat.reduceEqDiff, Nat.reduceLeDiff, hc8])))
   (refine wC_sq (openS_ok _ (crash d5 o.keep) 0 3 (by omega)) (hs8.swap) (by decide) ?_ ?_; (focus (simp -dsimp (disch := first | omega | (simp only [go_sem]; omega)) only [go_sem, seval, Nat.reduceEqDiff, Nat.reduceLeDiff] <;> rfl)))
   rintro r3 post3 G5 h3 hs5'
   obtain ⟨q5, rfl, rfl⟩ : ∃ q5, r3 = .tup [.gp q5 0, .list [], .int .i64 0] ∧ post3 = [StA q5 pX 0 3, DiskA pX (openR (crash d5 o.keep) 0 3).1] := by
    rcases h3 with ⟨_, q5, h, h'⟩ | ⟨h, _⟩
    · exact ⟨q5, by rw [h, hre.lost]; rfl, h'⟩
    · exact absurd hre.e h
   have hs5 : Sep (StA q5 pX 0 3 :: DiskA pX (openR (crash d5 o.keep) 0 3).1 :: CellA g (guC pX q hv pd sl nx rt) :: R) G5 := hs5'
   clear hs5' h3
   have hs6 := hs5.f3
   have hst6 : (arm (openR (crash d5 o.keep) 0 3).1 (-1)).steps ≤ 6 := hre.st
   obtain ⟨q2, hv2, hQ, hv2h⟩ := hre.qui
   clear hre
   generalize (openR (crash d5 o.keep) 0 3).1 = dX at *
 case' ab =>
  have hre := hO1
  have gA' : (0 ≤ o.a) = False := eq_false gA
  (repeat (first | (with_reducible first | refine W.seq ?_ | refine W.block ?_) | ((with_reducible first | refine W.reg ?_ | refine W.skip ?_ | refine W.exit ?_ | refine W.ret ?_ | refine W.ifc ?_); simp -dsimp (disch := first | omega | (simp only [go_sem]; omega)) only [go_sem, seval, Nat.reduceEqDiff, Nat.reduceLeDiff, hc4])))
  (refine wC_sq (openS_ok _ (crash d o.keep) 0 3 (by omega)) (hs4.swap) (by decide) ?_ ?_; (focus (simp -dsimp (disch := first | omega | (simp only [go_sem]; omega)) only [go_sem, seval, Nat.reduceEqDiff, Nat.reduceLeDiff] <;> rfl)))
  rintro r3 post3 G5 h3 hs5'
  obtain ⟨q5, rfl, rfl⟩ : ∃ q5, r3 = .tup [.gp q5 0, .list [], .int .i64 0] ∧ post3 = [StA q5 pX 0 3, DiskA pX (openR (crash d o.keep) 0 3).1] := by
   rcases h3 with ⟨_, q5, h, h'⟩ | ⟨h, _⟩
   · exact ⟨q5, by rw [h, hre.lost]; rfl, h'⟩
   · exact absurd hre.e h
  have hs5 : Sep (StA q5 pX 0 3 :: DiskA pX (openR (crash d o.keep) 0 3).1 :: CellA g (guC pX q hv pd sl nx rt) :: R) G5 := hs5'
  clear hs5' h3
  have hs6 := hs5.f3
  have hst6 : (arm (openR (crash d o.keep) 0 3).1 (-1)).steps ≤ 6 := hre.st
  obtain ⟨q2, hv2, hQ, hv2h⟩ := hre.qui
  clear hre
  generalize (openR (crash d o.keep) 0 3).1 = dX at *
 all_goals
  have hc6 := hs6.get
  simp -dsimp (disch := first | omega | (simp only [go_sem]; omega)) only [go_sem, seval, Nat.reduceEqDiff, Nat.reduceLeDiff]
  (repeat' (first | (with_reducible first | refine W.seq ?_ | refine W.block ?_) | ((first | (with_reducible first | refine W.reg ?_ | refine W.skip ?_ | refine W.exit ?_ | refine W.ret ?_ | refine W.ifc ?_) | ((with_reducible first | refine wG_decE (fun _ hG => ?_) (fun _ hG => ?_) | refine wG_decFE (fun _ hG => ?_) (fun _ hG => ?_)) <;> (try simp -dsimp only [hG, decide_true, decide_false, not_true_eq_false, not_false_eq_true]) <;> clear hG)) <;> (try simp -dsimp (disch := first | omega | (simp only [go_sem]; omega)) only [go_sem, seval, Nat.reduceEqDiff, Nat.reduceLeDiff, hc6])) | simp -dsimp (disch := first | omega | (simp only [go_sem]; omega)) only [go_sem, seval, Nat.reduceEqDiff, Nat.reduceLeDiff, hc6]))
  (refine wC_sq (Arm_ok _ dX (-1) (by omega)) (hs6.f3) (by decide) ?_ ?_; (focus (simp -dsimp (disch := first | omega | (simp only [go_sem]; omega)) only [go_sem, seval, Nat.reduceEqDiff, Nat.reduceLeDiff] <;> rfl)))
  rintro _ _ GU rfl hsU
  have hsV := Sep.b3 (R := R) hsU
  have hcV := hsV.get
  have hget := fun i hi => hQ.get (by omega) (i := i) hi
  obtain ⟨dA, hdA⟩ : ∃ dA, dA = arm dX (-1) := ⟨_, rfl⟩
  rw [← hdA] at hsV hQ hst6 hget
  clear hs6 hsU hc6
  cases pd
  · have hs5 := hsV.set (cs' := guC pX q5 hv false sl nx (fun _ => -1))
    have hcg := hQ.congr (hv' := hv) fun i hi => (hv2h i hi).resolve_right (fun h => by cases h.1)
    simp -dsimp (disch := first | omega | (simp only [go_sem]; omega)) only [go_sem, seval, Nat.reduceEqDiff, Nat.reduceLeDiff]
    (repeat' (first | (with_reducible first | refine W.seq ?_ | refine W.block ?_) | ((first | (with_reducible first | refine W.reg ?_ | refine W.skip ?_ | refine W.exit ?_ | refine W.ret ?_ | refine W.ifc ?_) | ((with_reducible first | refine wG_decE (fun _ hG => ?_) (fun _ hG => ?_) | refine wG_decFE (fun _ hG => ?_) (fun _ hG => ?_)) <;> (try simp -dsimp only [hG, decide_true, decide_false, not_true_eq_false, not_false_eq_true]) <;> clear hG)) <;> (try simp -dsimp (disch := first | omega | (simp only [go_sem]; omega)) only [go_sem, seval, Nat.reduceEqDiff, Nat.reduceLeDiff, hcV])) | simp -dsimp (disch := first | omega | (simp only [go_sem]; omega)) only [go_sem, seval, Nat.reduceEqDiff, Nat.reduceLeDiff, hcV]))
    exact Fin.eq rfl ⟨rfl, _, ⟨rfl, _, q5, dA, hv, sl, nx, q2, rfl, hcg, hst6⟩, hs5⟩
  · obtain ⟨i, rfl, hi⟩ := hG.pend
    have hsW := hsV.set (cs' := guC pX q5 hv true i nx (fun _ => -1))
    have hgi := hget i hi
    simp -dsimp (disch := first | omega | (simp only [go_sem]; omega)) only [go_sem, seval, Nat.reduceEqDiff, Nat.reduceLeDiff]
    (repeat' (first | (with_reducible first | refine W.seq ?_ | refine W.block ?_) | ((first | (with_reducible first | refine W.reg ?_ | refine W.skip ?_ | refine W.exit ?_ | refine W.ret ?_ | refine W.ifc ?_) | ((with_reducible first | refine wG_decE (fun _ hG => ?_) (fun _ hG => ?_) | refine wG_decFE (fun _ hG => ?_) (fun _ hG => ?_)) <;> (try simp -dsimp only [hG, decide_true, decide_false, not_true_eq_false, not_false_eq_true]) <;> clear hG)) <;> (try simp -dsimp (disch := first | omega | (simp only [go_sem]; omega)) only [go_sem, seval, Nat.reduceEqDiff, Nat.reduceLeDiff, hcV])) | simp -dsimp (disch := first | omega | (simp only [go_sem]; omega)) only [go_sem, seval, Nat.reduceEqDiff, Nat.reduceLeDiff, hcV]))
    (refine wC_sq (getS_ok q5 _ dA 0 3 i (by omega) (by omega)) (hsW.b3) (by decide) ?_ ?_; (focus (simp -dsimp (disch := first | omega | (simp only [go_sem]; omega)) only [go_sem, seval, Nat.reduceEqDiff, Nat.reduceLeDiff] <;> rfl)))
    rintro _ _ GX ⟨rfl, rfl⟩ hsX
    have hsY := Sep.f3 (R := R) hsX
    have hcY := hsY.get
    rw [hgi]
    have hother : ∀ j, j < 3 → j ≠ i → hv2 j = hv j := fun j hj hne => (hv2h j hj).resolve_right (fun h => hne (by have := h.2.1; omega))
    have hown : hv2 i ≠ nx → hv2 i = hv i := fun hne => (hv2h i hi).resolve_right (fun h => hne h.2.2)
    clear hsV hcV hsW hsX
    by_cases en : hv2 i = nx
    · have hcg := hQ.congr (hv' := updN hv i nx) fun j hj => by
       unfold updN
       by_cases e : j = i
       · rw [if_pos e, e, en]
       · rw [if_neg e]; exact hother j hj e
      have hsZ := hsY.set (cs' := guC pX q5 (updN hv i nx) false i nx (fun _ => -1))
      have fin : ∀ G', G' = GX.set g (some (guC pX q5 (updN hv i nx) false i nx (fun _ => -1))) → Sep ([GuA g pX q5 (updN hv i nx) false i nx (fun _ => -1), StA q5 pX 0 3, DiskA pX dA] ++ R) G' := fun G' h => by rw [h]; exact hsZ
      clear hv2h hother hown hgi hget hG
      have e0 : (nx = []) = True ∧ (if hv2 i = [] then (([] : Str), (8 : Int)) else (hv2 i, 0)) = (nx, 8) ∨ (nx = []) = False ∧ (if hv2 i = [] then (([] : Str), (8 : Int)) else (hv2 i, 0)) = (nx, 0) := by
       rw [en]
       by_cases h : nx = []
       · rw [if_pos h, h]; exact .inl ⟨eq_true rfl, rfl⟩
       · rw [if_neg h]; exact .inr ⟨eq_false h, rfl⟩
      rcases e0 with ⟨e0, e1⟩ | ⟨e0, e1⟩
      all_goals rw [e1]
      all_goals rcases (by omega : i = 0 ∨ i = 1 ∨ i = 2) with rfl | rfl | rfl
      all_goals
       simp -dsimp (disch := first | omega | (simp only [go_sem]; omega)) only [go_sem, seval, Nat.reduceEqDiff, Nat.reduceLeDiff]
       (repeat' (first | (with_reducible first | refine W.seq ?_ | refine W.block ?_) | ((first | (with_reducible first | refine W.reg ?_ | refine W.skip ?_ | refine W.exit ?_ | refine W.ret ?_ | refine W.ifc ?_) | ((with_reducible first | refine wG_decE (fun _ hG => ?_) (fun _ hG => ?_) | refine wG_decFE (fun _ hG => ?_) (fun _ hG => ?_)) <;> (try simp -dsimp only [hG, decide_true, decide_false, not_true_eq_false, not_false_eq_true]) <;> clear hG)) <;> (try simp -dsimp (disch := first | omega | (simp only [go_sem]; omega)) only [go_sem, seval, Nat.reduceEqDiff, Nat.reduceLeDiff, hcY, e0])) | simp -dsimp (disch := first | omega | (simp only [go_sem]; omega)) only [go_sem, seval, Nat.reduceEqDiff, Nat.reduceLeDiff, hcY, e0]))
       exact Fin.eq rfl ⟨rfl, _, ⟨rfl, _, q5, dA, _, _, _, q2, rfl, hcg, hst6⟩, fin _ rfl⟩
    · have hcg := hQ.congr (hv' := hv) fun j hj => by
       by_cases e : j = i
       · rw [e]; exact hown en
       · exact hother j hj e
      have hsZ := hsY.set (cs' := guC pX q5 hv false i nx (fun _ => -1))
      by_cases e0 : hv2 i = []
      · rw [if_pos e0]
        rw [e0] at en
        simp -dsimp (disch := first | omega | (simp only [go_sem]; omega)) only [go_sem, seval, Nat.reduceEqDiff, Nat.reduceLeDiff, en]
        (repeat' (first | (with_reducible first | refine W.seq ?_ | refine W.block ?_) | ((first | (with_reducible first | refine W.reg ?_ | refine W.skip ?_ | refine W.exit ?_ | refine W.ret ?_ | refine W.ifc ?_) | ((with_reducible first | refine wG_decE (fun _ hG => ?_) (fun _ hG => ?_) | refine wG_decFE (fun _ hG => ?_) (fun _ hG => ?_)) <;> (try simp -dsimp only [hG, decide_true, decide_false, not_true_eq_false, not_false_eq_true]) <;> clear hG)) <;> (try simp -dsimp (disch := first | omega | (simp only [go_sem]; omega)) only [go_sem, seval, Nat.reduceEqDiff, Nat.reduceLeDiff, hcY, en])) | simp -dsimp (disch := first | omega | (simp only [go_sem]; omega)) only [go_sem, seval, Nat.reduceEqDiff, Nat.reduceLeDiff, hcY, en]))
        exact Fin.eq rfl ⟨rfl, _, ⟨rfl, _, q5, dA, hv, _, _, q2, rfl, hcg, hst6⟩, hsZ⟩
      · rw [if_neg e0]
        simp -dsimp (disch := first | omega | (simp only [go_sem]; omega)) only [go_sem, seval, Nat.reduceEqDiff, Nat.reduceLeDiff, en, e0]
        (repeat' (first | (with_reducible first | refine W.seq ?_ | refine W.block ?_) | ((first | (with_reducible first | refine W.reg ?_ | refine W.skip ?_ | refine W.exit ?_ | refine W.ret ?_ | refine W.ifc ?_) | ((with_reducible first | refine wG_decE (fun _ hG => ?_) (fun _ hG => ?_) | refine wG_decFE (fun _ hG => ?_) (fun _ hG => ?_)) <;> (try simp -dsimp only [hG, decide_true, decide_false, not_true_eq_false, not_false_eq_true]) <;> clear hG)) <;> (try simp -dsimp (disch := first | omega | (simp only [go_sem]; omega)) only [go_sem, seval, Nat.reduceEqDiff, Nat.reduceLeDiff, hcY, en, e0])) | simp -dsimp (disch := first | omega | (simp only [go_sem]; omega)) only [go_sem, seval, Nat.reduceEqDiff, Nat.reduceLeDiff, hcY, en, e0]))
        exact Fin.eq rfl ⟨rfl, _, ⟨rfl, _, q5, dA, hv, _, _, q2, rfl, hcg, hst6⟩, hsZ⟩
end Go.Proofs.Ytioojmlhmhgeeaa
