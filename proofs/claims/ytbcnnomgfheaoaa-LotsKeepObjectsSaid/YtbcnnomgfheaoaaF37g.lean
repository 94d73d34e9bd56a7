/-
 Layer 37 (chunk), continued: the places behind which data are cut, by a range over a function.
 Conditions: of each contract as it says.
-/
import Derived.Test.YtbcnnomgfheaoaaF37b
namespace Go.Proofs.Ytbcnnomgfheaoaa
open Go Go.E2 C37
set_option linter.unusedSimpArgs false
set_option maxHeartbeats 1000000
def plcN (c : Ct) (s : Str) : Nat → Nat → Nat → List Nat
 | 0, _, _ => []
 | n + 1, k, f => if cutHere c s f k then (k + 1) :: plcN c s n (k + 1) (k + 1) else plcN c s n (k + 1) f
def plcs (c : Ct) (s : Str) : List Nat := plcN c s s.length 0 0
def pieces (s : Str) : Nat → List Nat → List Str
 | _, [] => []
 | f, p :: ps => (s.take p).drop f :: pieces s p ps
theorem cutN_pieces (c : Ct) (s : Str) : ∀ n k f, cutN c s n k f = pieces s f (plcN c s n k f)
 | 0, _, _ => rfl
 | n + 1, k, f => by
   simp only [cutN, plcN]
   split
   · rw [cutN_pieces c s n]; rfl
   · exact cutN_pieces c s n _ _
theorem plcN_up (c : Ct) (s : Str) : ∀ n k f, f ≤ k → (∀ p ∈ plcN c s n k f, k < p ∧ p ≤ k + n) ∧ (plcN c s n k f).Pairwise (· < ·)
 | 0, _, _, _ => ⟨fun p hp => (by cases hp), List.Pairwise.nil⟩
 | n + 1, k, f, h => by
   simp only [plcN]
   split
   · have ih := plcN_up c s n (k + 1) (k + 1) (by omega)
     refine ⟨fun p hp => ?_, List.pairwise_cons.2 ⟨fun p hp => (ih.1 p hp).1, ih.2⟩⟩
     rcases List.mem_cons.1 hp with rfl | hp
     · omega
     · have := ih.1 p hp; omega
   · have ih := plcN_up c s n (k + 1) f (by omega)
     exact ⟨fun p hp => by have := ih.1 p hp; omega, ih.2⟩
def lastP (ps : List Nat) : Nat := ps.getLastD 0
theorem lastP_snoc (ps : List Nat) (p : Nat) : lastP (ps ++ [p]) = p := by simp [lastP]
theorem pieces_snoc (s : Str) : ∀ (f : Nat) (ps : List Nat) (p : Nat), pieces s f (ps ++ [p]) = pieces s f ps ++ [(s.take p).drop (ps.getLastD f)]
 | f, [], p => rfl
 | f, q :: ps, p => by
   rw [List.cons_append, pieces, pieces, pieces_snoc s q ps p]
   congr 2
   cases ps <;> rfl
theorem plcs_at {c : Ct} {s : Str} {ps gs : List Nat} {p : Nat} (h : ps ++ p :: gs = plcs c s) : lastP ps < p ∧ p ≤ s.length := by
 have hu := plcN_up c s s.length 0 0 (Nat.le_refl _)
 have hp := hu.1 p (by unfold plcs at h; rw [← h]; simp)
 refine ⟨?_, by omega⟩
 unfold plcs at h
 rw [← h] at hu
 have h2 := (List.pairwise_append.1 hu.2).2.2
 unfold lastP
 cases hps : ps with
 | nil => simp; omega
 | cons q qs =>
  have : (q :: qs).getLastD 0 ∈ ps := by
   rw [hps, List.getLastD_eq_getLast?, List.getLast?_eq_some_getLast (by simp)]
   exact List.getLast_mem _
  exact h2 _ this p List.mem_cons_self
theorem plcN_step {c : Ct} {s : Str} {f k : Nat} (h : k < s.length) : plcN c s (s.length - k) k f = if cutHere c s f k then (k + 1) :: plcN c s (s.length - (k + 1)) (k + 1) (k + 1) else plcN c s (s.length - (k + 1)) (k + 1) f := by
 obtain ⟨n, hn⟩ : ∃ n, s.length - k = n + 1 := ⟨s.length - k - 1, by omega⟩
 have : s.length - (k + 1) = n := by omega
 rw [hn, this]; rfl
theorem mask_and {m : Int} {b : Nat} (h0 : 0 ≤ m) (h1 : m ≤ 1000000) (hb : b ≤ 40) : binD .and (.int .i64 m) (.int .i64 (2 ^ b - 1)) = some (.int .i64 (m % 2 ^ b)) := by
 have hp := pow_le40 hb
 rw [and_i64 h0 (by omega) (by omega) (by omega)]
 congr 2
 have e : ((2 : Int) ^ b - 1).toNat = 2 ^ b - 1 := by
  have : ((2 ^ b : Nat) : Int) = (2 : Int) ^ b := Int.natCast_pow 2 b
  omega
 obtain ⟨m, rfl⟩ := Int.eq_ofNat_of_zero_le h0
 rw [e, Int.toNat_natCast, Nat.and_two_pow_sub_one_eq_mod]
 rw [Int.natCast_emod, Int.natCast_pow]; rfl
theorem cuts_ok (c : Ct) (s : Str) (σ : List Hp) (G : Gh) : CallT Try.prog f_chunk_cuts ([eT c, .str s].map .d) σ G fun r σ' G' => σ' = σ ∧ ∃ b1 b2, G.c b1 = none ∧ (G.set b1 (some [.int .i64 c.mn, .int .i64 c.mx, .int .i64 c.bits])).c b2 = none ∧
 G' = (G.set b1 (some [.int .i64 c.mn, .int .i64 c.mx, .int .i64 c.bits])).set b2 (some [.str s]) ∧ r = .d (.clo f_chunk_cuts_1 [.gp b2 0, .gp b1 0]) := by
 refine callT_of_W fol chunk_cuts_cp ?_
 simp -dsimp (disch := first | omega | (simp only [go_sem]; omega)) only [go_sem, seval, Nat.reduceEqDiff, Nat.reduceLeDiff]
 (repeat (first | with_reducible refine W.seq ?_ | with_reducible refine W.block ?_ | ((first | with_reducible refine W.reg ?_ | with_reducible refine W.skip ?_ | with_reducible refine W.exit ?_ | with_reducible refine W.ret ?_ | with_reducible refine W.ifc ?_); simp -dsimp (disch := first | omega | (simp only [go_sem]; omega)) only [go_sem, seval, Nat.reduceEqDiff, Nat.reduceLeDiff])))
 refine wNew_mk fun b1 hb1 => ?_
 simp -dsimp (disch := first | omega | (simp only [go_sem]; omega)) only [go_sem, seval, Nat.reduceEqDiff, Nat.reduceLeDiff]
 (repeat (first | with_reducible refine W.seq ?_ | with_reducible refine W.block ?_ | ((first | with_reducible refine W.reg ?_ | with_reducible refine W.skip ?_ | with_reducible refine W.exit ?_ | with_reducible refine W.ret ?_ | with_reducible refine W.ifc ?_); simp -dsimp (disch := first | omega | (simp only [go_sem]; omega)) only [go_sem, seval, Nat.reduceEqDiff, Nat.reduceLeDiff])))
 refine wNew_mk fun b2 hb2 => ?_
 simp -dsimp (disch := first | omega | (simp only [go_sem]; omega)) only [go_sem, seval, Nat.reduceEqDiff, Nat.reduceLeDiff]
 (repeat (first | with_reducible refine W.seq ?_ | with_reducible refine W.block ?_ | ((first | with_reducible refine W.reg ?_ | with_reducible refine W.skip ?_ | with_reducible refine W.exit ?_ | with_reducible refine W.ret ?_ | with_reducible refine W.ifc ?_); simp -dsimp (disch := first | omega | (simp only [go_sem]; omega)) only [go_sem, seval, Nat.reduceEqDiff, Nat.reduceLeDiff])))
 exact Fin.eq rfl ⟨rfl, b1, b2, hb1, hb2, rfl, rfl⟩
theorem cuts1_ok (c : Ct) (s : Str) (hc : okC c) (hs : s.length ≤ 65536) (b1 b2 l : Nat) (J : List Nat → Gh → Prop) (σ : List Hp) (G : Gh) (hJ : J [] G)
 (hb : ∀ ps G', J ps G' → G'.c b1 = some [.int .i64 c.mn, .int .i64 c.mx, .int .i64 c.bits] ∧ G'.c b2 = some [.str s])
 (hstep : ∀ ps p gs G', ps ++ p :: gs = plcs c s → J ps G' → ∀ σ, CallY Try.prog l [.int .i64 (p : Nat)] σ G' fun r lv G2 => lv = σ ∧ r = .d (.bool true) ∧ J (ps ++ [p]) G2) :
 CallT Try.prog f_chunk_cuts_1 ([.yld l, .gp b2 0, .gp b1 0].map .d) σ G fun _ σ' G' => σ' = σ ∧ J (plcs c s) G' := by
 refine callT_of_W fol chunk_cuts_1_cp ?_
 have hc2 := hc
 unfold okC at hc2
 have hb0 := hb _ _ hJ
 simp -dsimp (disch := first | omega | (simp only [go_sem]; omega)) only [go_sem, seval, Nat.reduceEqDiff, Nat.reduceLeDiff]
 (repeat (first | with_reducible refine W.seq ?_ | with_reducible refine W.block ?_ | ((first | with_reducible refine W.reg ?_ | with_reducible refine W.skip ?_ | with_reducible refine W.exit ?_ | with_reducible refine W.ret ?_ | with_reducible refine W.ifc ?_); simp -dsimp (disch := first | omega | (simp only [go_sem]; omega)) only [go_sem, seval, Nat.reduceEqDiff, Nat.reduceLeDiff, hb0.1, hb0.2])))
 refine W.loop (fun m st => ∃ k f ps G1, k ≤ s.length ∧ f ≤ k ∧ m = s.length - k ∧ J ps G1 ∧ lastP ps = f ∧ ps ++ plcN c s (s.length - k) k f = plcs c s ∧
  st = (E [(0, .d (.yld l)), (1, .d (.gp b2 0)), (2, .d (.gp b1 0)), (4, .d (.int .i64 f)), (5, .ptr 0 5 1 0), (10, .d (.int .i64 s.length)), (11, .d (.int .i64 k))],
   HB [(5, ⟨1, some [.int .i64 (atB s ((k : Int) - 1)), .int .i64 (atB s ((k : Int) - 2)), .int .i64 (atB s ((k : Int) - 3)), .int .i64 (atB s ((k : Int) - 4))]⟩)], σ, G1))
  ⟨_, _, st_le (by (simp -dsimp (disch := first | omega | (simp only [go_sem]; omega)) only [go_sem, seval, Nat.reduceEqDiff, Nat.reduceLeDiff] <;> ((repeat' apply And.intro) <;> first | exact VLe.refl _ | (apply vle_int; omega) | (apply vle_int; simp; done) | exact VLe.own _ _ | exact VLe.nilown _ | exact VLe.norm _))), 0, 0, [], G, by omega, by omega, rfl, hJ, rfl, rfl, rfl⟩ ?_
 rintro m st ⟨k, f, ps, G1, hk, hf, rfl, hJ1, hl, hps, rfl⟩
 have hb1 := hb _ _ hJ1
 (repeat (first | with_reducible refine W.seq ?_ | with_reducible refine W.block ?_ | ((first | with_reducible refine W.reg ?_ | with_reducible refine W.skip ?_ | with_reducible refine W.exit ?_ | with_reducible refine W.ret ?_ | with_reducible refine W.ifc ?_); simp -dsimp (disch := first | omega | (simp only [go_sem]; omega)) only [go_sem, seval, Nat.reduceEqDiff, Nat.reduceLeDiff])))
 refine wG_dec (fun h1 => ?_) (fun h1 => ?_)
 · have hk' : k < s.length := by omega
   have hat : ((s[k].toNat : Nat) : Int) = atB s k := (atB_get s hk').symm
   have q0 := atB_bound s k
   have q1 := atB_bound s ((k : Int) - 1)
   have q2 := atB_bound s ((k : Int) - 2)
   have q3 := atB_bound s ((k : Int) - 3)
   have hp := pow_le40 (k := c.bits.toNat) (by omega)
   have hm := mask_and (m := markB s k) (b := c.bits.toNat) (markB_bound s k).1 (by have := markB_bound s k; omega) (by omega)
   have hmk : atB s k + atB s ((k : Int) - 1) * 2 + atB s ((k : Int) - 2) * 4 + atB s ((k : Int) - 3) * 8 = markB s k := by unfold markB; omega
   have hstp := plcN_step (c := c) (f := f) hk'
   have h64 : (c.bits.toNat ≤ 64) = True := eq_true (by omega)
   (repeat' (first | with_reducible refine W.seq ?_ | with_reducible refine W.block ?_ | ((first | with_reducible refine W.reg ?_ | with_reducible refine W.skip ?_ | with_reducible refine W.exit ?_ | with_reducible refine W.ret ?_ | with_reducible refine W.ifc ?_ | ((first | with_reducible refine wG_decE (fun _ hG => ?_) (fun _ hG => ?_) | with_reducible refine wG_decFE (fun _ hG => ?_) (fun _ hG => ?_)) <;> (try simp -dsimp only [hG, decide_true, decide_false, not_true_eq_false, not_false_eq_true]) <;> clear hG)) <;> (try simp -dsimp (disch := first | omega | (simp only [go_sem]; omega)) only [go_sem, seval, Nat.reduceEqDiff, Nat.reduceLeDiff, hb1.1, hb1.2, hat, hmk, hm, h64, Int.one_mul, Int.reducePow])) | simp -dsimp (disch := first | omega | (simp only [go_sem]; omega)) only [go_sem, seval, Nat.reduceEqDiff, Nat.reduceLeDiff, hb1.1, hb1.2, hat, hmk, hm, h64, Int.one_mul, Int.reducePow]))
   all_goals
    first
    | (have hch : cutHere c s f k := by
        unfold cutHere
        first | exact .inl ⟨by omega, by assumption⟩ | exact .inr (.inl (by omega)) | exact .inr (.inr (by omega))
       rw [hstp, if_pos hch] at hps
       apply wC_y (hstep ps (k + 1) _ G1 hps hJ1 (HB _ :: σ))
       focus (simp -dsimp (disch := first | omega | (simp only [go_sem]; omega)) only [go_sem, seval, Nat.reduceEqDiff, Nat.reduceLeDiff] <;> fail)
       focus (simp -dsimp (disch := first | omega | (simp only [go_sem]; omega)) only [go_sem, seval, Nat.reduceEqDiff, Nat.reduceLeDiff] <;> rfl)
       rintro _ G2 ⟨rfl, hJ2⟩
       simp -dsimp (disch := first | omega | (simp only [go_sem]; omega)) only [go_sem, seval, Nat.reduceEqDiff, Nat.reduceLeDiff]
       (repeat (first | with_reducible refine W.seq ?_ | with_reducible refine W.block ?_ | ((first | with_reducible refine W.reg ?_ | with_reducible refine W.skip ?_ | with_reducible refine W.exit ?_ | with_reducible refine W.ret ?_ | with_reducible refine W.ifc ?_); simp -dsimp (disch := first | omega | (simp only [go_sem]; omega)) only [go_sem, seval, Nat.reduceEqDiff, Nat.reduceLeDiff])))
       have e1 : (k : Int) - 1 = ((k + 1 : Nat) : Int) - 2 := by omega
       refine ⟨_, _, ?_, st_leB (by (simp -dsimp (disch := first | omega | (simp only [go_sem]; omega)) only [go_sem, seval, Nat.reduceEqDiff, Nat.reduceLeDiff] <;> ((repeat' apply And.intro) <;> first | exact VLe.refl _ | (apply vle_int; omega) | (apply vle_int; simp; done) | exact VLe.own _ _ | exact VLe.nilown _ | exact VLe.norm _))) ?_, k + 1, k + 1, ps ++ [k + 1], G2, by omega, by omega, rfl, hJ2, lastP_snoc _ _, by rw [List.append_assoc]; exact hps, rfl⟩
       · omega
       · have e0 : (k : Int) = ((k + 1 : Nat) : Int) - 1 := by omega
         have e2 : (k : Int) - 2 = ((k + 1 : Nat) : Int) - 3 := by omega
         have e3 : (k : Int) - 3 = ((k + 1 : Nat) : Int) - 4 := by omega
         rw [e1, e2, e3, ← e0])
    | (have hch : ¬ cutHere c s f k := by
        unfold cutHere
        rintro (⟨a, b⟩ | a | a)
        · first | omega | contradiction
        · omega
        · omega
       rw [hstp, if_neg hch] at hps
       refine ⟨_, _, ?_, st_leB (by (simp -dsimp (disch := first | omega | (simp only [go_sem]; omega)) only [go_sem, seval, Nat.reduceEqDiff, Nat.reduceLeDiff] <;> ((repeat' apply And.intro) <;> first | exact VLe.refl _ | (apply vle_int; omega) | (apply vle_int; simp; done) | exact VLe.own _ _ | exact VLe.nilown _ | exact VLe.norm _))) ?_, k + 1, f, ps, G1, by omega, by omega, rfl, hJ1, hl, hps, rfl⟩
       · omega
       · have e0 : (k : Int) = ((k + 1 : Nat) : Int) - 1 := by omega
         have e1 : (k : Int) - 1 = ((k + 1 : Nat) : Int) - 2 := by omega
         have e2 : (k : Int) - 2 = ((k + 1 : Nat) : Int) - 3 := by omega
         have e3 : (k : Int) - 3 = ((k + 1 : Nat) : Int) - 4 := by omega
         rw [e1, e2, e3, ← e0])
 · obtain rfl : k = s.length := by omega
   rw [Nat.sub_self, plcN, List.append_nil] at hps
   subst hps
   (repeat (first | with_reducible refine W.seq ?_ | with_reducible refine W.block ?_ | ((first | with_reducible refine W.reg ?_ | with_reducible refine W.skip ?_ | with_reducible refine W.exit ?_ | with_reducible refine W.ret ?_ | with_reducible refine W.ifc ?_); simp -dsimp (disch := first | omega | (simp only [go_sem]; omega)) only [go_sem, seval, Nat.reduceEqDiff, Nat.reduceLeDiff])))
   exact Fin.eq rfl ⟨rfl, hJ1⟩
end Go.Proofs.Ytbcnnomgfheaoaa
