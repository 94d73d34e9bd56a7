/-
 Layer 37 (chunk), continued: cutting.
 Conditions: of each contract as it says.
-/
import Derived.Test.YtbcnnomgfheaoaaF37c
namespace Go.Proofs.Ytbcnnomgfheaoaa
open Go Go.E2 C37
set_option linter.unusedSimpArgs false
set_option maxHeartbeats 1000000
theorem cutN_step {c : Ct} {s : Str} {f k : Nat} (h : k < s.length) : cutN c s (s.length - k) k f = if cutHere c s f k then ((s.take (k + 1)).drop f) :: cutN c s (s.length - (k + 1)) (k + 1) (k + 1) else cutN c s (s.length - (k + 1)) (k + 1) f := by
 obtain ⟨n, hn⟩ : ∃ n, s.length - k = n + 1 := ⟨s.length - k - 1, by omega⟩
 have : s.length - (k + 1) = n := by omega
 rw [hn, this]; rfl
theorem cutN_end {c : Ct} {s : Str} {f : Nat} : cutN c s (s.length - s.length) s.length f = [] := by rw [Nat.sub_self]; rfl
theorem refCut_ok (c : Ct) (s : Str) : CallP Try.prog f_quietusref37_Cut [eT c, .str s] (· = .d (.agg [.list ((cutR c s).1.map .str), .int .i64 (cutR c s).2])) := by
 refine callP_of_W fol quietusref37_Cut_cp ?_
 by_cases hc : okC c
 · have hc2 := hc
   unfold okC at hc2
   have hck : checkC c = 0 := by unfold checkC; rw [if_pos hc]
   simp -dsimp (disch := first | omega | (simp only [go_sem]; omega)) only [go_sem, seval, Nat.reduceEqDiff, Nat.reduceLeDiff]
   (repeat' (first | with_reducible refine W.seq ?_ | with_reducible refine W.block ?_ | ((first | with_reducible refine W.reg ?_ | with_reducible refine W.skip ?_ | with_reducible refine W.exit ?_ | with_reducible refine W.ret ?_ | with_reducible refine W.ifc ?_ | (apply wC_P (refCheck_ok c); (focus (simp -dsimp (disch := first | omega | (simp only [go_sem]; omega)) only [go_sem, seval, Nat.reduceEqDiff, Nat.reduceLeDiff] <;> rfl)); rintro _ rfl) | ((first | with_reducible refine wG_decE (fun _ hG => ?_) (fun _ hG => ?_) | with_reducible refine wG_decFE (fun _ hG => ?_) (fun _ hG => ?_)) <;> (try simp -dsimp only [hG, decide_true, decide_false, not_true_eq_false, not_false_eq_true]) <;> clear hG)) <;> (try simp -dsimp (disch := first | omega | (simp only [go_sem]; omega)) only [go_sem, seval, Nat.reduceEqDiff, Nat.reduceLeDiff, hck])) | simp -dsimp (disch := first | omega | (simp only [go_sem]; omega)) only [go_sem, seval, Nat.reduceEqDiff, Nat.reduceLeDiff, hck]))
   · refine Fin.n rfl ?_
     unfold cutR; rw [if_pos hc, if_pos (by omega)]; rfl
   · have hsl : s.length ≤ 65536 := by omega
     refine W.loop (fun m st => ∃ k f out, k ≤ s.length ∧ f ≤ k ∧ m = s.length - k ∧ out ++ cutN c s (s.length - k) k f = cutL c s ∧
      st = (E [(1, .d (.str s)), (2, .ptr 0 2 1 0), (4, .ptr 0 4 1 0), (6, .own 1 (out.map .str)), (7, .d (.int .i64 f)), (8, .d (.int .i64 k))], HB [(2, ⟨1, some [.int .i64 c.mn, .int .i64 c.mx, .int .i64 c.bits]⟩), (4, ⟨1, some [.nilS, .int .i64 0]⟩)], [], noGh))
      ⟨_, _, st_le (by (simp -dsimp (disch := first | omega | (simp only [go_sem]; omega)) only [go_sem, seval, Nat.reduceEqDiff, Nat.reduceLeDiff] <;> ((repeat' apply And.intro) <;> first | exact VLe.refl _ | (apply vle_int; omega) | (apply vle_int; simp; done) | exact VLe.own _ _ | exact VLe.nilown _ | exact VLe.norm _))), 0, 0, [], by omega, by omega, rfl, rfl, rfl⟩ ?_
     rintro m st ⟨k, f, out, hk, hf, rfl, hout, rfl⟩
     (repeat (first | with_reducible refine W.seq ?_ | with_reducible refine W.block ?_ | ((first | with_reducible refine W.reg ?_ | with_reducible refine W.skip ?_ | with_reducible refine W.exit ?_ | with_reducible refine W.ret ?_ | with_reducible refine W.ifc ?_); simp -dsimp (disch := first | omega | (simp only [go_sem]; omega)) only [go_sem, seval, Nat.reduceEqDiff, Nat.reduceLeDiff])))
     refine wG_dec (fun h1 => ?_) (fun h1 => ?_)
     · have hk' : k < s.length := by omega
       have hm := markB_bound s k
       have hp := pow_le40 (k := c.bits.toNat) (by omega)
       have hmod : (markB s k).tmod (2 ^ c.bits.toNat) = markB s k % (2 ^ c.bits.toNat) := Int.tmod_eq_emod_of_nonneg hm.1
       have hp0 : ((2 : Int) ^ c.bits.toNat = 0) = False := eq_false (by omega)
       have hstep := cutN_step (c := c) (f := f) hk'
       have hlen : out.length ≤ 100000 := by
        have := congrArg List.length hout
        have hb : ∀ n k f, (cutN c s n k f).length ≤ n := by
         intro n
         induction n with
         | zero => intro k f; simp [cutN]
         | succ n ih => intro k f; simp only [cutN]; split <;> (have := ih (k + 1) f; have := ih (k + 1) (k + 1); simp; omega)
        have h2 := hb s.length 0 0
        rw [List.length_append] at this
        unfold cutL at this; omega
       (repeat' (first | with_reducible refine W.seq ?_ | with_reducible refine W.block ?_ | ((first | with_reducible refine W.reg ?_ | with_reducible refine W.skip ?_ | with_reducible refine W.exit ?_ | with_reducible refine W.ret ?_ | with_reducible refine W.ifc ?_ | (apply wC_P (mark_ok s k (by omega) (by omega) (by omega)); (focus (simp -dsimp (disch := first | omega | (simp only [go_sem]; omega)) only [go_sem, seval, Nat.reduceEqDiff, Nat.reduceLeDiff] <;> rfl)); rintro _ rfl) | (apply wC_P (power_ok c.bits (by omega) (by omega)); (focus (simp -dsimp (disch := first | omega | (simp only [go_sem]; omega)) only [go_sem, seval, Nat.reduceEqDiff, Nat.reduceLeDiff] <;> rfl)); rintro _ rfl) | ((first | with_reducible refine wG_decE (fun _ hG => ?_) (fun _ hG => ?_) | with_reducible refine wG_decFE (fun _ hG => ?_) (fun _ hG => ?_)) <;> (try simp -dsimp only [hG, decide_true, decide_false, not_true_eq_false, not_false_eq_true]) <;> clear hG)) <;> (try simp -dsimp (disch := first | omega | (simp only [go_sem]; omega)) only [go_sem, seval, Nat.reduceEqDiff, Nat.reduceLeDiff, hmod, hp0])) | simp -dsimp (disch := first | omega | (simp only [go_sem]; omega)) only [go_sem, seval, Nat.reduceEqDiff, Nat.reduceLeDiff, hmod, hp0]))
       all_goals
        first
        | (have hch : cutHere c s f k := by
            unfold cutHere
            first | exact .inl ⟨by omega, by first | assumption | (rw [← hmod]; assumption)⟩ | exact .inr (.inl (by omega)) | exact .inr (.inr (by omega))
           rw [hstep, if_pos hch] at hout
           refine ⟨_, _, ?_, st_le (by (simp -dsimp (disch := first | omega | (simp only [go_sem]; omega)) only [go_sem, seval, Nat.reduceEqDiff, Nat.reduceLeDiff] <;> ((repeat' apply And.intro) <;> first | exact VLe.refl _ | (apply vle_int; omega) | (apply vle_int; simp; done) | exact VLe.own _ _ | exact VLe.nilown _ | exact VLe.norm _))), k + 1, k + 1, out ++ [(s.take (k + 1)).drop f], by omega, by omega, rfl, by rw [List.append_assoc]; exact hout, rfl⟩
           omega)
        | (have hch : ¬ cutHere c s f k := by
            unfold cutHere
            rintro (⟨a, b⟩ | a | a)
            · first | omega | contradiction | (rw [← hmod] at b; first | omega | contradiction)
            · omega
            · omega
           rw [hstep, if_neg hch] at hout
           refine ⟨_, _, ?_, st_le (by (simp -dsimp (disch := first | omega | (simp only [go_sem]; omega)) only [go_sem, seval, Nat.reduceEqDiff, Nat.reduceLeDiff] <;> ((repeat' apply And.intro) <;> first | exact VLe.refl _ | (apply vle_int; omega) | (apply vle_int; simp; done) | exact VLe.own _ _ | exact VLe.nilown _ | exact VLe.norm _))), k + 1, f, out, by omega, by omega, rfl, hout, rfl⟩
           omega)
     · obtain rfl : k = s.length := by omega
       rw [cutN_end, List.append_nil] at hout
       (repeat (first | with_reducible refine W.seq ?_ | with_reducible refine W.block ?_ | ((first | with_reducible refine W.reg ?_ | with_reducible refine W.skip ?_ | with_reducible refine W.exit ?_ | with_reducible refine W.ret ?_ | with_reducible refine W.ifc ?_); simp -dsimp (disch := first | omega | (simp only [go_sem]; omega)) only [go_sem, seval, Nat.reduceEqDiff, Nat.reduceLeDiff])))
       refine Fin.n rfl ?_
       unfold cutR; rw [if_pos hc, if_neg (by omega), hout]
       simp -dsimp (disch := first | omega | (simp only [go_sem]; omega)) only [go_sem, seval, Nat.reduceEqDiff, Nat.reduceLeDiff, normL_of (f := D.str) (fun _ => norm_str _)]
 · have hck : checkC c = 3 := by unfold checkC; rw [if_neg hc]
   simp -dsimp (disch := first | omega | (simp only [go_sem]; omega)) only [go_sem, seval, Nat.reduceEqDiff, Nat.reduceLeDiff]
   (repeat' (first | with_reducible refine W.seq ?_ | with_reducible refine W.block ?_ | ((first | with_reducible refine W.reg ?_ | with_reducible refine W.skip ?_ | with_reducible refine W.exit ?_ | with_reducible refine W.ret ?_ | with_reducible refine W.ifc ?_ | (apply wC_P (refCheck_ok c); (focus (simp -dsimp (disch := first | omega | (simp only [go_sem]; omega)) only [go_sem, seval, Nat.reduceEqDiff, Nat.reduceLeDiff] <;> rfl)); rintro _ rfl) | ((first | with_reducible refine wG_decE (fun _ hG => ?_) (fun _ hG => ?_) | with_reducible refine wG_decFE (fun _ hG => ?_) (fun _ hG => ?_)) <;> (try simp -dsimp only [hG, decide_true, decide_false, not_true_eq_false, not_false_eq_true]) <;> clear hG)) <;> (try simp -dsimp (disch := first | omega | (simp only [go_sem]; omega)) only [go_sem, seval, Nat.reduceEqDiff, Nat.reduceLeDiff, hck])) | simp -dsimp (disch := first | omega | (simp only [go_sem]; omega)) only [go_sem, seval, Nat.reduceEqDiff, Nat.reduceLeDiff, hck]))
   refine Fin.n rfl ?_
   unfold cutR; rw [if_neg hc]; rfl
end Go.Proofs.Ytbcnnomgfheaoaa
