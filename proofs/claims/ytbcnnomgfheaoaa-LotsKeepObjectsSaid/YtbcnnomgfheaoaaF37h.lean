/-
 Layer 37 (chunk), continued: cutting, by the program.
 Conditions: of each contract as it says.
-/
import Derived.Test.YtbcnnomgfheaoaaF37g
namespace Go.Proofs.Ytbcnnomgfheaoaa
open Go Go.E2 C37
set_option linter.unusedSimpArgs false
set_option maxHeartbeats 1000000
theorem Cut_ok (c : Ct) (s : Str) : CallP Try.prog f_chunk_Cut [eT c, .str s] (· = .tup [.list ((cutR c s).1.map .str), .int .i64 (cutR c s).2]) := by
 refine CallP.of_deep (callT_of_W fol chunk_Cut_cp ?_)
 by_cases hc : okC c
 · have hck : checkC c = 0 := by unfold checkC; rw [if_pos hc]
   simp -dsimp (disch := first | omega | (simp only [go_sem]; omega)) only [go_sem, seval, Nat.reduceEqDiff, Nat.reduceLeDiff]
   (repeat (first | with_reducible refine W.seq ?_ | with_reducible refine W.block ?_ | ((first | with_reducible refine W.reg ?_ | with_reducible refine W.skip ?_ | with_reducible refine W.exit ?_ | with_reducible refine W.ret ?_ | with_reducible refine W.ifc ?_); simp -dsimp (disch := first | omega | (simp only [go_sem]; omega)) only [go_sem, seval, Nat.reduceEqDiff, Nat.reduceLeDiff])))
   refine wNew_mk fun b3 hb3 => ?_
   simp -dsimp (disch := first | omega | (simp only [go_sem]; omega)) only [go_sem, seval, Nat.reduceEqDiff, Nat.reduceLeDiff]
   (repeat' (first | with_reducible refine W.seq ?_ | with_reducible refine W.block ?_ | ((first | with_reducible refine W.reg ?_ | with_reducible refine W.skip ?_ | with_reducible refine W.exit ?_ | with_reducible refine W.ret ?_ | with_reducible refine W.ifc ?_ | (apply wC_P (Check_ok c); (focus (simp -dsimp (disch := first | omega | (simp only [go_sem]; omega)) only [go_sem, seval, Nat.reduceEqDiff, Nat.reduceLeDiff] <;> rfl)); rintro _ rfl) | ((first | with_reducible refine wG_decE (fun _ hG => ?_) (fun _ hG => ?_) | with_reducible refine wG_decFE (fun _ hG => ?_) (fun _ hG => ?_)) <;> (try simp -dsimp only [hG, decide_true, decide_false, not_true_eq_false, not_false_eq_true]) <;> clear hG)) <;> (try simp -dsimp (disch := first | omega | (simp only [go_sem]; omega)) only [go_sem, seval, Nat.reduceEqDiff, Nat.reduceLeDiff, hck])) | simp -dsimp (disch := first | omega | (simp only [go_sem]; omega)) only [go_sem, seval, Nat.reduceEqDiff, Nat.reduceLeDiff, hck]))
   · refine Fin.eq rfl ⟨rfl, _, .tup _ _ (.cons .nil (.cons (.refl _) .nil)), ?_⟩
     unfold cutR; rw [if_pos hc, if_pos (by omega)]; rfl
   · have hsl : s.length ≤ 65536 := by omega
     refine wNew_mk fun b7 hb7 => ?_
     simp -dsimp (disch := first | omega | (simp only [go_sem]; omega)) only [go_sem, seval, Nat.reduceEqDiff, Nat.reduceLeDiff]
     (repeat (first | with_reducible refine W.seq ?_ | with_reducible refine W.block ?_ | ((first | with_reducible refine W.reg ?_ | with_reducible refine W.skip ?_ | with_reducible refine W.exit ?_ | with_reducible refine W.ret ?_ | with_reducible refine W.ifc ?_); simp -dsimp (disch := first | omega | (simp only [go_sem]; omega)) only [go_sem, seval, Nat.reduceEqDiff, Nat.reduceLeDiff])))
     refine wNew_mk fun b8 hb8 => ?_
     simp -dsimp (disch := first | omega | (simp only [go_sem]; omega)) only [go_sem, seval, Nat.reduceEqDiff, Nat.reduceLeDiff]
     have h73 : b7 ≠ b3 := by rintro rfl; simp at hb7
     have h87 : b8 ≠ b7 := by rintro rfl; simp at hb8
     have h83 : b8 ≠ b3 := by rintro rfl; simp [upd_off h87] at hb8
     (repeat (first | with_reducible refine W.seq ?_ | with_reducible refine W.block ?_ | ((first | with_reducible refine W.reg ?_ | with_reducible refine W.skip ?_ | with_reducible refine W.exit ?_ | with_reducible refine W.ret ?_ | with_reducible refine W.ifc ?_); simp -dsimp (disch := first | omega | (simp only [go_sem]; omega)) only [go_sem, seval, Nat.reduceEqDiff, Nat.reduceLeDiff, upd_off h83.symm, upd_off h73.symm])))
     apply wC_g (cuts_ok c s _ _)
     focus (simp -dsimp (disch := first | omega | (simp only [go_sem]; omega)) only [go_sem, seval, Nat.reduceEqDiff, Nat.reduceLeDiff] <;> fail)
     focus (simp -dsimp (disch := first | omega | (simp only [go_sem]; omega)) only [go_sem, seval, Nat.reduceEqDiff, Nat.reduceLeDiff] <;> rfl)
     rintro _ _ ⟨b1, b2, hb1, hb2, rfl, rfl⟩
     have h18 : b1 ≠ b8 := by rintro rfl; simp at hb1
     have h17 : b1 ≠ b7 := by rintro rfl; simp [upd_off h87.symm, upd_off h18] at hb1
     have h13 : b1 ≠ b3 := by rintro rfl; simp [upd_off h18, upd_off h17] at hb1
     have h21 : b2 ≠ b1 := by rintro rfl; simp at hb2
     have h28 : b2 ≠ b8 := by rintro rfl; simp [upd_off h21] at hb2
     have h27 : b2 ≠ b7 := by rintro rfl; simp [upd_off h21, upd_off h28] at hb2
     have h23 : b2 ≠ b3 := by rintro rfl; simp [upd_off h21, upd_off h28, upd_off h27] at hb2
     simp -dsimp (disch := first | omega | (simp only [go_sem]; omega)) only [go_sem, seval, Nat.reduceEqDiff, Nat.reduceLeDiff]
     (repeat (first | with_reducible refine W.seq ?_ | with_reducible refine W.block ?_ | ((first | with_reducible refine W.reg ?_ | with_reducible refine W.skip ?_ | with_reducible refine W.exit ?_ | with_reducible refine W.ret ?_ | with_reducible refine W.ifc ?_); simp -dsimp (disch := first | omega | (simp only [go_sem]; omega)) only [go_sem, seval, Nat.reduceEqDiff, Nat.reduceLeDiff])))
     refine W.weaken (st_le (l' := [(20, .d (.clo f_chunk_cuts_1 [.gp b2 0, .gp b1 0])), (8, .d (.gp b8 0)), (7, .d (.gp b7 0)), (3, .d (.gp b3 0))]) (by (simp -dsimp (disch := first | omega | (simp only [go_sem]; omega)) only [go_sem, seval, Nat.reduceEqDiff, Nat.reduceLeDiff] <;> ((repeat' apply And.intro) <;> first | exact VLe.refl _ | (apply vle_int; omega) | (apply vle_int; simp; done) | exact VLe.own _ _ | exact VLe.nilown _ | exact VLe.norm _)))) ?_
     refine W.rangeF (caps := [.gp b2 0, .gp b1 0]) (called_of_compile chunk_cuts_1_cp) (by simp -dsimp (disch := first | omega | (simp only [go_sem]; omega)) only [go_sem, seval, Nat.reduceEqDiff, Nat.reduceLeDiff]) fun l hlm => ?_
     refine (cuts1_ok c s hc hsl b1 b2 l (fun ps G' => G'.m l = some (.loop Try.prog (E [(20, .d (.clo f_chunk_cuts_1 [.gp b2 0, .gp b1 0])), (8, .d (.gp b8 0)), (7, .d (.gp b7 0)), (3, .d (.gp b3 0))]) [21] chunk_Cut_y0a chunk_Cut_y0b) ∧
      G'.c b1 = some [.int .i64 c.mn, .int .i64 c.mx, .int .i64 c.bits] ∧ G'.c b2 = some [.str s] ∧ G'.c b3 = some [.str s] ∧ G'.c b8 = some [.int .i64 (lastP ps : Nat)] ∧
      ∃ x, G'.c b7 = some [x] ∧ GV 1 G' x ((pieces s 0 ps).map .str) ∧ (∀ o n k, x ≠ .gs b1 o n k) ∧ (∀ o n k, x ≠ .gs b2 o n k) ∧ (∀ o n k, x ≠ .gs b3 o n k) ∧ (∀ o n k, x ≠ .gs b7 o n k) ∧ (∀ o n k, x ≠ .gs b8 o n k)) _ _ ?_ (fun ps G' h => ⟨h.2.1, h.2.2.1⟩) ?_).mono ?_
     · refine ⟨by simp, by simp [upd_off h21.symm], by simp, ?_, ?_, .nilS, ?_, .nil, by simp, by simp, by simp, by simp, by simp⟩
       · simp [upd_off h23.symm, upd_off h13.symm, upd_off h83.symm, upd_off h73.symm]
       · simp [upd_off h28.symm, upd_off h18.symm, lastP]
       · simp [upd_off h27.symm, upd_off h17.symm, upd_off h87.symm]
     · rintro ps p gs G' hpre ⟨hm, hc1, hc2, hc3, hc8, x, hc7, hx, hx1, hx2, hx3, hx7, hx8⟩ σ
       obtain ⟨hlp, hpl⟩ := plcs_at hpre
       have hpl2 : (pieces s 0 ps).length ≤ 65537 := by
        have e : ∀ f ps, (pieces s f ps).length = ps.length := by
         intro f ps
         induction ps generalizing f with
         | nil => rfl
         | cons q qs ih => simp [pieces, ih]
        have hb : ∀ n k f, (plcN c s n k f).length ≤ n := by
         intro n
         induction n with
         | zero => intro k f; simp [plcN]
         | succ n ih => intro k f; simp only [plcN]; split <;> (have := ih (k + 1) f; have := ih (k + 1) (k + 1); simp; omega)
        have h1 := congrArg List.length hpre
        have h2 := hb s.length 0 0
        rw [List.length_append, List.length_cons] at h1
        unfold plcs at h1
        rw [e]; omega
       refine callY_of_W fol hm rfl (argEnv1_le _ [(8, .gp b8 0), (7, .gp b7 0), (3, .gp b3 0)] 21 (.int .i64 (p : Nat)) (by simp [E])) ?_
       simp -dsimp (disch := first | omega | (simp only [go_sem]; omega)) only [go_sem, seval, Nat.reduceEqDiff, Nat.reduceLeDiff]
       (repeat (first | with_reducible refine W.seq ?_ | with_reducible refine W.block ?_ | ((first | with_reducible refine W.reg ?_ | with_reducible refine W.skip ?_ | with_reducible refine W.exit ?_ | with_reducible refine W.ret ?_ | with_reducible refine W.ifc ?_); simp -dsimp (disch := first | omega | (simp only [go_sem]; omega)) only [go_sem, seval, Nat.reduceEqDiff, Nat.reduceLeDiff, hc7, hc3, hc8])))
       refine appV_GV2 (es2 := [.str ((s.take p).drop (lastP ps))]) hx.setM (viewC_list (es := [.str ((s.take p).drop (lastP ps))]) rfl) rfl rfl rfl (by rw [List.length_map]; show ((pieces s 0 ps).length + 1) * 16 ≤ mostBytes; rw [mostBytes_eq]; omega) fun x' G2 hg hto => ?_
       have hc1' := hto.fr b1 _ hc1 hx1
       have hc2' := hto.fr b2 _ hc2 hx2
       have hc3' := hto.fr b3 _ hc3 hx3
       have hc7' := hto.fr b7 _ hc7 hx7
       have hc8' := hto.fr b8 _ hc8 hx8
       have hx1' := hto.sep b1 _ hc1 hx1
       have hx2' := hto.sep b2 _ hc2 hx2
       have hx3' := hto.sep b3 _ hc3 hx3
       have hx7' := hto.sep b7 _ hc7 hx7
       have hx8' := hto.sep b8 _ hc8 hx8
       simp -dsimp (disch := first | omega | (simp only [go_sem]; omega)) only [go_sem, seval, Nat.reduceEqDiff, Nat.reduceLeDiff]
       (repeat (first | with_reducible refine W.seq ?_ | with_reducible refine W.block ?_ | ((first | with_reducible refine W.reg ?_ | with_reducible refine W.skip ?_ | with_reducible refine W.exit ?_ | with_reducible refine W.ret ?_ | with_reducible refine W.ifc ?_); simp -dsimp (disch := first | omega | (simp only [go_sem]; omega)) only [go_sem, seval, Nat.reduceEqDiff, Nat.reduceLeDiff, hc7'])))
       rcases hg.shape with rfl | ⟨b', n', cap', rfl⟩
       all_goals
        simp -dsimp (disch := first | omega | (simp only [go_sem]; omega)) only [go_sem, seval, Nat.reduceEqDiff, Nat.reduceLeDiff, hc7']
        (repeat (first | with_reducible refine W.seq ?_ | with_reducible refine W.block ?_ | ((first | with_reducible refine W.reg ?_ | with_reducible refine W.skip ?_ | with_reducible refine W.exit ?_ | with_reducible refine W.ret ?_ | with_reducible refine W.ifc ?_); simp -dsimp (disch := first | omega | (simp only [go_sem]; omega)) only [go_sem, seval, Nat.reduceEqDiff, Nat.reduceLeDiff, hc7', hc8', upd_off h87])))
        refine ⟨rfl, rfl, by simp, by simp [upd_off h18, upd_off h17, hc1'], by simp [upd_off h28, upd_off h27, hc2'], by simp [upd_off h83.symm, upd_off h73.symm, hc3'], by simp [lastP_snoc], _, by simp [upd_off h87.symm], ?_, hx1', hx2', hx3', hx7', hx8'⟩
        rw [pieces_snoc, List.map_append]
        exact ((hg.set hx7').set hx8').setM
     · rintro r lv G' ⟨rfl, hm, hc1, hc2, hc3, hc8, x, hc7, hx, -⟩
       refine ⟨rfl, .inl ⟨hm, ?_⟩⟩
       simp -dsimp (disch := first | omega | (simp only [go_sem]; omega)) only [go_sem, seval, Nat.reduceEqDiff, Nat.reduceLeDiff]
       (repeat (first | with_reducible refine W.seq ?_ | with_reducible refine W.block ?_ | ((first | with_reducible refine W.reg ?_ | with_reducible refine W.skip ?_ | with_reducible refine W.exit ?_ | with_reducible refine W.ret ?_ | with_reducible refine W.ifc ?_); simp -dsimp (disch := first | omega | (simp only [go_sem]; omega)) only [go_sem, seval, Nat.reduceEqDiff, Nat.reduceLeDiff, hc7])))
       refine Fin.eq rfl ⟨rfl, _, .tup _ _ (.cons hx.setM.dr (.cons (.refl _) .nil)), ?_⟩
       unfold cutR; rw [if_pos hc, if_neg (by omega)]
       unfold cutL plcs
       rw [cutN_pieces]
 · have hck : checkC c = 3 := by unfold checkC; rw [if_neg hc]
   simp -dsimp (disch := first | omega | (simp only [go_sem]; omega)) only [go_sem, seval, Nat.reduceEqDiff, Nat.reduceLeDiff]
   (repeat (first | with_reducible refine W.seq ?_ | with_reducible refine W.block ?_ | ((first | with_reducible refine W.reg ?_ | with_reducible refine W.skip ?_ | with_reducible refine W.exit ?_ | with_reducible refine W.ret ?_ | with_reducible refine W.ifc ?_); simp -dsimp (disch := first | omega | (simp only [go_sem]; omega)) only [go_sem, seval, Nat.reduceEqDiff, Nat.reduceLeDiff])))
   refine wNew_mk fun b3 hb3 => ?_
   simp -dsimp (disch := first | omega | (simp only [go_sem]; omega)) only [go_sem, seval, Nat.reduceEqDiff, Nat.reduceLeDiff]
   (repeat' (first | with_reducible refine W.seq ?_ | with_reducible refine W.block ?_ | ((first | with_reducible refine W.reg ?_ | with_reducible refine W.skip ?_ | with_reducible refine W.exit ?_ | with_reducible refine W.ret ?_ | with_reducible refine W.ifc ?_ | (apply wC_P (Check_ok c); (focus (simp -dsimp (disch := first | omega | (simp only [go_sem]; omega)) only [go_sem, seval, Nat.reduceEqDiff, Nat.reduceLeDiff] <;> rfl)); rintro _ rfl) | ((first | with_reducible refine wG_decE (fun _ hG => ?_) (fun _ hG => ?_) | with_reducible refine wG_decFE (fun _ hG => ?_) (fun _ hG => ?_)) <;> (try simp -dsimp only [hG, decide_true, decide_false, not_true_eq_false, not_false_eq_true]) <;> clear hG)) <;> (try simp -dsimp (disch := first | omega | (simp only [go_sem]; omega)) only [go_sem, seval, Nat.reduceEqDiff, Nat.reduceLeDiff, hck])) | simp -dsimp (disch := first | omega | (simp only [go_sem]; omega)) only [go_sem, seval, Nat.reduceEqDiff, Nat.reduceLeDiff, hck]))
   refine Fin.eq rfl ⟨rfl, _, .tup _ _ (.cons .nil (.cons (.refl _) .nil)), ?_⟩
   unfold cutR; rw [if_neg hc]; rfl
end Go.Proofs.Ytbcnnomgfheaoaa
