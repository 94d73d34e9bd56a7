/-
 Layer 22 (slots): the statement SlotsSurvive, walked.
 Conditions: none; every input.
-/
import Derived.Test.YtioojmlhmhgeeaaF22zd
namespace Go.Proofs.Ytioojmlhmhgeeaa
open Go Go.E2 C22
set_option linter.unusedSimpArgs false
set_option maxHeartbeats 2000000
theorem survive_ok (l : List Op5) (hw : ∀ o ∈ l, WfO o) : CallP Try.prog f_quietuslaw22_SlotsSurvive [.list (l.map eQ)] (· = .d (.bool true)) := by
 refine CallP.of_deep (callT_of_W fol quietuslaw22_SlotsSurvive_cp ?_)
 have hs : Sep ([] ++ []) noGh := trivial
 simp -dsimp (disch := first | omega | (simp only [go_sem]; omega)) only [go_sem, seval, Nat.reduceEqDiff, Nat.reduceLeDiff]
 (repeat (first | (with_reducible first | refine W.seq ?_ | refine W.block ?_) | ((with_reducible first | refine W.reg ?_ | refine W.skip ?_ | refine W.exit ?_ | refine W.ret ?_ | refine W.ifc ?_); simp -dsimp (disch := first | omega | (simp only [go_sem]; omega)) only [go_sem, seval, Nat.reduceEqDiff, Nat.reduceLeDiff])))
 (refine wC_sq (New_ok 6 (by omega) (by omega)) (hs) (by decide) ?_ ?_; (focus (simp -dsimp (disch := first | omega | (simp only [go_sem]; omega)) only [go_sem, seval, Nat.reduceEqDiff, Nat.reduceLeDiff] <;> rfl)))
 rintro _ _ G1 ⟨p, rfl, rfl⟩ hs1'
 have hs1 : Sep (DiskA p (fresh 6) :: []) G1 := hs1'
 clear hs1'
 by_cases hbig : 30 < l.length
 · have hbig' : (30 < (l.length : Int)) = True := eq_true (by omega)
   simp -dsimp (disch := first | omega | (simp only [go_sem]; omega)) only [go_sem, seval, Nat.reduceEqDiff, Nat.reduceLeDiff]
   (repeat' (first | (with_reducible first | refine W.seq ?_ | refine W.block ?_) | ((first | (with_reducible first | refine W.reg ?_ | refine W.skip ?_ | refine W.exit ?_ | refine W.ret ?_ | refine W.ifc ?_) | ((with_reducible first | refine wG_decE (fun _ hG => ?_) (fun _ hG => ?_) | refine wG_decFE (fun _ hG => ?_) (fun _ hG => ?_)) <;> (try simp -dsimp only [hG, decide_true, decide_false, not_true_eq_false, not_false_eq_true]) <;> clear hG)) <;> (try simp -dsimp (disch := first | omega | (simp only [go_sem]; omega)) only [go_sem, seval, Nat.reduceEqDiff, Nat.reduceLeDiff, hbig'])) | simp -dsimp (disch := first | omega | (simp only [go_sem]; omega)) only [go_sem, seval, Nat.reduceEqDiff, Nat.reduceLeDiff, hbig']))
   (refine wC_sq (sanity22_ok) ((show Sep ([] ++ (DiskA p (fresh 6) :: [])) G1 from hs1)) (by decide) ?_ ?_; (focus (simp -dsimp (disch := first | omega | (simp only [go_sem]; omega)) only [go_sem, seval, Nat.reduceEqDiff, Nat.reduceLeDiff] <;> rfl)))
   rintro _ _ G2 ⟨rfl, rfl⟩ hs2
   simp -dsimp (disch := first | omega | (simp only [go_sem]; omega)) only [go_sem, seval, Nat.reduceEqDiff, Nat.reduceLeDiff]
   (repeat (first | (with_reducible first | refine W.seq ?_ | refine W.block ?_) | ((with_reducible first | refine W.reg ?_ | refine W.skip ?_ | refine W.exit ?_ | refine W.ret ?_ | refine W.ifc ?_); simp -dsimp (disch := first | omega | (simp only [go_sem]; omega)) only [go_sem, seval, Nat.reduceEqDiff, Nat.reduceLeDiff])))
   exact Fin.eq rfl ⟨rfl, _, .refl _, rfl⟩
 have hbig' : (30 < (l.length : Int)) = False := eq_false (by omega)
 have hl30 : l.length ≤ 30 := by omega
 simp -dsimp (disch := first | omega | (simp only [go_sem]; omega)) only [go_sem, seval, Nat.reduceEqDiff, Nat.reduceLeDiff]
 (repeat' (first | (with_reducible first | refine W.seq ?_ | refine W.block ?_) | ((first | (with_reducible first | refine W.reg ?_ | refine W.skip ?_ | refine W.exit ?_ | refine W.ret ?_ | refine W.ifc ?_) | ((with_reducible first | refine wG_decE (fun _ hG => ?_) (fun _ hG => ?_) | refine wG_decFE (fun _ hG => ?_) (fun _ hG => ?_)) <;> (try simp -dsimp only [hG, decide_true, decide_false, not_true_eq_false, not_false_eq_true]) <;> clear hG)) <;> (try simp -dsimp (disch := first | omega | (simp only [go_sem]; omega)) only [go_sem, seval, Nat.reduceEqDiff, Nat.reduceLeDiff, hbig'])) | simp -dsimp (disch := first | omega | (simp only [go_sem]; omega)) only [go_sem, seval, Nat.reduceEqDiff, Nat.reduceLeDiff, hbig']))
 refine wNew_mk fun g hg => ?_
 have hs2 := Sep.new (cs := [.gp p 0, .nilP, .str [], .str [], .str [], .bool false, .int .i64 0, .str [], .int .i64 (-1), .int .i64 (-1), .int .i64 (-1)]) hg hs1
 generalize G1.set g (some [.gp p 0, .nilP, .str [], .str [], .str [], .bool false, .int .i64 0, .str [], .int .i64 (-1), .int .i64 (-1), .int .i64 (-1)]) = G2 at hs2 ⊢
 simp -dsimp (disch := first | omega | (simp only [go_sem]; omega)) only [go_sem, seval, Nat.reduceEqDiff, Nat.reduceLeDiff]
 (repeat (first | (with_reducible first | refine W.seq ?_ | refine W.block ?_) | ((with_reducible first | refine W.reg ?_ | refine W.skip ?_ | refine W.exit ?_ | refine W.ret ?_ | refine W.ifc ?_); simp -dsimp (disch := first | omega | (simp only [go_sem]; omega)) only [go_sem, seval, Nat.reduceEqDiff, Nat.reduceLeDiff])))
 (refine wC_sq (openS_ok p (fresh 6) 0 3 (by decide)) (hs2.swap) (by decide) ?_ ?_; (focus (simp -dsimp (disch := first | omega | (simp only [go_sem]; omega)) only [go_sem, seval, Nat.reduceEqDiff, Nat.reduceLeDiff] <;> rfl)))
 rintro r3 post3 G3 h3 hs3'
 rw [open_fresh] at h3
 obtain ⟨q0, rfl, rfl⟩ : ∃ q, r3 = .tup [.gp q 0, .list [eI 0, eI 1, eI 2], .int .i64 0] ∧ post3 = [StA q p 0 3, DiskA p (dN 9)] := by
  rcases h3 with ⟨_, q, h, h'⟩ | ⟨h, _⟩
  · exact ⟨q, h, h'⟩
  · exact absurd rfl h
 have hs3 : Sep (StA q0 p 0 3 :: DiskA p (dN 9) :: CellA g [.gp p 0, .nilP, .str [], .str [], .str [], .bool false, .int .i64 0, .str [], .int .i64 (-1), .int .i64 (-1), .int .i64 (-1)] :: []) G3 := hs3'
 clear hs3' h3
 simp -dsimp (disch := first | omega | (simp only [go_sem]; omega)) only [go_sem, seval, Nat.reduceEqDiff, Nat.reduceLeDiff]
 (repeat' (first | (with_reducible first | refine W.seq ?_ | refine W.block ?_) | ((first | (with_reducible first | refine W.reg ?_ | refine W.skip ?_ | refine W.exit ?_ | refine W.ret ?_ | refine W.ifc ?_) | ((with_reducible first | refine wG_decE (fun _ hG => ?_) (fun _ hG => ?_) | refine wG_decFE (fun _ hG => ?_) (fun _ hG => ?_)) <;> (try simp -dsimp only [hG, decide_true, decide_false, not_true_eq_false, not_false_eq_true]) <;> clear hG)) <;> (try simp -dsimp (disch := first | omega | (simp only [go_sem]; omega)) only [go_sem, seval, Nat.reduceEqDiff, Nat.reduceLeDiff])) | simp -dsimp (disch := first | omega | (simp only [go_sem]; omega)) only [go_sem, seval, Nat.reduceEqDiff, Nat.reduceLeDiff]))
 (refine wC_sq (Format_ok p (dN 9) 0 3 (by decide)) (hs3.tail) (by decide) ?_ ?_; (focus (simp -dsimp (disch := first | omega | (simp only [go_sem]; omega)) only [go_sem, seval, Nat.reduceEqDiff, Nat.reduceLeDiff] <;> rfl)))
 rw [fmt_dN]
 rintro _ _ G4 ⟨rfl, rfl⟩ hs4'
 have hs4 : Sep (DiskA p (dN 16) :: CellA g [.gp p 0, .nilP, .str [], .str [], .str [], .bool false, .int .i64 0, .str [], .int .i64 (-1), .int .i64 (-1), .int .i64 (-1)] :: []) G4 := hs4'
 clear hs4'
 simp -dsimp (disch := first | omega | (simp only [go_sem]; omega)) only [go_sem, seval, Nat.reduceEqDiff, Nat.reduceLeDiff]
 (repeat' (first | (with_reducible first | refine W.seq ?_ | refine W.block ?_) | ((first | (with_reducible first | refine W.reg ?_ | refine W.skip ?_ | refine W.exit ?_ | refine W.ret ?_ | refine W.ifc ?_) | ((with_reducible first | refine wG_decE (fun _ hG => ?_) (fun _ hG => ?_) | refine wG_decFE (fun _ hG => ?_) (fun _ hG => ?_)) <;> (try simp -dsimp only [hG, decide_true, decide_false, not_true_eq_false, not_false_eq_true]) <;> clear hG)) <;> (try simp -dsimp (disch := first | omega | (simp only [go_sem]; omega)) only [go_sem, seval, Nat.reduceEqDiff, Nat.reduceLeDiff])) | simp -dsimp (disch := first | omega | (simp only [go_sem]; omega)) only [go_sem, seval, Nat.reduceEqDiff, Nat.reduceLeDiff]))
 (refine wC_sq (openS_ok p (dN 16) 0 3 (by decide)) (hs4) (by decide) ?_ ?_; (focus (simp -dsimp (disch := first | omega | (simp only [go_sem]; omega)) only [go_sem, seval, Nat.reduceEqDiff, Nat.reduceLeDiff] <;> rfl)))
 rintro r3 post3 G5 h3 hs5'
 rw [open_dN] at h3
 obtain ⟨q1, rfl, rfl⟩ : ∃ q, r3 = .tup [.gp q 0, .list [], .int .i64 0] ∧ post3 = [StA q p 0 3, DiskA p (dN 16)] := by
  rcases h3 with ⟨_, q, h, h'⟩ | ⟨h, _⟩
  · exact ⟨q, h, h'⟩
  · exact absurd rfl h
 have hs5 : Sep (StA q1 p 0 3 :: DiskA p (dN 16) :: CellA g [.gp p 0, .nilP, .str [], .str [], .str [], .bool false, .int .i64 0, .str [], .int .i64 (-1), .int .i64 (-1), .int .i64 (-1)] :: []) G5 := hs5'
 clear hs5' h3
 have hs6 := hs5.f3
 have hc6 := hs6.get
 have hs7 : Sep (GuA g p q1 (fun _ => []) false 0 [] (fun _ => -1) :: StA q1 p 0 3 :: DiskA p (dN 16) :: []) (G5.set g (some (guC p q1 (fun _ => []) false 0 [] (fun _ => -1)))) := hs6.set (cs' := guC p q1 (fun _ => []) false 0 [] (fun _ => -1))
 have hG0 : GSt (dN 16) (fun _ => []) false 0 [] (fun _ => -1) 1 := .inl ⟨rfl, _, dN_qui (by omega) (by omega)⟩
 simp -dsimp (disch := first | omega | (simp only [go_sem]; omega)) only [go_sem, seval, Nat.reduceEqDiff, Nat.reduceLeDiff]
 (repeat' (first | (with_reducible first | refine W.seq ?_ | refine W.block ?_) | ((first | (with_reducible first | refine W.reg ?_ | refine W.skip ?_ | refine W.exit ?_ | refine W.ret ?_ | refine W.ifc ?_) | ((with_reducible first | refine wG_decE (fun _ hG => ?_) (fun _ hG => ?_) | refine wG_decFE (fun _ hG => ?_) (fun _ hG => ?_)) <;> (try simp -dsimp only [hG, decide_true, decide_false, not_true_eq_false, not_false_eq_true]) <;> clear hG)) <;> (try simp -dsimp (disch := first | omega | (simp only [go_sem]; omega)) only [go_sem, seval, Nat.reduceEqDiff, Nat.reduceLeDiff, hc6])) | simp -dsimp (disch := first | omega | (simp only [go_sem]; omega)) only [go_sem, seval, Nat.reduceEqDiff, Nat.reduceLeDiff, hc6]))
 refine W.loop (fun z st => ∃ (j : Nat) (d : Dk) (hv : Nat → Str) (pd : Bool) (sl : Int) (nx : Str) (rt : Nat → Int) (p q : Nat) (b9 : Blk) (G : Gh), j ≤ l.length ∧ z = l.length - j ∧ GSt d hv pd sl nx rt (1 + j) ∧ d.steps ≤ 16 + 6 * j ∧
  Sep (GuA g p q hv pd sl nx rt :: StA q p 0 3 :: DiskA p d :: []) G ∧
  st = (E [(4, .d (.gp g 0)), (69, .d (.list (l.map eQ))), (70, .d (.int .i64 l.length)), (71, .d (.int .i64 j))], HB [(9, b9)], [], G))
  ⟨_, _, st_leB (by (simp -dsimp (disch := first | omega | (simp only [go_sem]; omega)) only [go_sem, seval, Nat.reduceEqDiff, Nat.reduceLeDiff] <;> ((repeat' apply And.intro) <;> first | exact VLe.refl _ | (apply vle_int; omega) | (apply vle_int; simp; done) | exact VLe.own _ _ | exact VLe.nilown _ | exact VLe.norm _))) (HB_pad [] [9] rfl).symm, 0, _, _, false, 0, [], _, p, q1, _, _, by omega, rfl, hG0, by decide, hs7, rfl⟩ ?_
 rintro z st ⟨j, d, hv, pd, sl, nx, rt, p, q, b9, G6, hj, rfl, hG, hst, hs8, rfl⟩
 clear hs1 hs2 hs3 hs4 hs5 hs6 hs7
 (repeat (first | (with_reducible first | refine W.seq ?_ | refine W.block ?_) | ((with_reducible first | refine W.reg ?_ | refine W.skip ?_ | refine W.exit ?_ | refine W.ret ?_ | refine W.ifc ?_); simp -dsimp (disch := first | omega | (simp only [go_sem]; omega)) only [go_sem, seval, Nat.reduceEqDiff, Nat.reduceLeDiff])))
 refine wG_dec (fun g1 => ?_) (fun g1 => ?_)
 · have hj' : j < l.length := by omega
   have hwo := hw l[j] (List.getElem_mem _)
   have hn : (List.map eQ l)[j]? = some (eQ l[j]) := by rw [List.getElem?_map, List.getElem?_eq_getElem hj']; rfl
   have hs8' : Sep (CellA g (guC p q hv pd sl nx rt) :: StA q p 0 3 :: DiskA p d :: []) G6 := hs8
   have hc8 := hs8'.get
   obtain ⟨u, hu⟩ : ∃ u : Nat, (u : Int) = l[j].a % 18446744073709551616 := ⟨(l[j].a % 18446744073709551616).toNat, by omega⟩
   have hu1 : IntKind.u64.wrap l[j].a = (u : Int) := hu.symm
   have hult : (u : Int) < 18446744073709551616 := by omega
   obtain ⟨i, hi⟩ : ∃ i, i = u % 3 := ⟨_, rfl⟩
   obtain ⟨k, hk⟩ : ∃ k, k = u / 3 % 2 := ⟨_, rfl⟩
   have hi3 : i < 3 := by omega
   have hk2 : k < 2 := by omega
   have hu2 : (u : Int).tmod 3 = (i : Int) := by rw [Int.tmod_eq_emod_of_nonneg (by omega)]; omega
   obtain ⟨w, hw'⟩ : ∃ w, w = u / 3 := ⟨_, rfl⟩
   have hu3 : (u : Int).tdiv 3 = (w : Int) := by rw [Int.tdiv_eq_ediv_of_nonneg (by omega)]; omega
   have hu4 : (w : Int).tmod 2 = (k : Int) := by rw [Int.tmod_eq_emod_of_nonneg (by omega)]; omega
   have hw1 : (w : Int) ≤ 18446744073709551615 := by omega
   clear hw'
   have hi2' : (i : Int) ≤ 2 := by omega
   have hk1' : (k : Int) ≤ 1 := by omega
   clear hu hult hi hk
   cases pd
   case' true =>
    (repeat (first | (with_reducible first | refine W.seq ?_ | refine W.block ?_) | ((with_reducible first | refine W.reg ?_ | refine W.skip ?_ | refine W.exit ?_ | refine W.ret ?_ | refine W.ifc ?_); simp -dsimp (disch := first | omega | (simp only [go_sem]; omega)) only [go_sem, seval, Nat.reduceEqDiff, Nat.reduceLeDiff, hn, hc8, hu1, hu2])))
    (refine wC_sq (reopen_ok g p q d hv true sl nx rt (1 + j) hG (by omega) (by omega) l[j] hwo.k hwo.a1) (hs8) (by decide) ?_ ?_; (focus (simp -dsimp (disch := first | omega | (simp only [go_sem]; omega)) only [go_sem, seval, Nat.reduceEqDiff, Nat.reduceLeDiff] <;> rfl)))
    rintro _ _ GT ⟨rfl, p', q', d', hv', sl', nx', q2, rfl, hQ', hst''⟩ hsT
    have hst' : d'.steps ≤ 16 + 6 * ((j + 1 : Nat) : Int) := by omega
    clear hst''
   case' false =>
    obtain ⟨qn, hQ⟩ : ∃ qn, Qui d qn hv rt (1 + j) := by
     rcases hG with ⟨_, h⟩ | ⟨h, _⟩
     · exact h
     · cases h
    (repeat (first | (with_reducible first | refine W.seq ?_ | refine W.block ?_) | ((with_reducible first | refine W.reg ?_ | refine W.skip ?_ | refine W.exit ?_ | refine W.ret ?_ | refine W.ifc ?_); simp -dsimp (disch := first | omega | (simp only [go_sem]; omega)) only [go_sem, seval, Nat.reduceEqDiff, Nat.reduceLeDiff, hn, hc8, hu1, hu2])))
    refine (Decidable.em (l[j].kind = 4)).elim (fun k4 => ?k4) (fun k4 => ?n4)
    case' k4 =>
     have k4' : (l[j].kind = 4) = True := eq_true k4
     simp -dsimp (disch := first | omega | (simp only [go_sem]; omega)) only [go_sem, seval, Nat.reduceEqDiff, Nat.reduceLeDiff, k4']
     (repeat' (first | (with_reducible first | refine W.seq ?_ | refine W.block ?_) | ((first | (with_reducible first | refine W.reg ?_ | refine W.skip ?_ | refine W.exit ?_ | refine W.ret ?_ | refine W.ifc ?_) | ((with_reducible first | refine wG_decE (fun _ hG => ?_) (fun _ hG => ?_) | refine wG_decFE (fun _ hG => ?_) (fun _ hG => ?_)) <;> (try simp -dsimp only [hG, decide_true, decide_false, not_true_eq_false, not_false_eq_true]) <;> clear hG)) <;> (try simp -dsimp (disch := first | omega | (simp only [go_sem]; omega)) only [go_sem, seval, Nat.reduceEqDiff, Nat.reduceLeDiff, hn, hc8, hu1, hu2, k4'])) | simp -dsimp (disch := first | omega | (simp only [go_sem]; omega)) only [go_sem, seval, Nat.reduceEqDiff, Nat.reduceLeDiff, hn, hc8, hu1, hu2, k4']))
     (refine wC_sq (reopen_ok g p q d hv false sl nx rt (1 + j) hG (by omega) (by omega) l[j] hwo.k hwo.a1) (hs8) (by decide) ?_ ?_; (focus (simp -dsimp (disch := first | omega | (simp only [go_sem]; omega)) only [go_sem, seval, Nat.reduceEqDiff, Nat.reduceLeDiff] <;> rfl)))
     rintro _ _ GT ⟨rfl, p', q', d', hv', sl', nx', q2, rfl, hQ', hst''⟩ hsT
     have hst' : d'.steps ≤ 16 + 6 * ((j + 1 : Nat) : Int) := by omega
     clear hst''
    case' n4 =>
     have k4' := eq_false k4
     refine (Decidable.em (l[j].kind = 0)).elim (fun k0 => ?k0) (fun k0 => ?n0)
     case' k0 =>
      have k0a : (l[j].kind = 0) = True := eq_true k0
      have k1' : (l[j].kind = 1) = False := eq_false (by omega)
      have k3' : (l[j].kind = 3) = False := eq_false (by omega)
      have k5' : (l[j].kind = 5) = False := eq_false (by omega)
      refine (Decidable.em (1 ≤ l[j].b.length ∧ l[j].b.length ≤ 55)).elim (fun kb => ?kb) (fun kb => ?nb)
      case' kb =>
       have k0b : (1 ≤ (l[j].b.length : Int)) = True := eq_true (by omega)
       have k0c : ((l[j].b.length : Int) ≤ 55) = True := eq_true (by omega)
       simp -dsimp (disch := first | omega | (simp only [go_sem]; omega)) only [go_sem, seval, Nat.reduceEqDiff, Nat.reduceLeDiff, k4']
       (repeat' (first | (with_reducible first | refine W.seq ?_ | refine W.block ?_) | ((first | (with_reducible first | refine W.reg ?_ | refine W.skip ?_ | refine W.exit ?_ | refine W.ret ?_ | refine W.ifc ?_) | ((with_reducible first | refine wG_decE (fun _ hG => ?_) (fun _ hG => ?_) | refine wG_decFE (fun _ hG => ?_) (fun _ hG => ?_)) <;> (try simp -dsimp only [hG, decide_true, decide_false, not_true_eq_false, not_false_eq_true]) <;> clear hG)) <;> (try simp -dsimp (disch := first | omega | (simp only [go_sem]; omega)) only [go_sem, seval, Nat.reduceEqDiff, Nat.reduceLeDiff, hn, hc8, hu1, hu2, k4', k0a, k0b, k0c])) | simp -dsimp (disch := first | omega | (simp only [go_sem]; omega)) only [go_sem, seval, Nat.reduceEqDiff, Nat.reduceLeDiff, hn, hc8, hu1, hu2, k4', k0a, k0b, k0c]))
       (refine wC_sq (gchange_ok g p q d hv sl nx rt (1 + j) qn hQ (by omega) (by omega) i hi3 l[j].b kb.2) (hs8) (by decide) ?_ ?_; (focus (simp -dsimp (disch := first | omega | (simp only [go_sem]; omega)) only [go_sem, seval, Nat.reduceEqDiff, Nat.reduceLeDiff] <;> rfl)))
       rintro _ _ GT ⟨rfl, d', hv', pd', sl', nx', rt', rfl, hG', hst''⟩ hsT
       have hst' : d'.steps ≤ 16 + 6 * ((j + 1 : Nat) : Int) := by omega
       clear hst''
       refine hG'.elim (fun hh => ?c1) (fun hh => ?c1')
       case' c1 =>
        obtain ⟨rfl, qn', hQ'⟩ := hh
       case c1' =>
        obtain ⟨rfl, _⟩ := hh
        have hcT := Sep.get (b := g) hsT
        simp -dsimp (disch := first | omega | (simp only [go_sem]; omega)) only [go_sem, seval, Nat.reduceEqDiff, Nat.reduceLeDiff]
        (repeat' (first | (with_reducible first | refine W.seq ?_ | refine W.block ?_) | ((first | (with_reducible first | refine W.reg ?_ | refine W.skip ?_ | refine W.exit ?_ | refine W.ret ?_ | refine W.ifc ?_) | ((with_reducible first | refine wG_decE (fun _ hG => ?_) (fun _ hG => ?_) | refine wG_decFE (fun _ hG => ?_) (fun _ hG => ?_)) <;> (try simp -dsimp only [hG, decide_true, decide_false, not_true_eq_false, not_false_eq_true]) <;> clear hG)) <;> (try simp -dsimp (disch := first | omega | (simp only [go_sem]; omega)) only [go_sem, seval, Nat.reduceEqDiff, Nat.reduceLeDiff, hcT])) | simp -dsimp (disch := first | omega | (simp only [go_sem]; omega)) only [go_sem, seval, Nat.reduceEqDiff, Nat.reduceLeDiff, hcT]))
        refine ⟨_, _, ?_, st_le (by (simp -dsimp (disch := first | omega | (simp only [go_sem]; omega)) only [go_sem, seval, Nat.reduceEqDiff, Nat.reduceLeDiff] <;> ((repeat' apply And.intro) <;> first | exact VLe.refl _ | (apply vle_int; omega) | (apply vle_int; simp; done) | exact VLe.own _ _ | exact VLe.nilown _ | exact VLe.norm _))), j + 1, d', hv', true, sl', nx', rt', p, q, _, GT, by omega, rfl, hG'.mono (by omega), hst', hsT, rfl⟩
        omega
      case' nb =>
       have kbc : (1 ≤ (l[j].b.length : Int)) = True ∧ ((l[j].b.length : Int) ≤ 55) = False ∨ (1 ≤ (l[j].b.length : Int)) = False ∧ True = True := by
        by_cases h : 1 ≤ l[j].b.length
        · exact .inl ⟨eq_true (by omega), eq_false (by omega)⟩
        · exact .inr ⟨eq_false (by omega), rfl⟩
       rcases kbc with ⟨k0b, k0c⟩ | ⟨k0b, k0c⟩
       all_goals
        simp -dsimp (disch := first | omega | (simp only [go_sem]; omega)) only [go_sem, seval, Nat.reduceEqDiff, Nat.reduceLeDiff, k4']
        (repeat' (first | (with_reducible first | refine W.seq ?_ | refine W.block ?_) | ((first | (with_reducible first | refine W.reg ?_ | refine W.skip ?_ | refine W.exit ?_ | refine W.ret ?_ | refine W.ifc ?_) | ((with_reducible first | refine wG_decE (fun _ hG => ?_) (fun _ hG => ?_) | refine wG_decFE (fun _ hG => ?_) (fun _ hG => ?_)) <;> (try simp -dsimp only [hG, decide_true, decide_false, not_true_eq_false, not_false_eq_true]) <;> clear hG)) <;> (try simp -dsimp (disch := first | omega | (simp only [go_sem]; omega)) only [go_sem, seval, Nat.reduceEqDiff, Nat.reduceLeDiff, hn, hc8, hu1, hu2, k4', k0a, k0b, k0c, k1', k3', k5'])) | simp -dsimp (disch := first | omega | (simp only [go_sem]; omega)) only [go_sem, seval, Nat.reduceEqDiff, Nat.reduceLeDiff, hn, hc8, hu1, hu2, k4', k0a, k0b, k0c, k1', k3', k5']))
        have hsT := hs8
        have hQ' := hQ
        have hst' : d.steps ≤ 16 + 6 * ((j + 1 : Nat) : Int) := by omega
     case' n0 =>
      have k0a : (l[j].kind = 0) = False := eq_false k0
      refine (Decidable.em (l[j].kind = 1)).elim (fun k1 => ?k1) (fun k1 => ?n1)
      case' k1 =>
       have k1' : (l[j].kind = 1) = True := eq_true k1
       simp -dsimp (disch := first | omega | (simp only [go_sem]; omega)) only [go_sem, seval, Nat.reduceEqDiff, Nat.reduceLeDiff, k4']
       (repeat' (first | (with_reducible first | refine W.seq ?_ | refine W.block ?_) | ((first | (with_reducible first | refine W.reg ?_ | refine W.skip ?_ | refine W.exit ?_ | refine W.ret ?_ | refine W.ifc ?_) | ((with_reducible first | refine wG_decE (fun _ hG => ?_) (fun _ hG => ?_) | refine wG_decFE (fun _ hG => ?_) (fun _ hG => ?_)) <;> (try simp -dsimp only [hG, decide_true, decide_false, not_true_eq_false, not_false_eq_true]) <;> clear hG)) <;> (try simp -dsimp (disch := first | omega | (simp only [go_sem]; omega)) only [go_sem, seval, Nat.reduceEqDiff, Nat.reduceLeDiff, hn, hc8, hu1, hu2, k4', k0a, k1'])) | simp -dsimp (disch := first | omega | (simp only [go_sem]; omega)) only [go_sem, seval, Nat.reduceEqDiff, Nat.reduceLeDiff, hn, hc8, hu1, hu2, k4', k0a, k1']))
       (refine wC_sq (gchange_ok g p q d hv sl nx rt (1 + j) qn hQ (by omega) (by omega) i hi3 [] (by simp)) (hs8) (by decide) ?_ ?_; (focus (simp -dsimp (disch := first | omega | (simp only [go_sem]; omega)) only [go_sem, seval, Nat.reduceEqDiff, Nat.reduceLeDiff] <;> rfl)))
       rintro _ _ GT ⟨rfl, d', hv', pd', sl', nx', rt', rfl, hG', hst''⟩ hsT
       have hst' : d'.steps ≤ 16 + 6 * ((j + 1 : Nat) : Int) := by omega
       clear hst''
       refine hG'.elim (fun hh => ?c2) (fun hh => ?c2')
       case' c2 =>
        obtain ⟨rfl, qn', hQ'⟩ := hh
       case c2' =>
        obtain ⟨rfl, _⟩ := hh
        have hcT := Sep.get (b := g) hsT
        simp -dsimp (disch := first | omega | (simp only [go_sem]; omega)) only [go_sem, seval, Nat.reduceEqDiff, Nat.reduceLeDiff]
        (repeat' (first | (with_reducible first | refine W.seq ?_ | refine W.block ?_) | ((first | (with_reducible first | refine W.reg ?_ | refine W.skip ?_ | refine W.exit ?_ | refine W.ret ?_ | refine W.ifc ?_) | ((with_reducible first | refine wG_decE (fun _ hG => ?_) (fun _ hG => ?_) | refine wG_decFE (fun _ hG => ?_) (fun _ hG => ?_)) <;> (try simp -dsimp only [hG, decide_true, decide_false, not_true_eq_false, not_false_eq_true]) <;> clear hG)) <;> (try simp -dsimp (disch := first | omega | (simp only [go_sem]; omega)) only [go_sem, seval, Nat.reduceEqDiff, Nat.reduceLeDiff, hcT])) | simp -dsimp (disch := first | omega | (simp only [go_sem]; omega)) only [go_sem, seval, Nat.reduceEqDiff, Nat.reduceLeDiff, hcT]))
        refine ⟨_, _, ?_, st_le (by (simp -dsimp (disch := first | omega | (simp only [go_sem]; omega)) only [go_sem, seval, Nat.reduceEqDiff, Nat.reduceLeDiff] <;> ((repeat' apply And.intro) <;> first | exact VLe.refl _ | (apply vle_int; omega) | (apply vle_int; simp; done) | exact VLe.own _ _ | exact VLe.nilown _ | exact VLe.norm _))), j + 1, d', hv', true, sl', nx', rt', p, q, _, GT, by omega, rfl, hG'.mono (by omega), hst', hsT, rfl⟩
        omega
      case' n1 =>
       have k1' : (l[j].kind = 1) = False := eq_false k1
       refine (Decidable.em (l[j].kind = 3)).elim (fun k3 => ?k3) (fun k3 => ?n3)
       case' k3 =>
        have k3' : (l[j].kind = 3) = True := eq_true k3
        simp -dsimp (disch := first | omega | (simp only [go_sem]; omega)) only [go_sem, seval, Nat.reduceEqDiff, Nat.reduceLeDiff, k4']
        (repeat' (first | (with_reducible first | refine W.seq ?_ | refine W.block ?_) | ((first | (with_reducible first | refine W.reg ?_ | refine W.skip ?_ | refine W.exit ?_ | refine W.ret ?_ | refine W.ifc ?_) | ((with_reducible first | refine wG_decE (fun _ hG => ?_) (fun _ hG => ?_) | refine wG_decFE (fun _ hG => ?_) (fun _ hG => ?_)) <;> (try simp -dsimp only [hG, decide_true, decide_false, not_true_eq_false, not_false_eq_true]) <;> clear hG)) <;> (try simp -dsimp (disch := first | omega | (simp only [go_sem]; omega)) only [go_sem, seval, Nat.reduceEqDiff, Nat.reduceLeDiff, hn, hc8, hu1, hu2, k4', k0a, k1', k3'])) | simp -dsimp (disch := first | omega | (simp only [go_sem]; omega)) only [go_sem, seval, Nat.reduceEqDiff, Nat.reduceLeDiff, hn, hc8, hu1, hu2, k4', k0a, k1', k3']))
        (refine wC_sq (Arm_ok p d l[j].a hwo.a1) ((hs8.f3)) (by decide) ?_ ?_; (focus (simp -dsimp (disch := first | omega | (simp only [go_sem]; omega)) only [go_sem, seval, Nat.reduceEqDiff, Nat.reduceLeDiff] <;> rfl)))
        rintro _ _ GT rfl hsT''
        have hsT := Sep.b3 (R := []) hsT''
        clear hsT''
        have hQ' := hQ.arm hwo.a1
        have hst' : (arm d l[j].a).steps ≤ 16 + 6 * ((j + 1 : Nat) : Int) := by
         have : (arm d l[j].a).steps = d.steps := rfl
         omega
        generalize arm d l[j].a = d' at hsT hQ' hst'
       case' n3 =>
        have k3' : (l[j].kind = 3) = False := eq_false k3
        refine (Decidable.em (l[j].kind = 5)).elim (fun k5 => ?k5) (fun k5 => ?n5)
        case' n5 =>
         have k5' : (l[j].kind = 5) = False := eq_false k5
         simp -dsimp (disch := first | omega | (simp only [go_sem]; omega)) only [go_sem, seval, Nat.reduceEqDiff, Nat.reduceLeDiff, k4']
         (repeat' (first | (with_reducible first | refine W.seq ?_ | refine W.block ?_) | ((first | (with_reducible first | refine W.reg ?_ | refine W.skip ?_ | refine W.exit ?_ | refine W.ret ?_ | refine W.ifc ?_) | ((with_reducible first | refine wG_decE (fun _ hG => ?_) (fun _ hG => ?_) | refine wG_decFE (fun _ hG => ?_) (fun _ hG => ?_)) <;> (try simp -dsimp only [hG, decide_true, decide_false, not_true_eq_false, not_false_eq_true]) <;> clear hG)) <;> (try simp -dsimp (disch := first | omega | (simp only [go_sem]; omega)) only [go_sem, seval, Nat.reduceEqDiff, Nat.reduceLeDiff, hn, hc8, hu1, hu2, k4', k0a, k1', k3', k5'])) | simp -dsimp (disch := first | omega | (simp only [go_sem]; omega)) only [go_sem, seval, Nat.reduceEqDiff, Nat.reduceLeDiff, hn, hc8, hu1, hu2, k4', k0a, k1', k3', k5']))
         have hsT := hs8
         have hQ' := hQ
         have hst' : d.steps ≤ 16 + 6 * ((j + 1 : Nat) : Int) := by omega
        case' k5 =>
         have k5' : (l[j].kind = 5) = True := eq_true k5
         refine (by omega : i = 0 ∨ i = 1 ∨ i = 2).elim (fun h => ?i0) (fun h => h.elim (fun h => ?i1) (fun h => ?i2))
         case' i0 =>
          subst h
          obtain ⟨ad, had⟩ : ∃ ad : Int, 0 + (k : Int) = ad := ⟨_, rfl⟩
          have hro : (rt 0 < 0 ∨ rt 0 = k) → (rot d ad).2 = 0 ∧ Qui (rot d ad).1 qn hv (updN rt 0 k) (1 + j) ∧ (rot d ad).1.steps = d.steps := fun hr => by rw [← had]; exact hQ.rot (i := 0) (by omega) hk2 hr
          have hs9 : Sep (CellA g (guC p q hv false sl nx (updN rt 0 k)) :: StA q p 0 3 :: DiskA p d :: []) (G6.set g (some (guC p q hv false sl nx (updN rt 0 k)))) := Sep.set hs8'
          obtain ⟨r, hr⟩ : ∃ r, r = rt 0 := ⟨_, rfl⟩
         case' i1 =>
          subst h
          obtain ⟨ad, had⟩ : ∃ ad : Int, 2 + (k : Int) = ad := ⟨_, rfl⟩
          have hro : (rt 1 < 0 ∨ rt 1 = k) → (rot d ad).2 = 0 ∧ Qui (rot d ad).1 qn hv (updN rt 1 k) (1 + j) ∧ (rot d ad).1.steps = d.steps := fun hr => by rw [← had]; exact hQ.rot (i := 1) (by omega) hk2 hr
          have hs9 : Sep (CellA g (guC p q hv false sl nx (updN rt 1 k)) :: StA q p 0 3 :: DiskA p d :: []) (G6.set g (some (guC p q hv false sl nx (updN rt 1 k)))) := Sep.set hs8'
          obtain ⟨r, hr⟩ : ∃ r, r = rt 1 := ⟨_, rfl⟩
         case' i2 =>
          subst h
          obtain ⟨ad, had⟩ : ∃ ad : Int, 4 + (k : Int) = ad := ⟨_, rfl⟩
          have hro : (rt 2 < 0 ∨ rt 2 = k) → (rot d ad).2 = 0 ∧ Qui (rot d ad).1 qn hv (updN rt 2 k) (1 + j) ∧ (rot d ad).1.steps = d.steps := fun hr => by rw [← had]; exact hQ.rot (i := 2) (by omega) hk2 hr
          have hs9 : Sep (CellA g (guC p q hv false sl nx (updN rt 2 k)) :: StA q p 0 3 :: DiskA p d :: []) (G6.set g (some (guC p q hv false sl nx (updN rt 2 k)))) := Sep.set hs8'
          obtain ⟨r, hr⟩ : ∃ r, r = rt 2 := ⟨_, rfl⟩
         all_goals
          rw [← hr] at hro
          have hh : ((r < 0) = True ∧ True = True ∧ (r < 0 ∨ r = k)) ∨ ((r < 0) = False ∧ (r = (k : Int)) = True ∧ (r < 0 ∨ r = k)) ∨ ((r < 0) = False ∧ (r = (k : Int)) = False ∧ True) := by
           by_cases r0 : r < 0
           · exact .inl ⟨eq_true r0, rfl, .inl r0⟩
           · by_cases r1 : r = (k : Int)
             · exact .inr (.inl ⟨eq_false r0, eq_true r1, .inr r1⟩)
             · exact .inr (.inr ⟨eq_false r0, eq_false r1, trivial⟩)
          rcases hh with ⟨r0', r1', hr2⟩ | ⟨r0', r1', hr2⟩ | ⟨r0', r1', hr2⟩
         all_goals
          simp -dsimp (disch := first | omega | (simp only [go_sem]; omega)) only [go_sem, seval, Nat.reduceEqDiff, Nat.reduceLeDiff, k4']
          (repeat' (first | (with_reducible first | refine W.seq ?_ | refine W.block ?_) | ((first | (with_reducible first | refine W.reg ?_ | refine W.skip ?_ | refine W.exit ?_ | refine W.ret ?_ | refine W.ifc ?_) | ((with_reducible first | refine wG_decE (fun _ hG => ?_) (fun _ hG => ?_) | refine wG_decFE (fun _ hG => ?_) (fun _ hG => ?_)) <;> (try simp -dsimp only [hG, decide_true, decide_false, not_true_eq_false, not_false_eq_true]) <;> clear hG)) <;> (try simp -dsimp (disch := first | omega | (simp only [go_sem]; omega)) only [go_sem, seval, Nat.reduceEqDiff, Nat.reduceLeDiff, hn, hc8, hu1, hu2, k4', k0a, k1', k3', k5', hu3, hu4, had, ← hr, r0', r1'])) | simp -dsimp (disch := first | omega | (simp only [go_sem]; omega)) only [go_sem, seval, Nat.reduceEqDiff, Nat.reduceLeDiff, hn, hc8, hu1, hu2, k4', k0a, k1', k3', k5', hu3, hu4, had, ← hr, r0', r1']))
         all_goals first
          | (have hsT := hs8
             have hQ' := hQ
             have hst' : d.steps ≤ 16 + 6 * ((j + 1 : Nat) : Int) := by omega
             have hnot : (r < 0 ∨ r = (k : Int)) = False := eq_false (fun h => h.elim (of_eq_false r0') (of_eq_false r1')))
          | ((refine wC_sq (Rot_ok p d ad) (hs9.f3) (by decide) ?_ ?_; (focus (simp -dsimp (disch := first | omega | (simp only [go_sem]; omega)) only [go_sem, seval, Nat.reduceEqDiff, Nat.reduceLeDiff] <;> rfl)))
             rintro _ _ GT ⟨rfl, rfl⟩ hsT''
             have hsT := Sep.b3 (R := []) hsT''
             clear hsT''
             obtain ⟨ro1, hQ', ro3⟩ := hro hr2
             have hst' : (rot d ad).1.steps ≤ 16 + 6 * ((j + 1 : Nat) : Int) := by omega
             rw [ro1]
             generalize (rot d ad).1 = d' at hsT hQ' hst')
   all_goals
    have hcT := Sep.get (b := g) hsT
    try (simp -dsimp (disch := first | omega | (simp only [go_sem]; omega)) only [go_sem, seval, Nat.reduceEqDiff, Nat.reduceLeDiff])
    try ((repeat' (first | (with_reducible first | refine W.seq ?_ | refine W.block ?_) | ((first | (with_reducible first | refine W.reg ?_ | refine W.skip ?_ | refine W.exit ?_ | refine W.ret ?_ | refine W.ifc ?_) | ((with_reducible first | refine wG_decE (fun _ hG => ?_) (fun _ hG => ?_) | refine wG_decFE (fun _ hG => ?_) (fun _ hG => ?_)) <;> (try simp -dsimp only [hG, decide_true, decide_false, not_true_eq_false, not_false_eq_true]) <;> clear hG)) <;> (try simp -dsimp (disch := first | omega | (simp only [go_sem]; omega)) only [go_sem, seval, Nat.reduceEqDiff, Nat.reduceLeDiff, hcT])) | simp -dsimp (disch := first | omega | (simp only [go_sem]; omega)) only [go_sem, seval, Nat.reduceEqDiff, Nat.reduceLeDiff, hcT])))
    (refine wC_sq (right_ok g _ _ _ _ false _ _ _ (fun i hi => hQ'.get (by omega) hi)) (hsT) (by decide) ?_ ?_; (focus (simp -dsimp (disch := first | omega | (simp only [go_sem]; omega)) only [go_sem, seval, Nat.reduceEqDiff, Nat.reduceLeDiff] <;> rfl)))
    rintro _ _ GU ⟨rfl, rfl⟩ hsU
    simp -dsimp (disch := first | omega | (simp only [go_sem]; omega)) only [go_sem, seval, Nat.reduceEqDiff, Nat.reduceLeDiff]
    (repeat' (first | (with_reducible first | refine W.seq ?_ | refine W.block ?_) | ((first | (with_reducible first | refine W.reg ?_ | refine W.skip ?_ | refine W.exit ?_ | refine W.ret ?_ | refine W.ifc ?_) | ((with_reducible first | refine wG_decE (fun _ hG => ?_) (fun _ hG => ?_) | refine wG_decFE (fun _ hG => ?_) (fun _ hG => ?_)) <;> (try simp -dsimp only [hG, decide_true, decide_false, not_true_eq_false, not_false_eq_true]) <;> clear hG)) <;> (try simp -dsimp (disch := first | omega | (simp only [go_sem]; omega)) only [go_sem, seval, Nat.reduceEqDiff, Nat.reduceLeDiff])) | simp -dsimp (disch := first | omega | (simp only [go_sem]; omega)) only [go_sem, seval, Nat.reduceEqDiff, Nat.reduceLeDiff]))
    refine ⟨_, _, ?_, st_le (by (simp -dsimp (disch := first | omega | (simp only [go_sem]; omega)) only [go_sem, seval, Nat.reduceEqDiff, Nat.reduceLeDiff] <;> ((repeat' apply And.intro) <;> first | exact VLe.refl _ | (apply vle_int; omega) | (apply vle_int; simp; done) | exact VLe.own _ _ | exact VLe.nilown _ | exact VLe.norm _))), j + 1, _, _, false, _, _, _, _, _, _, GU, by omega, rfl, .inl ⟨rfl, _, hQ'.mono (by omega)⟩, hst', hsU, rfl⟩
    omega
 · obtain rfl : j = l.length := by omega
   (repeat (first | (with_reducible first | refine W.seq ?_ | refine W.block ?_) | ((with_reducible first | refine W.reg ?_ | refine W.skip ?_ | refine W.exit ?_ | refine W.ret ?_ | refine W.ifc ?_); simp -dsimp (disch := first | omega | (simp only [go_sem]; omega)) only [go_sem, seval, Nat.reduceEqDiff, Nat.reduceLeDiff])))
   (refine wC_sq (sanity22_ok) ((show Sep ([] ++ _) G6 from hs8)) (by decide) ?_ ?_; (focus (simp -dsimp (disch := first | omega | (simp only [go_sem]; omega)) only [go_sem, seval, Nat.reduceEqDiff, Nat.reduceLeDiff] <;> rfl)))
   rintro _ _ G7 ⟨rfl, rfl⟩ hs9
   simp -dsimp (disch := first | omega | (simp only [go_sem]; omega)) only [go_sem, seval, Nat.reduceEqDiff, Nat.reduceLeDiff]
   (repeat (first | (with_reducible first | refine W.seq ?_ | refine W.block ?_) | ((with_reducible first | refine W.reg ?_ | refine W.skip ?_ | refine W.exit ?_ | refine W.ret ?_ | refine W.ifc ?_); simp -dsimp (disch := first | omega | (simp only [go_sem]; omega)) only [go_sem, seval, Nat.reduceEqDiff, Nat.reduceLeDiff])))
   exact Fin.eq rfl ⟨rfl, _, .refl _, rfl⟩
end Go.Proofs.Ytioojmlhmhgeeaa
