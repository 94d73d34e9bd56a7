/-
 Layer 21 (disk): the statement DiskKeepsWhatIsSure.
 Conditions: none; every input.
-/
import Derived.Test.YtioojmlhmhgeeaaF22l
namespace Go.Proofs.Ytioojmlhmhgeeaa
open Go Go.E2 C22
set_option linter.unusedSimpArgs false
set_option maxHeartbeats 1000000
/-! ### the plain law -/
theorem kept_op (c : Cel) (x : Int) : (kept c x).op = [] := by
 unfold kept
 split
 · rfl
 · split
   · rfl
   · split <;> rfl
theorem celRd_shut {c : Cel} (h : c.op = []) : celRd c = if c.bad = true then (z0, 14) else (c.s, 0) := by unfold celRd; rw [h]; rfl
theorem kept_may {c : Cel} (hb : c.bad = false) (hne : c.op ≠ []) (x : Int) :
 celRd (kept c x) = (z0, 14) ∨ (celRd (kept c x)).2 = 0 ∧ (possB (celRd (kept c x)).1 c.s c.op || decide ((celRd (kept c x)).1 = tornOf c.s c.op)) = true := by
 have hl0 : 0 < c.op.length := List.length_pos_iff.2 hne
 obtain ⟨b1, b2⟩ := rem_bounds c.op.length x
 obtain ⟨b3, b4⟩ := rem_pos c.op.length x
 rw [celRd_shut (kept_op c x)]
 unfold kept
 split
 · right
   simp [hb, possB]
 · split
   · right
     rename_i h1 h2
     have hi : (remOf c.op.length x).toNat - 1 < c.op.length := by omega
     refine ⟨rfl, ?_⟩
     simp only [List.getElem?_eq_getElem hi, Option.getD_some, Bool.false_eq_true, if_false]
     rw [Bool.or_eq_true]
     left
     unfold possB
     rw [Bool.or_eq_true]
     right
     rw [List.any_eq_true]
     exact ⟨_, List.getElem_mem hi, by simp⟩
   · split
     · left; rfl
     · right
       refine ⟨rfl, ?_⟩
       rw [Bool.or_eq_true]
       right
       simp [tornOf]
theorem crash_cel {d : Dk} {keep : List Int} {i : Nat} (hi : i < d.cs.length) : ∃ x, (crash d keep).cs[i]? = some (if d.cs[i].op = [] then d.cs[i] else kept d.cs[i] x) := ⟨_, crashL_get hi⟩
theorem rd_live {d : Dk} (hd : d.dead = false) {i : Nat} {c : Cel} (h : d.cs[i]? = some c) : rd d i = celRd c := by
 have hl := (List.getElem?_eq_some_iff.1 h).1
 have hk : chk d i = 0 := by unfold chk; rw [if_neg (by rw [hd]; simp), if_neg (by omega)]
 unfold rd
 rw [if_neg (by rw [hk]; simp), Int.toNat_natCast, h]
theorem crash_len (d : Dk) (keep : List Int) : (crash d keep).cs.length = d.cs.length := crashL_len _ _ _
theorem openL_shut {d : Dk} (h : ∀ c ∈ d.cs, c.op = []) : openL d = [] := by
 unfold openL
 rw [List.flatMap_eq_nil_iff]
 intro i hi
 rw [opAt_get (List.mem_range.1 hi), h _ (List.getElem_mem _)]
 rfl
theorem crash_shut {d : Dk} (keep : List Int) (hk : Okd d) : openL (crash d keep) = [] := openL_shut (crash_ok hk keep).2
theorem sur_get {cs : List Cel} {i : Nat} (h : i < cs.length) : List.take 64 (List.drop (i * 64) (flat (surL cs))) = cs[i].s.1.map eB := by
 have := flat_get (es := surL cs) (n := i) (surL_ok cs) (e := eS cs[i].s) (by simp [surL, h])
 rw [← this]; rfl
/-! ### the walk -/
theorem keepsSure_ok (l : List Wr) (sn : Int) (h0 : 0 ≤ sn) (h1 : sn < 256) (keep : List Int) : CallP Try.prog f_quietuslaw21_DiskKeepsWhatIsSure [.list (l.map eW), .int .u8 sn, .list (keep.map eI)] (· = .d (.bool true)) := by
 refine CallP.of_deep (callT_of_W fol quietuslaw21_DiskKeepsWhatIsSure_cp ?_)
 have hs : Sep ([] ++ []) noGh := trivial
 by_cases hbig : 40 < l.length ∨ 20 < keep.length
 · simp -dsimp (disch := first | omega | (simp only [go_sem]; omega)) only [go_sem, seval, Nat.reduceEqDiff, Nat.reduceLeDiff]
   (repeat' (first | with_reducible refine W.seq ?_ | with_reducible refine W.block ?_ | ((first | with_reducible refine W.reg ?_ | with_reducible refine W.skip ?_ | with_reducible refine W.exit ?_ | with_reducible refine W.ret ?_ | with_reducible refine W.ifc ?_ | ((first | with_reducible refine wG_decE (fun _ hG => ?_) (fun _ hG => ?_) | with_reducible refine wG_decFE (fun _ hG => ?_) (fun _ hG => ?_)) <;> (try simp -dsimp only [hG, decide_true, decide_false, not_true_eq_false, not_false_eq_true]) <;> clear hG)) <;> (try simp -dsimp (disch := first | omega | (simp only [go_sem]; omega)) only [go_sem, seval, Nat.reduceEqDiff, Nat.reduceLeDiff])) | simp -dsimp (disch := first | omega | (simp only [go_sem]; omega)) only [go_sem, seval, Nat.reduceEqDiff, Nat.reduceLeDiff]))
   all_goals try omega
   all_goals
    (refine wC_s (sanity21_ok) (hs) ?_ ?_; (focus (simp -dsimp (disch := first | omega | (simp only [go_sem]; omega)) only [go_sem, seval, Nat.reduceEqDiff, Nat.reduceLeDiff] <;> rfl)))
    rintro _ _ G2 ⟨rfl, rfl⟩ hs2
    simp -dsimp (disch := first | omega | (simp only [go_sem]; omega)) only [go_sem, seval, Nat.reduceEqDiff, Nat.reduceLeDiff]
    (repeat (first | with_reducible refine W.seq ?_ | with_reducible refine W.block ?_ | ((first | with_reducible refine W.reg ?_ | with_reducible refine W.skip ?_ | with_reducible refine W.exit ?_ | with_reducible refine W.ret ?_ | with_reducible refine W.ifc ?_); simp -dsimp (disch := first | omega | (simp only [go_sem]; omega)) only [go_sem, seval, Nat.reduceEqDiff, Nat.reduceLeDiff])))
    exact Fin.eq rfl ⟨rfl, _, .refl _, rfl⟩
 have hl1 : l.length ≤ 40 := by omega
 have hl2 : keep.length ≤ 20 := by omega
 simp -dsimp (disch := first | omega | (simp only [go_sem]; omega)) only [go_sem, seval, Nat.reduceEqDiff, Nat.reduceLeDiff]
 (repeat' (first | with_reducible refine W.seq ?_ | with_reducible refine W.block ?_ | ((first | with_reducible refine W.reg ?_ | with_reducible refine W.skip ?_ | with_reducible refine W.exit ?_ | with_reducible refine W.ret ?_ | with_reducible refine W.ifc ?_ | ((first | with_reducible refine wG_decE (fun _ hG => ?_) (fun _ hG => ?_) | with_reducible refine wG_decFE (fun _ hG => ?_) (fun _ hG => ?_)) <;> (try simp -dsimp only [hG, decide_true, decide_false, not_true_eq_false, not_false_eq_true]) <;> clear hG)) <;> (try simp -dsimp (disch := first | omega | (simp only [go_sem]; omega)) only [go_sem, seval, Nat.reduceEqDiff, Nat.reduceLeDiff])) | simp -dsimp (disch := first | omega | (simp only [go_sem]; omega)) only [go_sem, seval, Nat.reduceEqDiff, Nat.reduceLeDiff]))
 all_goals try omega
 (refine wC_s (written_ok l (by omega) (sn.tmod 41)) (hs) ?_ ?_; (focus (simp -dsimp (disch := first | omega | (simp only [go_sem]; omega)) only [go_sem, seval, Nat.reduceEqDiff, Nat.reduceLeDiff] <;> rfl)))
 rintro _ _ G2 ⟨p, d, xs, hw, hxl, -, rfl, rfl⟩ hs2
 have hs2 : Sep (DiskA p d :: OpsA xs (opsL d.cs) :: []) G2 := hs2
 have hdl := hw.len
 have hfl := sur_len d.cs
 rw [hdl] at hfl
 have hf2 : List.take 1024 (flat (surL d.cs)) = flat (surL d.cs) := List.take_of_length_le (by omega)
 have hf3 : List.take 16 xs = xs := List.take_of_length_le (by omega)
 have hf6 := flat_one (surL_ok d.cs)
 have hf7 := OpsA.ones (by rw [hxl, opsL, List.length_map, hdl]) hs2.swap
 have hz1 : (zr 1024 (D.int .u8 0)).length = 1024 := zr_len _ _
 have hz2 : (zr 1024 (D.int .u8 0)).drop 1024 = [] := List.drop_of_length_le (by rw [hz1]; omega)
 generalize zr 1024 (D.int .u8 0) = z5 at hz1 hz2 ⊢
 have hz3 : (zr 16 D.nilS).length = 16 := zr_len _ _
 have hz4 : (zr 16 D.nilS).drop 16 = [] := List.drop_of_length_le (by rw [hz3]; omega)
 generalize zr 16 D.nilS = z6 at hz3 hz4 ⊢
 simp -dsimp (disch := first | omega | (simp only [go_sem]; omega)) only [go_sem, seval, Nat.reduceEqDiff, Nat.reduceLeDiff, hfl, hf2, hf3, hf6, hf7, hxl, hz1, hz2, hz3, hz4]
 (repeat (first | with_reducible refine W.seq ?_ | with_reducible refine W.block ?_ | ((first | with_reducible refine W.reg ?_ | with_reducible refine W.skip ?_ | with_reducible refine W.exit ?_ | with_reducible refine W.ret ?_ | with_reducible refine W.ifc ?_); simp -dsimp (disch := first | omega | (simp only [go_sem]; omega)) only [go_sem, seval, Nat.reduceEqDiff, Nat.reduceLeDiff, hfl, hf2, hf3, hf6, hf7, hxl, hz1, hz2, hz3, hz4])))
 (refine wC_s (Crash_ok p d keep (by omega)) (hs2) ?_ ?_; (focus (simp -dsimp (disch := first | omega | (simp only [go_sem]; omega)) only [go_sem, seval, Nat.reduceEqDiff, Nat.reduceLeDiff] <;> rfl)))
 rintro _ _ G3 ⟨q, rfl, rfl⟩ hs3
 have hs3 : Sep (DiskA q (crash d keep) :: DiskA p d :: OpsA xs (opsL d.cs) :: []) G3 := hs3
 have c1 : ((crash d keep).cs.length : Int) = 16 := by rw [crash_len, hdl]; rfl
 have c2 : (crash d keep).dead = false := rfl
 have c3 : (crash d keep).steps = 0 := rfl
 have c4 := crash_shut keep hw.ok
 simp -dsimp (disch := first | omega | (simp only [go_sem]; omega)) only [go_sem, seval, Nat.reduceEqDiff, Nat.reduceLeDiff, c1, c2, c3]
 (repeat' (first | with_reducible refine W.seq ?_ | with_reducible refine W.block ?_ | ((first | with_reducible refine W.reg ?_ | with_reducible refine W.skip ?_ | with_reducible refine W.exit ?_ | with_reducible refine W.ret ?_ | with_reducible refine W.ifc ?_ | (apply wC_Q ((Size_ok q (crash d keep)).q hs3); (focus (simp -dsimp (disch := first | omega | (simp only [go_sem]; omega)) only [go_sem, seval, Nat.reduceEqDiff, Nat.reduceLeDiff, c1] <;> rfl)); rintro _ rfl; try simp -dsimp (disch := first | omega | (simp only [go_sem]; omega)) only [go_sem, seval, Nat.reduceEqDiff, Nat.reduceLeDiff, c1]) | (apply wC_Q ((Down_ok q (crash d keep)).q hs3); (focus (simp -dsimp (disch := first | omega | (simp only [go_sem]; omega)) only [go_sem, seval, Nat.reduceEqDiff, Nat.reduceLeDiff, c2] <;> rfl)); rintro _ rfl; try simp -dsimp (disch := first | omega | (simp only [go_sem]; omega)) only [go_sem, seval, Nat.reduceEqDiff, Nat.reduceLeDiff, c2]) | (apply wC_Q ((Steps_ok q (crash d keep)).q hs3); (focus (simp -dsimp (disch := first | omega | (simp only [go_sem]; omega)) only [go_sem, seval, Nat.reduceEqDiff, Nat.reduceLeDiff, c3] <;> rfl)); rintro _ rfl; try simp -dsimp (disch := first | omega | (simp only [go_sem]; omega)) only [go_sem, seval, Nat.reduceEqDiff, Nat.reduceLeDiff, c3]) | ((first | with_reducible refine wG_decE (fun _ hG => ?_) (fun _ hG => ?_) | with_reducible refine wG_decFE (fun _ hG => ?_) (fun _ hG => ?_)) <;> (try simp -dsimp only [hG, decide_true, decide_false, not_true_eq_false, not_false_eq_true]) <;> clear hG)) <;> (try simp -dsimp (disch := first | omega | (simp only [go_sem]; omega)) only [go_sem, seval, Nat.reduceEqDiff, Nat.reduceLeDiff, c1, c2, c3])) | simp -dsimp (disch := first | omega | (simp only [go_sem]; omega)) only [go_sem, seval, Nat.reduceEqDiff, Nat.reduceLeDiff, c1, c2, c3]))
 (refine wC_s (Open_ok q (crash d keep) (by rw [c4]; decide)) (hs3) ?_ ?_; (focus (simp -dsimp (disch := first | omega | (simp only [go_sem]; omega)) only [go_sem, seval, Nat.reduceEqDiff, Nat.reduceLeDiff] <;> rfl)))
 rintro _ _ G4 ⟨rfl, rfl⟩ hs4
 have hs4 : Sep (DiskA q (crash d keep) :: DiskA p d :: OpsA xs (opsL d.cs) :: []) G4 := hs4
 simp -dsimp (disch := first | omega | (simp only [go_sem]; omega)) only [go_sem, seval, Nat.reduceEqDiff, Nat.reduceLeDiff, c4]
 (repeat' (first | with_reducible refine W.seq ?_ | with_reducible refine W.block ?_ | ((first | with_reducible refine W.reg ?_ | with_reducible refine W.skip ?_ | with_reducible refine W.exit ?_ | with_reducible refine W.ret ?_ | with_reducible refine W.ifc ?_ | ((first | with_reducible refine wG_decE (fun _ hG => ?_) (fun _ hG => ?_) | with_reducible refine wG_decFE (fun _ hG => ?_) (fun _ hG => ?_)) <;> (try simp -dsimp only [hG, decide_true, decide_false, not_true_eq_false, not_false_eq_true]) <;> clear hG)) <;> (try simp -dsimp (disch := first | omega | (simp only [go_sem]; omega)) only [go_sem, seval, Nat.reduceEqDiff, Nat.reduceLeDiff, c4])) | simp -dsimp (disch := first | omega | (simp only [go_sem]; omega)) only [go_sem, seval, Nat.reduceEqDiff, Nat.reduceLeDiff, c4]))
 refine W.loop (fun n st => ∃ (i : Nat) (b12 b14 : Blk), i ≤ 16 ∧ n = 16 - i ∧
  st = (E [(7, .d (.gp p 0)), (8, .ptr 0 8 1 0), (9, .ptr 0 9 1 0), (10, .d (.gp q 0)), (61, .d (.int .i64 i))], HB [(8, ⟨1, some (flat (surL d.cs))⟩), (9, ⟨1, some xs⟩), (12, b12), (14, b14)], [], G4))
  ⟨_, _, st_leB (by (simp -dsimp (disch := first | omega | (simp only [go_sem]; omega)) only [go_sem, seval, Nat.reduceEqDiff, Nat.reduceLeDiff] <;> ((repeat' apply And.intro) <;> first | exact VLe.refl _ | (apply vle_int; omega) | (apply vle_int; simp; done) | exact VLe.own _ _ | exact VLe.nilown _ | exact VLe.norm _))) (HB_pad [(8, _), (9, _)] [12, 14] rfl).symm, 0, _, _, by omega, rfl, rfl⟩ ?_
 rintro n st ⟨i, b12, b14, hi, rfl, rfl⟩
 (repeat (first | with_reducible refine W.seq ?_ | with_reducible refine W.block ?_ | ((first | with_reducible refine W.reg ?_ | with_reducible refine W.skip ?_ | with_reducible refine W.exit ?_ | with_reducible refine W.ret ?_ | with_reducible refine W.ifc ?_); simp -dsimp (disch := first | omega | (simp only [go_sem]; omega)) only [go_sem, seval, Nat.reduceEqDiff, Nat.reduceLeDiff])))
 refine wG_dec (fun g1 => ?_) (fun g1 => ?_)
 · have hi' : i < 16 := by omega
   have hid : i < d.cs.length := by omega
   have hix : i < xs.length := by omega
   have hio : i < (opsL d.cs).length := by simpa [opsL] using hid
   have hv := (OpsA.out hix hio hs4.f3).gv
   have hol : (opsL d.cs)[i] = d.cs[i].op := by simp [opsL]
   rw [hol] at hv
   have hvl := hv.len
   rw [List.length_map] at hvl
   have hlx : (List.drop (i * 1) xs).head? = some xs[i] := by rw [Nat.mul_one, List.head?_drop, List.getElem?_eq_getElem hix]
   have hlx3 : (List.drop i xs).head? = some xs[i] := by rw [List.head?_drop, List.getElem?_eq_getElem hix]
   obtain ⟨x, hcx⟩ := crash_cel (keep := keep) hid
   have hr := rd_live (d := crash d keep) rfl hcx
   have hrd := rd_live hw.live (List.getElem?_eq_getElem hid)
   have hgood := hw.good d.cs[i] (List.getElem_mem hid)
   obtain ⟨c, hcc⟩ : ∃ c, c = d.cs[i] := ⟨_, rfl⟩
   have hsg := sur_get hid
   rw [← hcc] at hv hvl hr hrd hgood hsg
   have h64 : 64 ≤ 1024 - i * 64 := by omega
   have h960 : i * 64 ≤ 960 := by omega
   have h15 : i ≤ 15 := by omega
   by_cases hne : c.op = []
   · rw [if_pos hne, celRd_shut hne, if_neg (by rw [hgood]; simp)] at hr
     rw [hne] at hvl
     (repeat' (first | with_reducible refine W.seq ?_ | with_reducible refine W.block ?_ | ((first | with_reducible refine W.reg ?_ | with_reducible refine W.skip ?_ | with_reducible refine W.exit ?_ | with_reducible refine W.ret ?_ | with_reducible refine W.ifc ?_ | (apply wC_Q ((Read_ok q (crash d keep) i).q hs4); (focus (simp -dsimp (disch := first | omega | (simp only [go_sem]; omega)) only [go_sem, seval, Nat.reduceEqDiff, Nat.reduceLeDiff, hr] <;> rfl)); rintro _ rfl; try simp -dsimp (disch := first | omega | (simp only [go_sem]; omega)) only [go_sem, seval, Nat.reduceEqDiff, Nat.reduceLeDiff, hr]) | ((first | with_reducible refine wG_decE (fun _ hG => ?_) (fun _ hG => ?_) | with_reducible refine wG_decFE (fun _ hG => ?_) (fun _ hG => ?_)) <;> (try simp -dsimp only [hG, decide_true, decide_false, not_true_eq_false, not_false_eq_true]) <;> clear hG)) <;> (try simp -dsimp (disch := first | omega | (simp only [go_sem]; omega)) only [go_sem, seval, Nat.reduceEqDiff, Nat.reduceLeDiff, hr, hxl, hi', hlx, hvl, hfl, h960, h15, h64, hsg])) | simp -dsimp (disch := first | omega | (simp only [go_sem]; omega)) only [go_sem, seval, Nat.reduceEqDiff, Nat.reduceLeDiff, hr, hxl, hi', hlx, hvl, hfl, h960, h15, h64, hsg]))
     refine ⟨_, _, ?_, st_le (by (simp -dsimp (disch := first | omega | (simp only [go_sem]; omega)) only [go_sem, seval, Nat.reduceEqDiff, Nat.reduceLeDiff] <;> ((repeat' apply And.intro) <;> first | exact VLe.refl _ | (apply vle_int; omega) | (apply vle_int; simp; done) | exact VLe.own _ _ | exact VLe.nilown _ | exact VLe.norm _))), i + 1, _, _, by omega, rfl, rfl⟩
     omega
   · rw [if_neg hne] at hr
     have hmay := kept_may hgood hne x
     generalize celRd (kept c x) = k at hr hmay
     obtain ⟨s, e⟩ := k
     have hrd2 : celRd c = (c.op.getLast hne, 0) := by unfold celRd; rw [List.getLast?_eq_some_getLast hne]
     rw [hrd2] at hrd
     obtain ⟨b, cap', cs', hxb, hb, hla⟩ := gv_last hv hne
     have hl0 : 0 < c.op.length := List.length_pos_iff.2 hne
     have e3 : ((c.op.length : Int) - 1).toNat = c.op.length - 1 := by omega
     have hfew := hw.ok.few c (by rw [hcc]; exact List.getElem_mem hid)
     have hst := hw.st
     have hgt : ((c.op.length : Int) = 0) = False := eq_false (by omega)
     have hlend := hv.lend
     rw [hxb] at hlx hlx3 hvl hlend
     have hp : CallP Try.prog f_quietuslaw21_possible [eS s, .int .i64 e, eS c.s, .list (c.op.map eS)] (· = .d (.bool true)) := by
      rcases hmay with hm | ⟨hm1, hm2⟩
      · cases hm
        have := possible_14 z0 c.s c.op
        rw [decide_eq_true rfl] at this
        exact this
      · simp only at hm1 hm2
        subst hm1
        have := possible_0 s c.s c.op hne (by omega)
        rw [hm2] at this
        exact this
     (repeat' (first | with_reducible refine W.seq ?_ | with_reducible refine W.block ?_ | ((first | with_reducible refine W.reg ?_ | with_reducible refine W.skip ?_ | with_reducible refine W.exit ?_ | with_reducible refine W.ret ?_ | with_reducible refine W.ifc ?_ | (apply wC_Q ((Read_ok q (crash d keep) i).q hs4); (focus (simp -dsimp (disch := first | omega | (simp only [go_sem]; omega)) only [go_sem, seval, Nat.reduceEqDiff, Nat.reduceLeDiff, hr] <;> rfl)); rintro _ rfl; try simp -dsimp (disch := first | omega | (simp only [go_sem]; omega)) only [go_sem, seval, Nat.reduceEqDiff, Nat.reduceLeDiff, hr]) | ((first | with_reducible refine wG_decE (fun _ hG => ?_) (fun _ hG => ?_) | with_reducible refine wG_decFE (fun _ hG => ?_) (fun _ hG => ?_)) <;> (try simp -dsimp only [hG, decide_true, decide_false, not_true_eq_false, not_false_eq_true]) <;> clear hG)) <;> (try simp -dsimp (disch := first | omega | (simp only [go_sem]; omega)) only [go_sem, seval, Nat.reduceEqDiff, Nat.reduceLeDiff, hr, hxl, hi', hlx, hlx3, hvl, hfl, h960, h15, h64, hsg, hgt])) | simp -dsimp (disch := first | omega | (simp only [go_sem]; omega)) only [go_sem, seval, Nat.reduceEqDiff, Nat.reduceLeDiff, hr, hxl, hi', hlx, hlx3, hvl, hfl, h960, h15, h64, hsg, hgt]))
     refine wC_lend (xs := [eS s, .int .i64 e, eS c.s, .gs b 0 c.op.length cap']) hp (by simp -dsimp (disch := first | omega | (simp only [go_sem]; omega)) only [go_sem, seval, Nat.reduceEqDiff, Nat.reduceLeDiff]) (by simp -dsimp (disch := first | omega | (simp only [go_sem]; omega)) only [go_sem, seval, Nat.reduceEqDiff, Nat.reduceLeDiff]) (.cons (.refl _) (.cons (.refl _) (.cons (.refl _) (.cons hlend .nil)))) (by rintro _ rfl; rfl) ?_
     rintro _ rfl
     simp -dsimp (disch := first | omega | (simp only [go_sem]; omega)) only [go_sem, seval, Nat.reduceEqDiff, Nat.reduceLeDiff]
     (repeat' (first | with_reducible refine W.seq ?_ | with_reducible refine W.block ?_ | ((first | with_reducible refine W.reg ?_ | with_reducible refine W.skip ?_ | with_reducible refine W.exit ?_ | with_reducible refine W.ret ?_ | with_reducible refine W.ifc ?_ | (apply wC_Q ((Read_ok p d i).q hs4.swap); (focus (simp -dsimp (disch := first | omega | (simp only [go_sem]; omega)) only [go_sem, seval, Nat.reduceEqDiff, Nat.reduceLeDiff, hrd] <;> rfl)); rintro _ rfl; try simp -dsimp (disch := first | omega | (simp only [go_sem]; omega)) only [go_sem, seval, Nat.reduceEqDiff, Nat.reduceLeDiff, hrd]) | ((first | with_reducible refine wG_decE (fun _ hG => ?_) (fun _ hG => ?_) | with_reducible refine wG_decFE (fun _ hG => ?_) (fun _ hG => ?_)) <;> (try simp -dsimp only [hG, decide_true, decide_false, not_true_eq_false, not_false_eq_true]) <;> clear hG)) <;> (try simp -dsimp (disch := first | omega | (simp only [go_sem]; omega)) only [go_sem, seval, Nat.reduceEqDiff, Nat.reduceLeDiff, hrd, hxl, hi', hlx, hlx3, hvl, hb, e3, hla, hgt, h15])) | simp -dsimp (disch := first | omega | (simp only [go_sem]; omega)) only [go_sem, seval, Nat.reduceEqDiff, Nat.reduceLeDiff, hrd, hxl, hi', hlx, hlx3, hvl, hb, e3, hla, hgt, h15]))
     refine ⟨_, _, ?_, st_le (by (simp -dsimp (disch := first | omega | (simp only [go_sem]; omega)) only [go_sem, seval, Nat.reduceEqDiff, Nat.reduceLeDiff] <;> ((repeat' apply And.intro) <;> first | exact VLe.refl _ | (apply vle_int; omega) | (apply vle_int; simp; done) | exact VLe.own _ _ | exact VLe.nilown _ | exact VLe.norm _))), i + 1, _, _, by omega, rfl, rfl⟩
     omega
 · obtain rfl : i = 16 := by omega
   (repeat (first | with_reducible refine W.seq ?_ | with_reducible refine W.block ?_ | ((first | with_reducible refine W.reg ?_ | with_reducible refine W.skip ?_ | with_reducible refine W.exit ?_ | with_reducible refine W.ret ?_ | with_reducible refine W.ifc ?_); simp -dsimp (disch := first | omega | (simp only [go_sem]; omega)) only [go_sem, seval, Nat.reduceEqDiff, Nat.reduceLeDiff])))
   (refine wC_s (sanity21_ok) ((show Sep ([] ++ [DiskA q (crash d keep), DiskA p d, OpsA xs (opsL d.cs)]) G4 from hs4)) ?_ ?_; (focus (simp -dsimp (disch := first | omega | (simp only [go_sem]; omega)) only [go_sem, seval, Nat.reduceEqDiff, Nat.reduceLeDiff] <;> rfl)))
   rintro _ _ G5 ⟨rfl, rfl⟩ hs5
   simp -dsimp (disch := first | omega | (simp only [go_sem]; omega)) only [go_sem, seval, Nat.reduceEqDiff, Nat.reduceLeDiff]
   (repeat (first | with_reducible refine W.seq ?_ | with_reducible refine W.block ?_ | ((first | with_reducible refine W.reg ?_ | with_reducible refine W.skip ?_ | with_reducible refine W.exit ?_ | with_reducible refine W.ret ?_ | with_reducible refine W.ifc ?_); simp -dsimp (disch := first | omega | (simp only [go_sem]; omega)) only [go_sem, seval, Nat.reduceEqDiff, Nat.reduceLeDiff])))
   exact Fin.eq rfl ⟨rfl, _, .refl _, rfl⟩
end Go.Proofs.Ytioojmlhmhgeeaa
