/-
 Layer 37 (chunk), continued: the specification's adding of an object.
 Conditions: of each contract as it says.
-/
import Derived.Test.YtbcnnomgfheaoaaF37q
namespace Go.Proofs.Ytbcnnomgfheaoaa
open Go Go.E2 C37
set_option linter.unusedSimpArgs false
set_option maxHeartbeats 2000000
def insK (x : D) (p k : Nat) (l : List Ob) : List D := if p < k then (l.take p).map eB ++ [x] ++ ((l.take k).drop p).map eB else (l.take k).map eB
theorem insK_len {x : D} {p k : Nat} {l : List Ob} (hp : p ≤ l.length) (hk : k ≤ l.length) : (insK x p k l).length ≤ k + 1 := by
 unfold insK; split <;> simp <;> omega
theorem place_lt {l : List Ob} {n : Int} {j : Nat} (hj : j < l.length) (h : l.Pairwise fun a b => a.id < b.id) : l[j].id < n ↔ j < place n l := by
 have key : ∀ (l : List Ob), (l.Pairwise fun a b => a.id < b.id) → ∀ j (hj : j < l.length), (l[j].id < n ↔ j < place n l) := by
  intro l
  induction l with
  | nil => intro _ j hj; simp at hj
  | cons a l ih =>
   intro h j hj
   rw [List.pairwise_cons] at h
   unfold place
   rw [List.takeWhile_cons]
   by_cases ha : a.id < n
   · simp only [ha, decide_true, if_true, List.length_cons]
     cases j with
     | zero => simp [ha]
     | succ j =>
      have := ih h.2 j (by simpa using hj)
      unfold place at this
      simp only [List.getElem_cons_succ]
      omega
   · simp only [ha, decide_false, Bool.false_eq_true, if_false, List.length_nil]
     cases j with
     | zero => simp [ha]
     | succ j =>
      have hj' : j < l.length := by simpa using hj
      have h2 := h.1 l[j] (List.getElem_mem hj')
      simp only [List.getElem_cons_succ]
      omega
 exact key l h j hj
theorem refAdd_ok (l : Lt) (id : Int) (cls : Str) (parts : List Str) (hp : AddPre l id cls parts) : CallP Try.prog f_quietusref37_add [eL l, .int .i64 id, .str cls, .list (parts.map .str)] (· = .d (eCh (addL l id cls parts).1 [] (addL l id cls parts).2)) := by
 refine CallP.of_deep (callT_of_W fol quietusref37_add_cp ?_)
 obtain ⟨hl1, hl2, hl3⟩ := hp.small
 simp -dsimp (disch := first | omega | (simp only [go_sem]; omega)) only [go_sem, seval, Nat.reduceEqDiff, Nat.reduceLeDiff]
 (repeat (first | with_reducible refine W.seq ?_ | with_reducible refine W.block ?_ | ((first | with_reducible refine W.reg ?_ | with_reducible refine W.skip ?_ | with_reducible refine W.exit ?_ | with_reducible refine W.ret ?_ | with_reducible refine W.ifc ?_); simp -dsimp (disch := first | omega | (simp only [go_sem]; omega)) only [go_sem, seval, Nat.reduceEqDiff, Nat.reduceLeDiff])))
 refine wNew_mk fun b0 hb0 => ?_
 simp -dsimp (disch := first | omega | (simp only [go_sem]; omega)) only [go_sem, seval, Nat.reduceEqDiff, Nat.reduceLeDiff]
 (repeat (first | with_reducible refine W.seq ?_ | with_reducible refine W.block ?_ | ((first | with_reducible refine W.reg ?_ | with_reducible refine W.skip ?_ | with_reducible refine W.exit ?_ | with_reducible refine W.ret ?_ | with_reducible refine W.ifc ?_); simp -dsimp (disch := first | omega | (simp only [go_sem]; omega)) only [go_sem, seval, Nat.reduceEqDiff, Nat.reduceLeDiff])))
 have h0 : GV 4 (noGh.set b0 (some [])) (.gs b0 0 0 0) [] := .row b0 0 [] [] (by simp [upd]) ⟨rfl, rfl, Nat.le_refl _, by simp, rfl⟩
 refine appV_GV2 h0 (viewC_list (eC_all l.cks)) rfl (eC_all _) rfl (by rw [List.length_map]; show (0 + l.cks.length) * 48 ≤ mostBytes; rw [mostBytes_eq]; omega) fun x G1 hx hto => ?_
 rw [List.nil_append] at hx
 have hx1 : x.one = true := by rcases hx.shape with rfl | ⟨_, _, _, rfl⟩ <;> rfl
 have hsz3 : sizeOk 3 (.agg [.int .i64 l.next, x, .nilS]) = true := by rcases hx.shape with rfl | ⟨_, _, _, rfl⟩ <;> rfl
 have hxc : x.cells = [x] := by rcases hx.shape with rfl | ⟨_, _, _, rfl⟩ <;> rfl
 simp -dsimp (disch := first | omega | (simp only [go_sem]; omega)) only [go_sem, seval, Nat.reduceEqDiff, Nat.reduceLeDiff, ↓hx1, ↓hxc, ↓hsz3]
 (repeat (first | with_reducible refine W.seq ?_ | with_reducible refine W.block ?_ | ((first | with_reducible refine W.reg ?_ | with_reducible refine W.skip ?_ | with_reducible refine W.exit ?_ | with_reducible refine W.ret ?_ | with_reducible refine W.ifc ?_); simp -dsimp (disch := first | omega | (simp only [go_sem]; omega)) only [go_sem, seval, Nat.reduceEqDiff, Nat.reduceLeDiff, ↓hx1, ↓hxc, ↓hsz3])))
 refine W.loop (fun m st => ∃ i G2 x z nx ck ids, i ≤ parts.length ∧ m = parts.length - i ∧ putCs cls (l.next, l.cks) (parts.take i) = ((nx, ck), ids) ∧ (GV 4 G2 x (ck.map eC) ∧ GV 1 G2 z (ids.map eI) ∧ Apart x z) ∧
  (ck.length ≤ l.cks.length + i ∧ 0 ≤ nx ∧ nx ≤ l.next + i ∧ ids.length = i) ∧ (∀ c ∈ ck, 0 ≤ c.uses ∧ c.uses ≤ 1000000000 + i) ∧
  st = (E [(1, .d (.int .i64 id)), (2, .d (.str cls)), (3, .d (.list (parts.map .str))), (4, .ptr 0 4 1 0), (8, .ptr 0 8 1 0), (9, .ptr 0 9 1 0), (10, .ptr 0 10 1 0), (11, .d (.int .i64 i))],
   HB [(4, ⟨1, some [.int .i64 l.next, .list (l.cks.map eC), .list (l.obs.map eB)]⟩), (8, ⟨1, some [.int .i64 0, .nilS, .nilS, .nilS, .int .i64 0]⟩), (9, ⟨1, some [.int .i64 nx, x, .nilS]⟩), (10, ⟨1, some [.int .i64 id, .str cls, z]⟩)], [], G2))
  ⟨_, _, st_le (l' := [(1, .d (.int .i64 id)), (2, .d (.str cls)), (3, .d (.list (parts.map .str))), (4, .ptr 0 4 1 0), (8, .ptr 0 8 1 0), (9, .ptr 0 9 1 0), (10, .ptr 0 10 1 0), (11, .d (.int .i64 (0 : Nat)))]) (by (simp -dsimp (disch := first | omega | (simp only [go_sem]; omega)) only [go_sem, seval, Nat.reduceEqDiff, Nat.reduceLeDiff] <;> ((repeat' apply And.intro) <;> first | exact VLe.refl _ | (apply vle_int; omega) | (apply vle_int; simp; done) | exact VLe.own _ _ | exact VLe.nilown _ | exact VLe.norm _))), 0, _, x, .nilS, l.next, l.cks, [], by omega, rfl, rfl, ⟨hx, .nil, (Apart.nil x).symm⟩, ⟨by omega, hp.next.1, by omega, rfl⟩, fun c hc => by have := hp.uses c hc; omega, rfl⟩ ?_
 rintro m st ⟨i, G2, x, z, nx, ck, ids, hi, rfl, hput, ⟨hx, hz, hxz⟩, ⟨hb1, hb2, hb3, hb4⟩, hus, rfl⟩
 have hnx := hp.next
 have hpn : place id l.obs ≤ l.obs.length := place_le _ _
 (repeat (first | with_reducible refine W.seq ?_ | with_reducible refine W.block ?_ | ((first | with_reducible refine W.reg ?_ | with_reducible refine W.skip ?_ | with_reducible refine W.exit ?_ | with_reducible refine W.ret ?_ | with_reducible refine W.ifc ?_); simp -dsimp (disch := first | omega | (simp only [go_sem]; omega)) only [go_sem, seval, Nat.reduceEqDiff, Nat.reduceLeDiff])))
 refine wG_dec (fun h2 => ?_) (fun h2 => ?_)
 · have hi' : i < parts.length := by omega
   have hsn := putCs_snoc cls (l.next, l.cks) (parts.take i) parts[i]
   rw [← List.take_succ_eq_append_getElem hi', hput] at hsn
   (repeat (first | with_reducible refine W.seq ?_ | with_reducible refine W.block ?_ | ((first | with_reducible refine W.reg ?_ | with_reducible refine W.skip ?_ | with_reducible refine W.exit ?_ | with_reducible refine W.ret ?_ | with_reducible refine W.ifc ?_); simp -dsimp (disch := first | omega | (simp only [go_sem]; omega)) only [go_sem, seval, Nat.reduceEqDiff, Nat.reduceLeDiff])))
   apply wC_lendR (find_ok ⟨nx, ck, []⟩ cls parts[i] (by simp only; omega))
   focus (simp -dsimp (disch := first | omega | (simp only [go_sem]; omega)) only [go_sem, seval, Nat.reduceEqDiff, Nat.reduceLeDiff] <;> fail)
   focus (simp -dsimp (disch := first | omega | (simp only [go_sem]; omega)) only [go_sem, seval, Nat.reduceEqDiff, Nat.reduceLeDiff] <;> rfl)
   · exact DRs.cons (DRs.agg (DRs.cons (.refl _) (DRs.cons hx.dr (DRs.cons .nil DRs.nil)))) (DRs.cons (.refl _) (DRs.cons (.refl _) DRs.nil))
   · rintro _ rfl; rfl
   rintro _ rfl
   have hxs : sizeOk 1 x = true := by rcases hx.shape with rfl | ⟨_, _, _, rfl⟩ <;> rfl
   rcases fstI_cases ck (fun c => decide (c.cls = cls ∧ c.bytes = parts[i])) with ⟨e, hq, -, -⟩ | ⟨k, hk, e, hq, -, -⟩
   · have hq2 : nameAt ck cls parts[i] = none := hq
     rw [putC_none hq2] at hsn
     have hlen := hx.len
     rw [List.length_map] at hlen
     simp only [e]
     simp -dsimp (disch := first | omega | (simp only [go_sem]; omega)) only [go_sem, seval, Nat.reduceEqDiff, Nat.reduceLeDiff]
     (repeat (first | with_reducible refine W.seq ?_ | with_reducible refine W.block ?_ | ((first | with_reducible refine W.reg ?_ | with_reducible refine W.skip ?_ | with_reducible refine W.exit ?_ | with_reducible refine W.ret ?_ | with_reducible refine W.ifc ?_); simp -dsimp (disch := first | omega | (simp only [go_sem]; omega)) only [go_sem, seval, Nat.reduceEqDiff, Nat.reduceLeDiff, hlen])))
     refine appV_GV2 (es2 := [eC ⟨nx, cls, parts[i], 0⟩]) hx (viewC_list (es := [eC ⟨nx, cls, parts[i], 0⟩]) (by simp -dsimp (disch := first | omega | (simp only [go_sem]; omega)) only [go_sem, seval, Nat.reduceEqDiff, Nat.reduceLeDiff])) rfl (by simp -dsimp (disch := first | omega | (simp only [go_sem]; omega)) only [go_sem, seval, Nat.reduceEqDiff, Nat.reduceLeDiff]) rfl (by rw [List.length_map]; show (ck.length + 1) * 48 ≤ mostBytes; rw [mostBytes_eq]; omega) fun x2 G3 hg hto => ?_
     have hs1 : sizeOk 1 x2 = true := by rcases hg.shape with rfl | ⟨_, _, _, rfl⟩ <;> rfl
     have hc1 : x2.cells = [x2] := by rcases hg.shape with rfl | ⟨_, _, _, rfl⟩ <;> rfl
     simp -dsimp (disch := first | omega | (simp only [go_sem]; omega)) only [go_sem, seval, Nat.reduceEqDiff, Nat.reduceLeDiff, ↓hs1, ↓hc1]
     (repeat (first | with_reducible refine W.seq ?_ | with_reducible refine W.block ?_ | ((first | with_reducible refine W.reg ?_ | with_reducible refine W.skip ?_ | with_reducible refine W.exit ?_ | with_reducible refine W.ret ?_ | with_reducible refine W.ifc ?_); simp -dsimp (disch := first | omega | (simp only [go_sem]; omega)) only [go_sem, seval, Nat.reduceEqDiff, Nat.reduceLeDiff, ↓hs1, ↓hc1])))
     obtain ⟨ck2, hck2⟩ : ∃ ck2, ck2 = ck ++ [⟨nx, cls, parts[i], 0⟩] := ⟨_, rfl⟩
     have hg2 : GV 4 G3 x2 (ck2.map eC) := by rw [hck2, List.map_append]; exact hg
     have hk : ck.length < ck2.length := by rw [hck2]; simp
     have hl2' : ck2.length = ck.length + 1 := by rw [hck2]; simp
     have hzk := hz.keep hto (fun b o k c o' k' c' e1 e2 => hxz _ _ _ _ _ _ _ e2 e1)
     have hz3 := hzk.1
     have hxz3 : Apart x2 z := fun b o k c o' k' c' e1 e2 => hzk.2 _ _ _ _ _ _ _ e2 e1
     have hus2 : ∀ c ∈ ck2, 0 ≤ c.uses ∧ c.uses ≤ 1000000000 + i := fun c hc => by
      rw [hck2] at hc
      rcases List.mem_append.1 hc with hc | hc
      · exact hus c hc
      · simp at hc; subst hc; simp only; omega
     have hsn2 : putCs cls (l.next, l.cks) (parts.take (i + 1)) = ((nx + 1, ck2.modify ck.length fun c => { c with uses := c.uses + 1 }), ids ++ [ck2[ck.length].id]) := by
      subst hck2
      rw [hsn]
      congr 1
      · rw [List.modify_eq_take_drop]; simp
      · simp
     obtain ⟨b, cap, cs, hxe, hb, hrow⟩ := hg2.inv (by intro e; have := congrArg List.length e; rw [List.length_map, List.length_nil] at this; omega)
     rw [List.length_map] at hxe hrow
     subst hxe
     have hu := hus2 _ (List.getElem_mem hk)
     have hkm : ck.length < (ck2.map eC).length := by rw [List.length_map]; exact hk
     have hcell3 : vCells false 1 (some cs) (ck.length * 4 + 3) = some (.d (.int .i64 ck2[ck.length].uses)) := by
      rw [hrow.fld hkm (by omega : 3 < 4), eC_cells]; simp [eC, D.cells]
     have hfit : (ck.length * 4 + 3 + 1 ≤ cs.length) = True := eq_true (by have := hrow.fits hkm; omega)
     have hrow2 := hrow.setF hkm (by omega : 3 < 4) (v := .int .i64 (ck2[ck.length].uses + 1)) rfl
     rw [eC_cells, incr_map ck2 hk] at hrow2
     have hcell0 : vCells false 1 (some (over cs [.int .i64 (ck2[ck.length].uses + 1)] (ck.length * 4 + 3))) (ck.length * 4) = some (.d (.int .i64 ck2[ck.length].id)) := by
      have h := hrow2.fld (i := ck.length) (j := 0) (by rw [List.length_map, List.length_modify]; exact hk) (by omega)
      refine Eq.trans h ?_
      simp [eC, D.cells, List.getElem_modify]
     obtain ⟨idk, hidk⟩ : ∃ n : Int, n = ck2[ck.length].id := ⟨_, rfl⟩
     simp only [over] at hrow2 hcell0
     obtain ⟨cs2, hcs2⟩ : ∃ cs2, cs2 = List.take (ck.length * 4 + 3) cs ++ [.int .i64 (ck2[ck.length].uses + 1)] ++ List.drop (ck.length * 4 + 3 + 1) cs := ⟨_, rfl⟩
     have hln : [D.int .i64 (ck2[ck.length].uses + 1)].length = 1 := rfl
     rw [hln, ← hcs2] at hrow2 hcell0
     have hki : ((ck.length : Nat) : Int) < ck2.length := by omega
     try (simp -dsimp (disch := first | omega | (simp only [go_sem]; omega)) only [go_sem, seval, Nat.reduceEqDiff, Nat.reduceLeDiff, hb, hcell3, hfit, ← hcs2, hcell0, ← hidk, Int.toNat_natCast])
     (repeat (first | with_reducible refine W.seq ?_ | with_reducible refine W.block ?_ | ((first | with_reducible refine W.reg ?_ | with_reducible refine W.skip ?_ | with_reducible refine W.exit ?_ | with_reducible refine W.ret ?_ | with_reducible refine W.ifc ?_); simp -dsimp (disch := first | omega | (simp only [go_sem]; omega)) only [go_sem, seval, Nat.reduceEqDiff, Nat.reduceLeDiff, hb, hcell3, hfit, ← hcs2, hcell0, ← hidk, Int.toNat_natCast])))
     have hxz1 : ∀ o n k, z ≠ .gs b o n k := fun o n k => hxz3 _ _ _ _ _ _ _ rfl
     refine appV_GV2 (es2 := [eI idk]) (hz3.set hxz1) (viewC_list (es := [eI idk]) rfl) rfl rfl rfl (by rw [List.length_map]; show (ids.length + 1) * 8 ≤ mostBytes; rw [mostBytes_eq]; omega) fun z2 G4 hg4 hto4 => ?_
     have hx4 := (GV.mk (gset_same _ _ _) hrow2).keep hto4 (fun b' o k c o' k' c' e => by cases e; exact hxz1 _ _ _)
     have hsz1 : sizeOk 1 z2 = true := by rcases hg4.shape with rfl | ⟨_, _, _, rfl⟩ <;> rfl
     have hc1' : z2.cells = [z2] := by rcases hg4.shape with rfl | ⟨_, _, _, rfl⟩ <;> rfl
     simp -dsimp (disch := first | omega | (simp only [go_sem]; omega)) only [go_sem, seval, Nat.reduceEqDiff, Nat.reduceLeDiff, ↓hsz1, ↓hc1']
     (repeat (first | with_reducible refine W.seq ?_ | with_reducible refine W.block ?_ | ((first | with_reducible refine W.reg ?_ | with_reducible refine W.skip ?_ | with_reducible refine W.exit ?_ | with_reducible refine W.ret ?_ | with_reducible refine W.ifc ?_); simp -dsimp (disch := first | omega | (simp only [go_sem]; omega)) only [go_sem, seval, Nat.reduceEqDiff, Nat.reduceLeDiff, ↓hsz1, ↓hc1'])))
     have hlm : (ck2.modify ck.length fun c => { c with uses := c.uses + 1 }).length = ck2.length := List.length_modify _ _ _
     refine ⟨_, _, ?_, st_leB (by (simp -dsimp (disch := first | omega | (simp only [go_sem]; omega)) only [go_sem, seval, Nat.reduceEqDiff, Nat.reduceLeDiff] <;> ((repeat' apply And.intro) <;> first | exact VLe.refl _ | (apply vle_int; omega) | (apply vle_int; simp; done) | exact VLe.own _ _ | exact VLe.nilown _ | exact VLe.norm _))) rfl, i + 1, _, .gs b 0 ck2.length cap, z2, _, ck2.modify ck.length fun c => { c with uses := c.uses + 1 }, ids ++ [ck2[ck.length].id], by omega, rfl, hsn2, ⟨hx4.1, by rw [List.map_append, ← hidk]; exact hg4, fun b' o k c o' k' c' e1 e2 => hx4.2 _ _ _ _ _ _ _ e1 e2⟩, ⟨by rw [hlm]; rw [hck2]; simp; omega, by omega, by omega, by simp [hb4]⟩, fun c hc => ?_, rfl⟩
     · omega
     · obtain ⟨j, hj, rfl⟩ := List.getElem_of_mem hc
       rw [List.getElem_modify]
       rw [hlm] at hj
       have := hus2 _ (List.getElem_mem hj)
       split
       · simp only; omega
       · omega
   · have hq2 : nameAt ck cls parts[i] = some k := hq
     rw [putC_some hq2] at hsn
     have hsn2 : putCs cls (l.next, l.cks) (parts.take (i + 1)) = ((nx, ck.modify k fun c => { c with uses := c.uses + 1 }), ids ++ [ck[k].id]) := by
      rw [hsn]; simp [hk]
     have hkn : ((k : Int) < 0) = False := eq_false (by omega)
     simp only [e]
     simp -dsimp (disch := first | omega | (simp only [go_sem]; omega)) only [go_sem, seval, Nat.reduceEqDiff, Nat.reduceLeDiff]
     (repeat (first | with_reducible refine W.seq ?_ | with_reducible refine W.block ?_ | ((first | with_reducible refine W.reg ?_ | with_reducible refine W.skip ?_ | with_reducible refine W.exit ?_ | with_reducible refine W.ret ?_ | with_reducible refine W.ifc ?_); simp -dsimp (disch := first | omega | (simp only [go_sem]; omega)) only [go_sem, seval, Nat.reduceEqDiff, Nat.reduceLeDiff, hkn])))
     obtain ⟨b, cap, cs, hxe, hb, hrow⟩ := hx.inv (by intro e; have := congrArg List.length e; rw [List.length_map, List.length_nil] at this; omega)
     rw [List.length_map] at hxe hrow
     subst hxe
     have hu := hus _ (List.getElem_mem hk)
     have hkm : k < (ck.map eC).length := by rw [List.length_map]; exact hk
     have hcell3 : vCells false 1 (some cs) (k * 4 + 3) = some (.d (.int .i64 ck[k].uses)) := by
      rw [hrow.fld hkm (by omega : 3 < 4), eC_cells]; simp [eC, D.cells]
     have hfit : (k * 4 + 3 + 1 ≤ cs.length) = True := eq_true (by have := hrow.fits hkm; omega)
     have hrow2 := hrow.setF hkm (by omega : 3 < 4) (v := .int .i64 (ck[k].uses + 1)) rfl
     rw [eC_cells, incr_map ck hk] at hrow2
     have hcell0 : vCells false 1 (some (over cs [.int .i64 (ck[k].uses + 1)] (k * 4 + 3))) (k * 4) = some (.d (.int .i64 ck[k].id)) := by
      have h := hrow2.fld (i := k) (j := 0) (by rw [List.length_map, List.length_modify]; exact hk) (by omega)
      refine Eq.trans h ?_
      simp [eC, D.cells, List.getElem_modify]
     obtain ⟨idk, hidk⟩ : ∃ n : Int, n = ck[k].id := ⟨_, rfl⟩
     simp only [over] at hrow2 hcell0
     obtain ⟨cs2, hcs2⟩ : ∃ cs2, cs2 = List.take (k * 4 + 3) cs ++ [.int .i64 (ck[k].uses + 1)] ++ List.drop (k * 4 + 3 + 1) cs := ⟨_, rfl⟩
     have hln : [D.int .i64 (ck[k].uses + 1)].length = 1 := rfl
     rw [hln, ← hcs2] at hrow2 hcell0
     have hki : ((k : Nat) : Int) < ck.length := by omega
     try (simp -dsimp (disch := first | omega | (simp only [go_sem]; omega)) only [go_sem, seval, Nat.reduceEqDiff, Nat.reduceLeDiff, hb, hcell3, hfit, ← hcs2, hcell0, ← hidk, Int.toNat_natCast])
     (repeat (first | with_reducible refine W.seq ?_ | with_reducible refine W.block ?_ | ((first | with_reducible refine W.reg ?_ | with_reducible refine W.skip ?_ | with_reducible refine W.exit ?_ | with_reducible refine W.ret ?_ | with_reducible refine W.ifc ?_); simp -dsimp (disch := first | omega | (simp only [go_sem]; omega)) only [go_sem, seval, Nat.reduceEqDiff, Nat.reduceLeDiff, hb, hcell3, hfit, ← hcs2, hcell0, ← hidk, Int.toNat_natCast])))
     have hxz1 : ∀ o n k, z ≠ .gs b o n k := fun o n k => hxz _ _ _ _ _ _ _ rfl
     refine appV_GV2 (es2 := [eI idk]) (hz.set hxz1) (viewC_list (es := [eI idk]) rfl) rfl rfl rfl (by rw [List.length_map]; show (ids.length + 1) * 8 ≤ mostBytes; rw [mostBytes_eq]; omega) fun z2 G4 hg4 hto4 => ?_
     have hx4 := (GV.mk (gset_same _ _ _) hrow2).keep hto4 (fun b' o k c o' k' c' e => by cases e; exact hxz1 _ _ _)
     have hsz1 : sizeOk 1 z2 = true := by rcases hg4.shape with rfl | ⟨_, _, _, rfl⟩ <;> rfl
     have hc1' : z2.cells = [z2] := by rcases hg4.shape with rfl | ⟨_, _, _, rfl⟩ <;> rfl
     simp -dsimp (disch := first | omega | (simp only [go_sem]; omega)) only [go_sem, seval, Nat.reduceEqDiff, Nat.reduceLeDiff, ↓hsz1, ↓hc1']
     (repeat (first | with_reducible refine W.seq ?_ | with_reducible refine W.block ?_ | ((first | with_reducible refine W.reg ?_ | with_reducible refine W.skip ?_ | with_reducible refine W.exit ?_ | with_reducible refine W.ret ?_ | with_reducible refine W.ifc ?_); simp -dsimp (disch := first | omega | (simp only [go_sem]; omega)) only [go_sem, seval, Nat.reduceEqDiff, Nat.reduceLeDiff, ↓hsz1, ↓hc1'])))
     have hlm : (ck.modify k fun c => { c with uses := c.uses + 1 }).length = ck.length := List.length_modify _ _ _
     refine ⟨_, _, ?_, st_leB (by (simp -dsimp (disch := first | omega | (simp only [go_sem]; omega)) only [go_sem, seval, Nat.reduceEqDiff, Nat.reduceLeDiff] <;> ((repeat' apply And.intro) <;> first | exact VLe.refl _ | (apply vle_int; omega) | (apply vle_int; simp; done) | exact VLe.own _ _ | exact VLe.nilown _ | exact VLe.norm _))) rfl, i + 1, _, .gs b 0 ck.length cap, z2, _, ck.modify k fun c => { c with uses := c.uses + 1 }, ids ++ [ck[k].id], by omega, rfl, hsn2, ⟨hx4.1, by rw [List.map_append, ← hidk]; exact hg4, fun b' o k c o' k' c' e1 e2 => hx4.2 _ _ _ _ _ _ _ e1 e2⟩, ⟨by rw [hlm]; omega, by omega, by omega, by simp [hb4]⟩, fun c hc => ?_, rfl⟩
     · omega
     · obtain ⟨j, hj, rfl⟩ := List.getElem_of_mem hc
       rw [List.getElem_modify]
       rw [hlm] at hj
       have := hus _ (List.getElem_mem hj)
       split
       · simp only; omega
       · omega
 · obtain rfl : i = parts.length := by omega
   rw [List.take_length] at hput
   have hadd : addL l id cls parts = (let out : Lt := ⟨nx, ck, insO ⟨id, cls, ids⟩ l.obs⟩; if out.obs.length > 1000 ∨ out.cks.length > 1000 ∨ out.next > far then (⟨0, [], []⟩, 13) else (out, 0)) := by
    unfold addL; rw [hput]
   have hfar : far = 1099511627776 := rfl
   obtain ⟨p, hpp⟩ : ∃ p, p = place id l.obs := ⟨_, rfl⟩
   rw [← hpp] at hpn
   obtain ⟨xo, hxo⟩ : ∃ xo, xo = D.agg [.int .i64 id, .str cls, z] := ⟨_, rfl⟩
   have hz1 : z.one = true := by rcases hz.shape with rfl | ⟨_, _, _, rfl⟩ <;> rfl
   have hxo3 : sizeOk 3 xo = true := by rw [hxo]; rcases hz.shape with rfl | ⟨_, _, _, rfl⟩ <;> rfl
   have hz13 : sizeOk 3 (.agg [.int .i64 id, .str cls, z]) = true := by rw [← hxo]; exact hxo3
   have hxs : sizeOk 1 x = true := by rcases hx.shape with rfl | ⟨_, _, _, rfl⟩ <;> rfl
   (repeat (first | with_reducible refine W.seq ?_ | with_reducible refine W.block ?_ | ((first | with_reducible refine W.reg ?_ | with_reducible refine W.skip ?_ | with_reducible refine W.exit ?_ | with_reducible refine W.ret ?_ | with_reducible refine W.ifc ?_); simp -dsimp (disch := first | omega | (simp only [go_sem]; omega)) only [go_sem, seval, Nat.reduceEqDiff, Nat.reduceLeDiff])))
   refine W.loop (fun m st => ∃ k G3 y d, k ≤ l.obs.length ∧ m = l.obs.length - k ∧ d = decide (p < k) ∧ GV 4 G3 x (ck.map eC) ∧ GV 1 G3 z (ids.map eI) ∧ GV 3 G3 y (insK xo p k l.obs) ∧ Apart x y ∧ Apart y z ∧
    st = (E [(1, .d (.int .i64 id)), (4, .ptr 0 4 1 0), (8, .ptr 0 8 1 0), (9, .ptr 0 9 1 0), (10, .ptr 0 10 1 0), (13, .d (.bool d)), (14, .d (.int .i64 k))],
     HB [(4, ⟨1, some [.int .i64 l.next, .list (l.cks.map eC), .list (l.obs.map eB)]⟩), (8, ⟨1, some [.int .i64 0, .nilS, .nilS, .nilS, .int .i64 0]⟩), (9, ⟨1, some [.int .i64 nx, x, y]⟩), (10, ⟨1, some [.int .i64 id, .str cls, z]⟩)], [], G3))
    ⟨_, _, st_le (l' := [(1, .d (.int .i64 id)), (4, .ptr 0 4 1 0), (8, .ptr 0 8 1 0), (9, .ptr 0 9 1 0), (10, .ptr 0 10 1 0), (13, .d (.bool false)), (14, .d (.int .i64 (0 : Nat)))]) (by (simp -dsimp (disch := first | omega | (simp only [go_sem]; omega)) only [go_sem, seval, Nat.reduceEqDiff, Nat.reduceLeDiff] <;> ((repeat' apply And.intro) <;> first | exact VLe.refl _ | (apply vle_int; omega) | (apply vle_int; simp; done) | exact VLe.own _ _ | exact VLe.nilown _ | exact VLe.norm _))), 0, _, .nilS, false, by omega, rfl, by simp, hx, hz, .nil, (Apart.nil x).symm, Apart.nil z, rfl⟩ ?_
   rintro m st ⟨k, G3, y, d, hk, rfl, hdd, hx3, hz3, hy3, hxy, hyz, rfl⟩
   have hil := insK_len (x := xo) hpn hk
   (repeat (first | with_reducible refine W.seq ?_ | with_reducible refine W.block ?_ | ((first | with_reducible refine W.reg ?_ | with_reducible refine W.skip ?_ | with_reducible refine W.exit ?_ | with_reducible refine W.ret ?_ | with_reducible refine W.ifc ?_); simp -dsimp (disch := first | omega | (simp only [go_sem]; omega)) only [go_sem, seval, Nat.reduceEqDiff, Nat.reduceLeDiff])))
   refine wG_dec (fun h3 => ?_) (fun h3 => ?_)
   · have hk' : k < l.obs.length := by omega
     have hne : l.obs[k].id ≠ id := fun e => hp.new ⟨_, List.getElem_mem hk', e⟩
     have hpl := place_lt (n := id) hk' hp.pair
     rw [← hpp] at hpl
     by_cases hd : p < k
     · have e2 : insK xo p (k + 1) l.obs = insK xo p k l.obs ++ [eB l.obs[k]] := by
        unfold insK
        rw [if_pos (by omega), if_pos hd, List.take_succ_eq_append_getElem hk', List.drop_append_of_le_length (by rw [List.length_take_of_le hk]; omega)]
        simp
       obtain rfl : d = true := by rw [hdd]; simp [hd]
       (repeat (first | with_reducible refine W.seq ?_ | with_reducible refine W.block ?_ | ((first | with_reducible refine W.reg ?_ | with_reducible refine W.skip ?_ | with_reducible refine W.exit ?_ | with_reducible refine W.ret ?_ | with_reducible refine W.ifc ?_); simp -dsimp (disch := first | omega | (simp only [go_sem]; omega)) only [go_sem, seval, Nat.reduceEqDiff, Nat.reduceLeDiff])))
       refine appV_GV2 (es2 := [eB l.obs[k]]) hy3 (viewC_list (es := [eB l.obs[k]]) (by simp -dsimp (disch := first | omega | (simp only [go_sem]; omega)) only [go_sem, seval, Nat.reduceEqDiff, Nat.reduceLeDiff])) rfl (by simp -dsimp (disch := first | omega | (simp only [go_sem]; omega)) only [go_sem, seval, Nat.reduceEqDiff, Nat.reduceLeDiff]) rfl (by show ((insK xo p k l.obs).length + 1) * 48 ≤ mostBytes; rw [mostBytes_eq]; omega) fun y2 G4 hg hto4 => ?_
       have hx4 := hx3.keep hto4 (fun b o k c o' k' c' e1 e2 => hxy _ _ _ _ _ _ _ e1 e2)
       have hz4 := hz3.keep hto4 (fun b o k c o' k' c' e1 e2 => hyz _ _ _ _ _ _ _ e2 e1)
       have hys : sizeOk 1 y2 = true := by rcases hg.shape with rfl | ⟨_, _, _, rfl⟩ <;> rfl
       have hyc : y2.cells = [y2] := by rcases hg.shape with rfl | ⟨_, _, _, rfl⟩ <;> rfl
       simp -dsimp (disch := first | omega | (simp only [go_sem]; omega)) only [go_sem, seval, Nat.reduceEqDiff, Nat.reduceLeDiff, ↓hys, ↓hyc]
       (repeat (first | with_reducible refine W.seq ?_ | with_reducible refine W.block ?_ | ((first | with_reducible refine W.reg ?_ | with_reducible refine W.skip ?_ | with_reducible refine W.exit ?_ | with_reducible refine W.ret ?_ | with_reducible refine W.ifc ?_); simp -dsimp (disch := first | omega | (simp only [go_sem]; omega)) only [go_sem, seval, Nat.reduceEqDiff, Nat.reduceLeDiff, ↓hys, ↓hyc])))
       have hd1 : p < k + 1 := by omega
       refine ⟨_, _, ?_, st_leB (l' := [(1, .d (.int .i64 id)), (4, .ptr 0 4 1 0), (8, .ptr 0 8 1 0), (9, .ptr 0 9 1 0), (10, .ptr 0 10 1 0), (13, .d (.bool true)), (14, .d (.int .i64 ((k + 1 : Nat) : Int)))]) (by (simp -dsimp (disch := first | omega | (simp only [go_sem]; omega)) only [go_sem, seval, Nat.reduceEqDiff, Nat.reduceLeDiff] <;> ((repeat' apply And.intro) <;> first | exact VLe.refl _ | (apply vle_int; omega) | (apply vle_int; simp; done) | exact VLe.own _ _ | exact VLe.nilown _ | exact VLe.norm _))) rfl, k + 1, _, y2, _, by omega, rfl, by simp [hd1], hx4.1, hz4.1, by rw [e2]; exact hg, hx4.2, fun b o k c o' k' c' e1 e2 => hz4.2 _ _ _ _ _ _ _ e2 e1, rfl⟩
       omega
     · by_cases hpk : p = k
       · have hgt : id < l.obs[k].id := by omega
         have e2 : insK xo p (k + 1) l.obs = insK xo p k l.obs ++ [xo] ++ [eB l.obs[k]] := by
          unfold insK
          have htp : l.obs.take p = l.obs.take k := by rw [hpk]
          rw [if_pos (by omega), if_neg hd, List.take_succ_eq_append_getElem hk', List.drop_append_of_le_length (by rw [List.length_take_of_le hk]; omega), List.drop_of_length_le (by rw [List.length_take_of_le hk]; omega), htp]
          simp
         obtain rfl : d = false := by rw [hdd]; simp [hd]
         (repeat (first | with_reducible refine W.seq ?_ | with_reducible refine W.block ?_ | ((first | with_reducible refine W.reg ?_ | with_reducible refine W.skip ?_ | with_reducible refine W.exit ?_ | with_reducible refine W.ret ?_ | with_reducible refine W.ifc ?_); simp -dsimp (disch := first | omega | (simp only [go_sem]; omega)) only [go_sem, seval, Nat.reduceEqDiff, Nat.reduceLeDiff, hgt, ↓hz13, ↓hxo3, ← hxo])))
         refine appV_GV2 (es2 := [xo]) hy3 (viewC_list (es := [xo]) (by simp [hxo3])) rfl (by simp [hxo3]) rfl (by show ((insK xo p k l.obs).length + 1) * 48 ≤ mostBytes; rw [mostBytes_eq]; omega) fun y1 G4 hg hto4 => ?_
         have hx4 := hx3.keep hto4 (fun b o k c o' k' c' e1 e2 => hxy _ _ _ _ _ _ _ e1 e2)
         have hz4 := hz3.keep hto4 (fun b o k c o' k' c' e1 e2 => hyz _ _ _ _ _ _ _ e2 e1)
         have hys : sizeOk 1 y1 = true := by rcases hg.shape with rfl | ⟨_, _, _, rfl⟩ <;> rfl
         have hyc : y1.cells = [y1] := by rcases hg.shape with rfl | ⟨_, _, _, rfl⟩ <;> rfl
         simp -dsimp (disch := first | omega | (simp only [go_sem]; omega)) only [go_sem, seval, Nat.reduceEqDiff, Nat.reduceLeDiff, ↓hys, ↓hyc]
         (repeat (first | with_reducible refine W.seq ?_ | with_reducible refine W.block ?_ | ((first | with_reducible refine W.reg ?_ | with_reducible refine W.skip ?_ | with_reducible refine W.exit ?_ | with_reducible refine W.ret ?_ | with_reducible refine W.ifc ?_); simp -dsimp (disch := first | omega | (simp only [go_sem]; omega)) only [go_sem, seval, Nat.reduceEqDiff, Nat.reduceLeDiff, ↓hys, ↓hyc])))
         refine appV_GV2 (es2 := [eB l.obs[k]]) hg (viewC_list (es := [eB l.obs[k]]) (by simp -dsimp (disch := first | omega | (simp only [go_sem]; omega)) only [go_sem, seval, Nat.reduceEqDiff, Nat.reduceLeDiff])) rfl (by simp -dsimp (disch := first | omega | (simp only [go_sem]; omega)) only [go_sem, seval, Nat.reduceEqDiff, Nat.reduceLeDiff]) rfl (by rw [List.length_append]; show ((insK xo p k l.obs).length + 1 + 1) * 48 ≤ mostBytes; rw [mostBytes_eq]; omega) fun y2 G5 hg5 hto5 => ?_
         have hx5 := hx4.1.keep hto5 hx4.2
         have hz5 := hz4.1.keep hto5 hz4.2
         have hys2 : sizeOk 1 y2 = true := by rcases hg5.shape with rfl | ⟨_, _, _, rfl⟩ <;> rfl
         have hyc2 : y2.cells = [y2] := by rcases hg5.shape with rfl | ⟨_, _, _, rfl⟩ <;> rfl
         simp -dsimp (disch := first | omega | (simp only [go_sem]; omega)) only [go_sem, seval, Nat.reduceEqDiff, Nat.reduceLeDiff, ↓hys2, ↓hyc2]
         (repeat (first | with_reducible refine W.seq ?_ | with_reducible refine W.block ?_ | ((first | with_reducible refine W.reg ?_ | with_reducible refine W.skip ?_ | with_reducible refine W.exit ?_ | with_reducible refine W.ret ?_ | with_reducible refine W.ifc ?_); simp -dsimp (disch := first | omega | (simp only [go_sem]; omega)) only [go_sem, seval, Nat.reduceEqDiff, Nat.reduceLeDiff, ↓hys2, ↓hyc2])))
         have hd1 : p < k + 1 := by omega
         refine ⟨_, _, ?_, st_leB (l' := [(1, .d (.int .i64 id)), (4, .ptr 0 4 1 0), (8, .ptr 0 8 1 0), (9, .ptr 0 9 1 0), (10, .ptr 0 10 1 0), (13, .d (.bool true)), (14, .d (.int .i64 ((k + 1 : Nat) : Int)))]) (by (simp -dsimp (disch := first | omega | (simp only [go_sem]; omega)) only [go_sem, seval, Nat.reduceEqDiff, Nat.reduceLeDiff] <;> ((repeat' apply And.intro) <;> first | exact VLe.refl _ | (apply vle_int; omega) | (apply vle_int; simp; done) | exact VLe.own _ _ | exact VLe.nilown _ | exact VLe.norm _))) rfl, k + 1, _, y2, _, by omega, rfl, by simp [hd1], hx5.1, hz5.1, by rw [e2]; exact hg5, hx5.2, fun b o k c o' k' c' e1 e2 => hz5.2 _ _ _ _ _ _ _ e2 e1, rfl⟩
         omega
       · have hgt : ¬ id < l.obs[k].id := by omega
         have e2 : insK xo p (k + 1) l.obs = insK xo p k l.obs ++ [eB l.obs[k]] := by
          unfold insK
          rw [if_neg (by omega), if_neg hd, List.take_succ_eq_append_getElem hk', List.map_append]; rfl
         obtain rfl : d = false := by rw [hdd]; simp [hd]
         (repeat (first | with_reducible refine W.seq ?_ | with_reducible refine W.block ?_ | ((first | with_reducible refine W.reg ?_ | with_reducible refine W.skip ?_ | with_reducible refine W.exit ?_ | with_reducible refine W.ret ?_ | with_reducible refine W.ifc ?_); simp -dsimp (disch := first | omega | (simp only [go_sem]; omega)) only [go_sem, seval, Nat.reduceEqDiff, Nat.reduceLeDiff, hgt])))
         refine appV_GV2 (es2 := [eB l.obs[k]]) hy3 (viewC_list (es := [eB l.obs[k]]) (by simp -dsimp (disch := first | omega | (simp only [go_sem]; omega)) only [go_sem, seval, Nat.reduceEqDiff, Nat.reduceLeDiff])) rfl (by simp -dsimp (disch := first | omega | (simp only [go_sem]; omega)) only [go_sem, seval, Nat.reduceEqDiff, Nat.reduceLeDiff]) rfl (by show ((insK xo p k l.obs).length + 1) * 48 ≤ mostBytes; rw [mostBytes_eq]; omega) fun y2 G4 hg hto4 => ?_
         have hx4 := hx3.keep hto4 (fun b o k c o' k' c' e1 e2 => hxy _ _ _ _ _ _ _ e1 e2)
         have hz4 := hz3.keep hto4 (fun b o k c o' k' c' e1 e2 => hyz _ _ _ _ _ _ _ e2 e1)
         have hys : sizeOk 1 y2 = true := by rcases hg.shape with rfl | ⟨_, _, _, rfl⟩ <;> rfl
         have hyc : y2.cells = [y2] := by rcases hg.shape with rfl | ⟨_, _, _, rfl⟩ <;> rfl
         simp -dsimp (disch := first | omega | (simp only [go_sem]; omega)) only [go_sem, seval, Nat.reduceEqDiff, Nat.reduceLeDiff, ↓hys, ↓hyc]
         (repeat (first | with_reducible refine W.seq ?_ | with_reducible refine W.block ?_ | ((first | with_reducible refine W.reg ?_ | with_reducible refine W.skip ?_ | with_reducible refine W.exit ?_ | with_reducible refine W.ret ?_ | with_reducible refine W.ifc ?_); simp -dsimp (disch := first | omega | (simp only [go_sem]; omega)) only [go_sem, seval, Nat.reduceEqDiff, Nat.reduceLeDiff, ↓hys, ↓hyc])))
         have hd1 : ¬ p < k + 1 := by omega
         refine ⟨_, _, ?_, st_leB (l' := [(1, .d (.int .i64 id)), (4, .ptr 0 4 1 0), (8, .ptr 0 8 1 0), (9, .ptr 0 9 1 0), (10, .ptr 0 10 1 0), (13, .d (.bool false)), (14, .d (.int .i64 ((k + 1 : Nat) : Int)))]) (by (simp -dsimp (disch := first | omega | (simp only [go_sem]; omega)) only [go_sem, seval, Nat.reduceEqDiff, Nat.reduceLeDiff] <;> ((repeat' apply And.intro) <;> first | exact VLe.refl _ | (apply vle_int; omega) | (apply vle_int; simp; done) | exact VLe.own _ _ | exact VLe.nilown _ | exact VLe.norm _))) rfl, k + 1, _, y2, _, by omega, rfl, by simp [hd1], hx4.1, hz4.1, by rw [e2]; exact hg, hx4.2, fun b o k c o' k' c' e1 e2 => hz4.2 _ _ _ _ _ _ _ e2 e1, rfl⟩
         omega
   · obtain rfl : k = l.obs.length := by omega
     have hil2 : (insO ⟨id, cls, ids⟩ l.obs).length = l.obs.length + 1 := by unfold insO; simp only [← hpp]; simp; omega
     by_cases hd : p < l.obs.length
     · obtain rfl : d = true := by rw [hdd]; simp [hd]
       have efin : insK xo p l.obs.length l.obs = (l.obs.take p).map eB ++ [xo] ++ (l.obs.drop p).map eB := by
        unfold insK; rw [if_pos hd, List.take_length]
       rw [efin] at hy3
       (repeat (first | with_reducible refine W.seq ?_ | with_reducible refine W.block ?_ | ((first | with_reducible refine W.reg ?_ | with_reducible refine W.skip ?_ | with_reducible refine W.exit ?_ | with_reducible refine W.ret ?_ | with_reducible refine W.ifc ?_); simp -dsimp (disch := first | omega | (simp only [go_sem]; omega)) only [go_sem, seval, Nat.reduceEqDiff, Nat.reduceLeDiff])))
       have hyl := hy3.len
       have hel : ((l.obs.take p).map eB ++ [xo] ++ (l.obs.drop p).map eB).length = l.obs.length + 1 := by simp <;> omega
       rw [hel] at hyl
       have hxl := hx3.len
       rw [List.length_map] at hxl
       have hdr : DRs G3.c [.int .i64 nx, x, y] [.int .i64 nx, .list (ck.map eC), .list ((insO ⟨id, cls, ids⟩ l.obs).map eB)] := by
        refine DRs.cons (.refl _) (DRs.cons hx3.dr (DRs.cons (hy3.dr2 ?_ (eB_all _) ?_) DRs.nil))
        · rw [hel, List.length_map]; exact hil2
        · have e : (insO ⟨id, cls, ids⟩ l.obs).map eB = (l.obs.take p).map eB ++ [eB ⟨id, cls, ids⟩] ++ (l.obs.drop p).map eB := by
           unfold insO; simp only [← hpp]; simp
          rw [e]
          unfold flat
          simp only [List.flatMap_append]
          exact ((DRs.refl _).append (by simp only [List.flatMap_cons, List.flatMap_nil, List.append_nil, eB, hxo, D.cells]; exact DRs.cons (.refl _) (DRs.cons (.refl _) (DRs.cons hz3.dr DRs.nil)))).append (DRs.refl _)
       obtain ⟨bys, c2, csy, hye, -, -⟩ := hy3.inv (by simp)
       rw [hel] at hye
       subst hye
       rcases hx3.shape with rfl | ⟨bx, n1, c1, rfl⟩
       all_goals
        (repeat' (first | with_reducible refine W.seq ?_ | with_reducible refine W.block ?_ | ((first | with_reducible refine W.reg ?_ | with_reducible refine W.skip ?_ | with_reducible refine W.exit ?_ | with_reducible refine W.ret ?_ | with_reducible refine W.ifc ?_ | (apply wC_P (power40_ok); (focus (simp -dsimp (disch := first | omega | (simp only [go_sem]; omega)) only [go_sem, seval, Nat.reduceEqDiff, Nat.reduceLeDiff] <;> rfl)); rintro _ rfl) | ((first | with_reducible refine wG_decE (fun _ hG => ?_) (fun _ hG => ?_) | with_reducible refine wG_decFE (fun _ hG => ?_) (fun _ hG => ?_)) <;> (try simp -dsimp only [hG, decide_true, decide_false, not_true_eq_false, not_false_eq_true]) <;> clear hG)) <;> (try simp -dsimp (disch := first | omega | (simp only [go_sem]; omega)) only [go_sem, seval, Nat.reduceEqDiff, Nat.reduceLeDiff, hyl, hxl])) | simp -dsimp (disch := first | omega | (simp only [go_sem]; omega)) only [go_sem, seval, Nat.reduceEqDiff, Nat.reduceLeDiff, hyl, hxl]))
       all_goals first
        | (refine Fin.eq rfl ⟨rfl, _, .d _ (eCh ⟨0, [], []⟩ [] 13) (DRs.agg (DRs.cons (.refl _) (DRs.cons .nil (DRs.cons .nil (DRs.cons .nil (DRs.cons (.refl _) DRs.nil)))))), ?_⟩
           rw [hadd]; dsimp only; rw [if_pos (by rw [hil2]; omega)])
        | (refine Fin.eq rfl ⟨rfl, _, .d _ (eCh ⟨nx, ck, insO ⟨id, cls, ids⟩ l.obs⟩ [] 0) (DRs.agg (hdr.append (DRs.cons .nil (DRs.cons (.refl _) DRs.nil)))), ?_⟩
           rw [hadd]; dsimp only; rw [if_neg (by rw [hil2]; omega)])
     · obtain rfl : d = false := by rw [hdd]; simp [hd]
       obtain rfl : p = l.obs.length := by omega
       have efin : insK xo l.obs.length l.obs.length l.obs ++ [xo] = (l.obs.take l.obs.length).map eB ++ [xo] ++ (l.obs.drop l.obs.length).map eB := by
        unfold insK; rw [if_neg hd]; simp
       (repeat (first | with_reducible refine W.seq ?_ | with_reducible refine W.block ?_ | ((first | with_reducible refine W.reg ?_ | with_reducible refine W.skip ?_ | with_reducible refine W.exit ?_ | with_reducible refine W.ret ?_ | with_reducible refine W.ifc ?_); simp -dsimp (disch := first | omega | (simp only [go_sem]; omega)) only [go_sem, seval, Nat.reduceEqDiff, Nat.reduceLeDiff, ↓hz13, ↓hxo3, ← hxo])))
       refine appV_GV2 (es2 := [xo]) hy3 (viewC_list (es := [xo]) (by simp [hxo3])) rfl (by simp [hxo3]) rfl (by show ((insK xo l.obs.length l.obs.length l.obs).length + 1) * 48 ≤ mostBytes; rw [mostBytes_eq]; omega) fun y1 G4 hg hto4 => ?_
       have hx4 := hx3.keep hto4 (fun b o k c o' k' c' e1 e2 => hxy _ _ _ _ _ _ _ e1 e2)
       have hz4 := hz3.keep hto4 (fun b o k c o' k' c' e1 e2 => hyz _ _ _ _ _ _ _ e2 e1)
       have hys : sizeOk 1 y1 = true := by rcases hg.shape with rfl | ⟨_, _, _, rfl⟩ <;> rfl
       have hyc : y1.cells = [y1] := by rcases hg.shape with rfl | ⟨_, _, _, rfl⟩ <;> rfl
       rw [efin] at hg
       simp -dsimp (disch := first | omega | (simp only [go_sem]; omega)) only [go_sem, seval, Nat.reduceEqDiff, Nat.reduceLeDiff, ↓hys, ↓hyc]
       (repeat (first | with_reducible refine W.seq ?_ | with_reducible refine W.block ?_ | ((first | with_reducible refine W.reg ?_ | with_reducible refine W.skip ?_ | with_reducible refine W.exit ?_ | with_reducible refine W.ret ?_ | with_reducible refine W.ifc ?_); simp -dsimp (disch := first | omega | (simp only [go_sem]; omega)) only [go_sem, seval, Nat.reduceEqDiff, Nat.reduceLeDiff, ↓hys, ↓hyc])))
       have hyl := hg.len
       have hel : ((l.obs.take l.obs.length).map eB ++ [xo] ++ (l.obs.drop l.obs.length).map eB).length = l.obs.length + 1 := by simp <;> omega
       rw [hel] at hyl
       have hxl := hx4.1.len
       rw [List.length_map] at hxl
       have hdr : DRs G4.c [.int .i64 nx, x, y1] [.int .i64 nx, .list (ck.map eC), .list ((insO ⟨id, cls, ids⟩ l.obs).map eB)] := by
        refine DRs.cons (.refl _) (DRs.cons hx4.1.dr (DRs.cons (hg.dr2 ?_ (eB_all _) ?_) DRs.nil))
        · rw [hel, List.length_map]; exact hil2
        · have e : (insO ⟨id, cls, ids⟩ l.obs).map eB = (l.obs.take l.obs.length).map eB ++ [eB ⟨id, cls, ids⟩] ++ (l.obs.drop l.obs.length).map eB := by
           unfold insO; simp only [← hpp]; simp
          rw [e]
          unfold flat
          simp only [List.flatMap_append]
          exact ((DRs.refl _).append (by simp only [List.flatMap_cons, List.flatMap_nil, List.append_nil, eB, hxo, D.cells]; exact DRs.cons (.refl _) (DRs.cons (.refl _) (DRs.cons hz4.1.dr DRs.nil)))).append (DRs.refl _)
       obtain ⟨bys, c2, csy, hye, -, -⟩ := hg.inv (by simp)
       rw [hel] at hye
       subst hye
       rcases hx4.1.shape with rfl | ⟨bx, n1, c1, rfl⟩
       all_goals
        (repeat' (first | with_reducible refine W.seq ?_ | with_reducible refine W.block ?_ | ((first | with_reducible refine W.reg ?_ | with_reducible refine W.skip ?_ | with_reducible refine W.exit ?_ | with_reducible refine W.ret ?_ | with_reducible refine W.ifc ?_ | (apply wC_P (power40_ok); (focus (simp -dsimp (disch := first | omega | (simp only [go_sem]; omega)) only [go_sem, seval, Nat.reduceEqDiff, Nat.reduceLeDiff] <;> rfl)); rintro _ rfl) | ((first | with_reducible refine wG_decE (fun _ hG => ?_) (fun _ hG => ?_) | with_reducible refine wG_decFE (fun _ hG => ?_) (fun _ hG => ?_)) <;> (try simp -dsimp only [hG, decide_true, decide_false, not_true_eq_false, not_false_eq_true]) <;> clear hG)) <;> (try simp -dsimp (disch := first | omega | (simp only [go_sem]; omega)) only [go_sem, seval, Nat.reduceEqDiff, Nat.reduceLeDiff, hyl, hxl])) | simp -dsimp (disch := first | omega | (simp only [go_sem]; omega)) only [go_sem, seval, Nat.reduceEqDiff, Nat.reduceLeDiff, hyl, hxl]))
       all_goals first
        | (refine Fin.eq rfl ⟨rfl, _, .d _ (eCh ⟨0, [], []⟩ [] 13) (DRs.agg (DRs.cons (.refl _) (DRs.cons .nil (DRs.cons .nil (DRs.cons .nil (DRs.cons (.refl _) DRs.nil)))))), ?_⟩
           rw [hadd]; dsimp only; rw [if_pos (by rw [hil2]; omega)])
        | (refine Fin.eq rfl ⟨rfl, _, .d _ (eCh ⟨nx, ck, insO ⟨id, cls, ids⟩ l.obs⟩ [] 0) (DRs.agg (hdr.append (DRs.cons .nil (DRs.cons (.refl _) DRs.nil)))), ?_⟩
           rw [hadd]; dsimp only; rw [if_neg (by rw [hil2]; omega)])
end Go.Proofs.Ytbcnnomgfheaoaa
