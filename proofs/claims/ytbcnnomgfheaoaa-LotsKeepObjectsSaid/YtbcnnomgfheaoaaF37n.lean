/-
 Layer 37 (chunk), continued: an object is added.
 Conditions: of each contract as it says.
-/
import Derived.Test.YtbcnnomgfheaoaaF37l
import Derived.Test.YtbcnnomgfheaoaaS37
namespace Go.Proofs.Ytbcnnomgfheaoaa
open Go Go.E2 C37
set_option linter.unusedSimpArgs false
set_option maxHeartbeats 2000000
def Apart (x y : D) : Prop := ∀ b o k c o' k' c', x = .gs b o k c → y ≠ .gs b o' k' c'
theorem Apart.symm {x y : D} (h : Apart x y) : Apart y x := fun b o k c o' k' c' e1 e2 => h b o' k' c' o k c e2 e1
theorem Apart.nil (x : D) : Apart .nilS x := fun _ _ _ _ _ _ _ e => by cases e
structure AddPre (l : Lt) (id : Int) (cls : Str) (parts : List Str) : Prop where
 small : l.cks.length ≤ 2000 ∧ l.obs.length ≤ 2000 ∧ parts.length ≤ 70000
 names : NameD l.cks
 pair : l.obs.Pairwise fun a b => a.id < b.id
 new : ¬ known id l.obs
 next : 0 ≤ l.next ∧ l.next ≤ 2199023255552
 uses : ∀ c ∈ l.cks, 0 ≤ c.uses ∧ c.uses ≤ 1000000000
theorem eC_cells (l : List Ck) {k : Nat} (h : k < (l.map eC).length) : (l.map eC)[k].cells = (eC (l[k]'(by simpa using h))).cells := by simp
theorem incr_map (l : List Ck) {k : Nat} (h : k < l.length) : (l.map eC).set k (.agg ((eC l[k]).cells.set 3 (.int .i64 (l[k].uses + 1)))) = (l.modify k fun c => { c with uses := c.uses + 1 }).map eC := by
 apply List.ext_getElem (by simp)
 intro j h1 h2
 simp only [List.getElem_set, List.getElem_map, List.getElem_modify]
 by_cases e : k = j
 · subst e; rw [if_pos rfl, if_pos rfl]; simp [eC, D.cells]
 · rw [if_neg e, if_neg e]
theorem add_ok (l : Lt) (id : Int) (cls : Str) (parts : List Str) (hp : AddPre l id cls parts) (x y : D) (G : Gh) (hx : GV 4 G x (l.cks.map eC)) (hy : GV 3 G y (l.obs.map eB)) (hxy : Apart x y) (σ : List Hp) :
 CallT Try.prog f_chunk_add ([.agg [.int .i64 l.next, x, y], .int .i64 id, .str cls, .list (parts.map .str)].map .d) σ G fun r σ' G' => σ' = σ ∧ ∃ o, r = .tup [o, .int .i64 (addL l id cls parts).2] ∧ DR G'.c o (eL (addL l id cls parts).1) := by
 refine callT_of_W fol chunk_add_cp ?_
 obtain ⟨hl1, hl2, hl3⟩ := hp.small
 have hlx := hx.len
 rw [List.length_map] at hlx
 have hx1 : x.one = true := by rcases hx.shape with rfl | ⟨_, _, _, rfl⟩ <;> rfl
 have hy1 : y.one = true := by rcases hy.shape with rfl | ⟨_, _, _, rfl⟩ <;> rfl
 have hsz3 : sizeOk 3 (.agg [.int .i64 l.next, x, y]) = true := by simp [sizeOk, D.cells, hx1, hy1]; rfl
 simp -dsimp (disch := first | omega | (simp only [go_sem]; omega)) only [go_sem, seval, Nat.reduceEqDiff, Nat.reduceLeDiff, ↓hsz3]
 (repeat (first | with_reducible refine W.seq ?_ | with_reducible refine W.block ?_ | ((first | with_reducible refine W.reg ?_ | with_reducible refine W.skip ?_ | with_reducible refine W.exit ?_ | with_reducible refine W.ret ?_ | with_reducible refine W.ifc ?_); simp -dsimp (disch := first | omega | (simp only [go_sem]; omega)) only [go_sem, seval, Nat.reduceEqDiff, Nat.reduceLeDiff, ↓hsz3])))
 refine wNewM_mk fun r hr => ?_
 simp -dsimp (disch := first | omega | (simp only [go_sem]; omega)) only [go_sem, seval, Nat.reduceEqDiff, Nat.reduceLeDiff]
 (repeat (first | with_reducible refine W.seq ?_ | with_reducible refine W.block ?_ | ((first | with_reducible refine W.reg ?_ | with_reducible refine W.skip ?_ | with_reducible refine W.exit ?_ | with_reducible refine W.ret ?_ | with_reducible refine W.ifc ?_); simp -dsimp (disch := first | omega | (simp only [go_sem]; omega)) only [go_sem, seval, Nat.reduceEqDiff, Nat.reduceLeDiff, hlx])))
 refine W.loop (fun m st => ∃ k b12 G2 mm, k ≤ l.cks.length ∧ m = l.cks.length - k ∧ GV 4 G2 x (l.cks.map eC) ∧ GV 3 G2 y (l.obs.map eB) ∧ MapL [.s, .s] eP eN G2 r mm ∧ (∀ a b, mget mm (a, b) = nameAt (l.cks.take k) a b) ∧
  st = (E [(1, .d (.int .i64 id)), (2, .d (.str cls)), (3, .d (.list (parts.map .str))), (4, .ptr 0 4 1 0), (8, .ptr 0 8 1 0), (10, .d (.mref r)), (23, .d x), (24, .d (.int .i64 l.cks.length)), (25, .d (.int .i64 k))],
   HB [(4, ⟨1, some [.int .i64 l.next, x, y]⟩), (8, ⟨1, some [.int .i64 0, .nilS, .nilS]⟩), (12, b12)], σ, G2))
  ⟨_, _, st_leB (by (simp -dsimp (disch := first | omega | (simp only [go_sem]; omega)) only [go_sem, seval, Nat.reduceEqDiff, Nat.reduceLeDiff] <;> ((repeat' apply And.intro) <;> first | exact VLe.refl _ | (apply vle_int; omega) | (apply vle_int; simp; done) | exact VLe.own _ _ | exact VLe.nilown _ | exact VLe.norm _))) (HB_pad [(4, _), (8, _)] [12] rfl).symm, 0, _, _, [], by omega, rfl, hx.setM, hy.setM, MapL.new keyE_str2, fun a b => by simp [mget, nameAt], rfl⟩ ?_
 rintro m st ⟨k, b12, G2, mm, hk, rfl, hx, hy, hm, hf, rfl⟩
 (repeat (first | with_reducible refine W.seq ?_ | with_reducible refine W.block ?_ | ((first | with_reducible refine W.reg ?_ | with_reducible refine W.skip ?_ | with_reducible refine W.exit ?_ | with_reducible refine W.ret ?_ | with_reducible refine W.ifc ?_); simp -dsimp (disch := first | omega | (simp only [go_sem]; omega)) only [go_sem, seval, Nat.reduceEqDiff, Nat.reduceLeDiff])))
 refine wG_dec (fun h1 => ?_) (fun h1 => ?_)
 · have hk' : k < l.cks.length := by omega
   obtain ⟨b, cap, cs, hxe, hb, hrow⟩ := hx.inv (by intro e; have := congrArg List.length e; rw [List.length_map, List.length_nil] at this; omega)
   rw [List.length_map] at hrow hxe
   subst hxe
   have hid : vCells true 4 (G2.c b) (k * 4) = some (.d (eC l.cks[k])) := by
    rw [hb, hrow.idx (by simpa using hk')]; simp [eC, D.cells]
   (repeat (first | with_reducible refine W.seq ?_ | with_reducible refine W.block ?_ | ((first | with_reducible refine W.reg ?_ | with_reducible refine W.skip ?_ | with_reducible refine W.exit ?_ | with_reducible refine W.ret ?_ | with_reducible refine W.ifc ?_); simp -dsimp (disch := first | omega | (simp only [go_sem]; omega)) only [go_sem, seval, Nat.reduceEqDiff, Nat.reduceLeDiff, hid, Int.toNat_natCast])))
   refine wGd_put (emb := eP) (vf := eN) hm (l.cks[k].cls, l.cks[k].bytes) k fun M hM => ?_
   simp -dsimp (disch := first | omega | (simp only [go_sem]; omega)) only [go_sem, seval, Nat.reduceEqDiff, Nat.reduceLeDiff]
   (repeat (first | with_reducible refine W.seq ?_ | with_reducible refine W.block ?_ | ((first | with_reducible refine W.reg ?_ | with_reducible refine W.skip ?_ | with_reducible refine W.exit ?_ | with_reducible refine W.ret ?_ | with_reducible refine W.ifc ?_); simp -dsimp (disch := first | omega | (simp only [go_sem]; omega)) only [go_sem, seval, Nat.reduceEqDiff, Nat.reduceLeDiff])))
   refine ⟨_, _, ?_, st_leB (by (simp -dsimp (disch := first | omega | (simp only [go_sem]; omega)) only [go_sem, seval, Nat.reduceEqDiff, Nat.reduceLeDiff] <;> ((repeat' apply And.intro) <;> first | exact VLe.refl _ | (apply vle_int; omega) | (apply vle_int; simp; done) | exact VLe.own _ _ | exact VLe.nilown _ | exact VLe.norm _))) rfl, k + 1, _, _, _, by omega, rfl, hx.setM, hy.setM, hM, fun a b => ?_, rfl⟩
   · omega
   · rw [mget_put, nameAt_take_succ hp.names hk' a b, hf]
 · obtain rfl : k = l.cks.length := by omega
   simp only [List.take_length] at hf
   (repeat (first | with_reducible refine W.seq ?_ | with_reducible refine W.block ?_ | ((first | with_reducible refine W.reg ?_ | with_reducible refine W.skip ?_ | with_reducible refine W.exit ?_ | with_reducible refine W.ret ?_ | with_reducible refine W.ifc ?_); simp -dsimp (disch := first | omega | (simp only [go_sem]; omega)) only [go_sem, seval, Nat.reduceEqDiff, Nat.reduceLeDiff])))
   refine W.loop (fun m st => ∃ i b16 G2 x z nx ck ids mm, i ≤ parts.length ∧ m = parts.length - i ∧ putCs cls (l.next, l.cks) (parts.take i) = ((nx, ck), ids) ∧ (GV 4 G2 x (ck.map eC) ∧ GV 3 G2 y (l.obs.map eB) ∧ GV 1 G2 z (ids.map eI) ∧ Apart x y ∧ Apart x z ∧ Apart y z) ∧
    MapL [.s, .s] eP eN G2 r mm ∧ (∀ a b, mget mm (a, b) = nameAt ck a b) ∧ (ck.length ≤ l.cks.length + i ∧ 0 ≤ nx ∧ nx ≤ l.next + i ∧ ids.length = i) ∧ (∀ c ∈ ck, 0 ≤ c.uses ∧ c.uses ≤ 1000000000 + i) ∧
    st = (E [(1, .d (.int .i64 id)), (2, .d (.str cls)), (4, .ptr 0 4 1 0), (8, .ptr 0 8 1 0), (10, .d (.mref r)), (13, .ptr 0 13 1 0), (41, .d (.list (parts.map .str))), (42, .d (.int .i64 parts.length)), (43, .d (.int .i64 i))],
     HB [(4, ⟨1, some [.int .i64 nx, x, y]⟩), (8, ⟨1, some [.int .i64 0, .nilS, .nilS]⟩), (12, b12), (13, ⟨1, some [.int .i64 id, .str cls, z]⟩), (16, b16)], σ, G2))
    ⟨_, _, st_leB (by (simp -dsimp (disch := first | omega | (simp only [go_sem]; omega)) only [go_sem, seval, Nat.reduceEqDiff, Nat.reduceLeDiff] <;> ((repeat' apply And.intro) <;> first | exact VLe.refl _ | (apply vle_int; omega) | (apply vle_int; simp; done) | exact VLe.own _ _ | exact VLe.nilown _ | exact VLe.norm _))) (HB_pad [(4, _), (8, _), (12, _), (13, _)] [16] rfl).symm, 0, _, _, x, .nilS, l.next, l.cks, [], mm, by omega, rfl, rfl, ⟨hx, hy, .nil, hxy, (Apart.nil x).symm, (Apart.nil y).symm⟩, hm, hf, ⟨by omega, hp.next.1, by omega, rfl⟩, fun c hc => by have := hp.uses c hc; omega, rfl⟩ ?_
   rintro m st ⟨i, b16, G2, x, z, nx, ck, ids, mm, hi, rfl, hput, ⟨hx, hy, hz, hxy, hxz, hyz⟩, hm, hf, ⟨hb1, hb2, hb3, hb4⟩, hus, rfl⟩
   have hnx := hp.next
   (repeat (first | with_reducible refine W.seq ?_ | with_reducible refine W.block ?_ | ((first | with_reducible refine W.reg ?_ | with_reducible refine W.skip ?_ | with_reducible refine W.exit ?_ | with_reducible refine W.ret ?_ | with_reducible refine W.ifc ?_); simp -dsimp (disch := first | omega | (simp only [go_sem]; omega)) only [go_sem, seval, Nat.reduceEqDiff, Nat.reduceLeDiff])))
   refine wG_dec (fun h2 => ?_) (fun h2 => ?_)
   · have hi' : i < parts.length := by omega
     have hsn := putCs_snoc cls (l.next, l.cks) (parts.take i) parts[i]
     rw [← List.take_succ_eq_append_getElem hi', hput] at hsn
     have hlook := hm.look2 (.int .i64 0) (cls, parts[i])
     rw [hf] at hlook
     obtain ⟨q, hq⟩ : ∃ q, nameAt ck cls parts[i] = q := ⟨_, rfl⟩
     rw [hq] at hlook
     cases q with
     | some k =>
      rw [putC_some hq] at hsn
      simp only [Option.map_some, Option.getD_some, Option.isSome_some] at hlook
      obtain ⟨hk, hkc, hkb⟩ := nameAt_some hq
      (repeat (first | with_reducible refine W.seq ?_ | with_reducible refine W.block ?_ | ((first | with_reducible refine W.reg ?_ | with_reducible refine W.skip ?_ | with_reducible refine W.exit ?_ | with_reducible refine W.ret ?_ | with_reducible refine W.ifc ?_); simp -dsimp (disch := first | omega | (simp only [go_sem]; omega)) only [go_sem, seval, Nat.reduceEqDiff, Nat.reduceLeDiff, hlook])))
      have hsn2 : putCs cls (l.next, l.cks) (parts.take (i + 1)) = ((nx, ck.modify k fun c => { c with uses := c.uses + 1 }), ids ++ [ck[k].id]) := by
       rw [hsn]; simp [hk]
      obtain ⟨b, cap, cs, hxe, hb, hrow⟩ := hx.inv (by intro e; have := congrArg List.length e; rw [List.length_map, List.length_nil] at this; omega)
      rw [List.length_map] at hxe hrow
      subst hxe
      have hu := hus _ (List.getElem_mem hk)
      have hkm : k < (ck.map eC).length := by rw [List.length_map]; exact hk
      have hcell3 : vCells false 1 (some cs) (k * 4 + 3) = some (.d (.int .i64 ck[k].uses)) := by
       rw [hrow.fld hkm (by omega : 3 < 4), eC_cells]; simp [eC, D.cells]
      have hfit : (k * 4 + 3 + 1 ≤ cs.length) = True := eq_true (by have := hrow.fits hkm; omega)
      have hrow2 := hrow.setF hkm (by omega : 3 < 4) (v := .int .i64 (ck[k].uses + 1)) rfl
      rw [eC_cells, incr_map ck hk] at hrow2
      have hcell0 : vCells false 1 (some (over cs [.int .i64 (ck[k].uses + 1)] (k * 4 + 3))) (k * 4) = some (.d (.int .i64 ck[k].id)) := by
       have h := hrow2.fld (i := k) (j := 0) (by rw [List.length_map, List.length_modify]; exact hk) (by omega)
       refine Eq.trans h ?_
       simp [eC, D.cells, List.getElem_modify]
      have hki : ((k : Nat) : Int) < ck.length := by omega
      obtain ⟨idk, hidk⟩ : ∃ n : Int, n = ck[k].id := ⟨_, rfl⟩
      simp only [over] at hrow2 hcell0
      obtain ⟨cs2, hcs2⟩ : ∃ cs2, cs2 = List.take (k * 4 + 3) cs ++ [.int .i64 (ck[k].uses + 1)] ++ List.drop (k * 4 + 3 + 1) cs := ⟨_, rfl⟩
      have hln : [D.int .i64 (ck[k].uses + 1)].length = 1 := rfl
      rw [hln, ← hcs2] at hrow2 hcell0
      simp -dsimp (disch := first | omega | (simp only [go_sem]; omega)) only [go_sem, seval, Nat.reduceEqDiff, Nat.reduceLeDiff, hb, hcell3, hfit, ← hcs2, hcell0, ← hidk, Int.toNat_natCast]
      (repeat (first | with_reducible refine W.seq ?_ | with_reducible refine W.block ?_ | ((first | with_reducible refine W.reg ?_ | with_reducible refine W.skip ?_ | with_reducible refine W.exit ?_ | with_reducible refine W.ret ?_ | with_reducible refine W.ifc ?_); simp -dsimp (disch := first | omega | (simp only [go_sem]; omega)) only [go_sem, seval, Nat.reduceEqDiff, Nat.reduceLeDiff, hb, hcell3, hfit, ← hcs2, hcell0, ← hidk, Int.toNat_natCast])))
      have hxz1 : ∀ o n k, z ≠ .gs b o n k := fun o n k => hxz _ _ _ _ _ _ _ rfl
      have hxy1 : ∀ o n k, y ≠ .gs b o n k := fun o n k => hxy _ _ _ _ _ _ _ rfl
      refine appV_GV2 (es2 := [eI idk]) (hz.set hxz1) (viewC_list (es := [eI idk]) rfl) rfl rfl rfl (by rw [List.length_map]; show (ids.length + 1) * 8 ≤ mostBytes; rw [mostBytes_eq]; omega) fun z2 G4 hg4 hto4 => ?_
      have hx4 := (GV.mk (gset_same _ _ _) hrow2).keep hto4 (fun b' o k c o' k' c' e => by cases e; exact hxz1 _ _ _)
      have hy4 := (hy.set hxy1).keep hto4 (fun b' o k c o' k' c' e1 e2 => hyz _ _ _ _ _ _ _ e1 e2)
      have hsz1 : sizeOk 1 z2 = true := by rcases hg4.shape with rfl | ⟨_, _, _, rfl⟩ <;> rfl
      have hc1' : z2.cells = [z2] := by rcases hg4.shape with rfl | ⟨_, _, _, rfl⟩ <;> rfl
      simp -dsimp (disch := first | omega | (simp only [go_sem]; omega)) only [go_sem, seval, Nat.reduceEqDiff, Nat.reduceLeDiff, ↓hsz1, ↓hc1']
      (repeat (first | with_reducible refine W.seq ?_ | with_reducible refine W.block ?_ | ((first | with_reducible refine W.reg ?_ | with_reducible refine W.skip ?_ | with_reducible refine W.exit ?_ | with_reducible refine W.ret ?_ | with_reducible refine W.ifc ?_); simp -dsimp (disch := first | omega | (simp only [go_sem]; omega)) only [go_sem, seval, Nat.reduceEqDiff, Nat.reduceLeDiff, ↓hsz1, ↓hc1'])))
      have hlm : (ck.modify k fun c => { c with uses := c.uses + 1 }).length = ck.length := List.length_modify _ _ _
      refine ⟨_, _, ?_, st_leB (by (simp -dsimp (disch := first | omega | (simp only [go_sem]; omega)) only [go_sem, seval, Nat.reduceEqDiff, Nat.reduceLeDiff] <;> ((repeat' apply And.intro) <;> first | exact VLe.refl _ | (apply vle_int; omega) | (apply vle_int; simp; done) | exact VLe.own _ _ | exact VLe.nilown _ | exact VLe.norm _))) rfl, i + 1, _, _, .gs b 0 ck.length cap, z2, _, ck.modify k fun c => { c with uses := c.uses + 1 }, ids ++ [ck[k].id], _, by omega, rfl, hsn2, ⟨hx4.1, hy4.1, by rw [List.map_append, ← hidk]; exact hg4, hxy, fun b' o k c o' k' c' e1 e2 => hx4.2 _ _ _ _ _ _ _ e1 e2, fun b' o k c o' k' c' e1 e2 => hy4.2 _ _ _ _ _ _ _ e1 e2⟩, (hm.of (by rw [hto4.m]; rfl)), fun a b => (hf a b).trans (nameAt_modify _ _ (fun c => { c with uses := c.uses + 1 }) (fun _ => ⟨rfl, rfl⟩) a b).symm, ⟨by rw [hlm]; omega, by omega, by omega, by simp [hb4]⟩, fun c hc => ?_, rfl⟩
      · omega
      · obtain ⟨j, hj, rfl⟩ := List.getElem_of_mem hc
        rw [List.getElem_modify]
        rw [hlm] at hj
        have := hus _ (List.getElem_mem hj)
        split
        · simp only; omega
        · omega
     | none =>
      rw [putC_none hq] at hsn
      simp only [Option.map_none, Option.getD_none, Option.isSome_none] at hlook
      have hlen := hx.len
      rw [List.length_map] at hlen
      (repeat (first | with_reducible refine W.seq ?_ | with_reducible refine W.block ?_ | ((first | with_reducible refine W.reg ?_ | with_reducible refine W.skip ?_ | with_reducible refine W.exit ?_ | with_reducible refine W.ret ?_ | with_reducible refine W.ifc ?_); simp -dsimp (disch := first | omega | (simp only [go_sem]; omega)) only [go_sem, seval, Nat.reduceEqDiff, Nat.reduceLeDiff, hlook, hlen])))
      refine wGd_put (emb := eP) (vf := eN) hm (cls, parts[i]) ck.length fun M hM => ?_
      simp -dsimp (disch := first | omega | (simp only [go_sem]; omega)) only [go_sem, seval, Nat.reduceEqDiff, Nat.reduceLeDiff]
      (repeat (first | with_reducible refine W.seq ?_ | with_reducible refine W.block ?_ | ((first | with_reducible refine W.reg ?_ | with_reducible refine W.skip ?_ | with_reducible refine W.exit ?_ | with_reducible refine W.ret ?_ | with_reducible refine W.ifc ?_); simp -dsimp (disch := first | omega | (simp only [go_sem]; omega)) only [go_sem, seval, Nat.reduceEqDiff, Nat.reduceLeDiff])))
      refine appV_GV2 (es2 := [eC ⟨nx, cls, parts[i], 0⟩]) hx.setM (viewC_list (es := [eC ⟨nx, cls, parts[i], 0⟩]) (by simp -dsimp (disch := first | omega | (simp only [go_sem]; omega)) only [go_sem, seval, Nat.reduceEqDiff, Nat.reduceLeDiff])) rfl (by simp -dsimp (disch := first | omega | (simp only [go_sem]; omega)) only [go_sem, seval, Nat.reduceEqDiff, Nat.reduceLeDiff]) rfl (by rw [List.length_map]; show (ck.length + 1) * 48 ≤ mostBytes; rw [mostBytes_eq]; omega) fun x2 G3 hg hto => ?_
      have hs1 : sizeOk 1 x2 = true := by rcases hg.shape with rfl | ⟨_, _, _, rfl⟩ <;> rfl
      have hc1 : x2.cells = [x2] := by rcases hg.shape with rfl | ⟨_, _, _, rfl⟩ <;> rfl
      simp -dsimp (disch := first | omega | (simp only [go_sem]; omega)) only [go_sem, seval, Nat.reduceEqDiff, Nat.reduceLeDiff, ↓hs1, ↓hc1]
      (repeat (first | with_reducible refine W.seq ?_ | with_reducible refine W.block ?_ | ((first | with_reducible refine W.reg ?_ | with_reducible refine W.skip ?_ | with_reducible refine W.exit ?_ | with_reducible refine W.ret ?_ | with_reducible refine W.ifc ?_); simp -dsimp (disch := first | omega | (simp only [go_sem]; omega)) only [go_sem, seval, Nat.reduceEqDiff, Nat.reduceLeDiff, ↓hs1, ↓hc1])))
      obtain ⟨ck2, hck2⟩ : ∃ ck2, ck2 = ck ++ [⟨nx, cls, parts[i], 0⟩] := ⟨_, rfl⟩
      have hg2 : GV 4 G3 x2 (ck2.map eC) := by rw [hck2, List.map_append]; exact hg
      have hk : ck.length < ck2.length := by rw [hck2]; simp
      have hl2' : ck2.length = ck.length + 1 := by rw [hck2]; simp
      have hyk := hy.setM.keep hto (fun b o k c o' k' c' e1 e2 => hxy _ _ _ _ _ _ _ e2 e1)
      have hzk := hz.setM.keep hto (fun b o k c o' k' c' e1 e2 => hxz _ _ _ _ _ _ _ e2 e1)
      have hy3 := hyk.1
      have hz3 := hzk.1
      have hxy3 : Apart x2 y := fun b o k c o' k' c' e1 e2 => hyk.2 _ _ _ _ _ _ _ e2 e1
      have hxz3 : Apart x2 z := fun b o k c o' k' c' e1 e2 => hzk.2 _ _ _ _ _ _ _ e2 e1
      have hus2 : ∀ c ∈ ck2, 0 ≤ c.uses ∧ c.uses ≤ 1000000000 + i := fun c hc => by
       rw [hck2] at hc
       rcases List.mem_append.1 hc with hc | hc
       · exact hus c hc
       · simp at hc; subst hc; simp only; omega
      have hsn2 : putCs cls (l.next, l.cks) (parts.take (i + 1)) = ((nx + 1, ck2.modify ck.length fun c => { c with uses := c.uses + 1 }), ids ++ [ck2[ck.length].id]) := by
       subst hck2
       rw [hsn]
       congr 1
       · rw [List.modify_eq_take_drop]; simp
       · simp
      have hf2 : ∀ a b, mget (mput mm (cls, parts[i]) ck.length) (a, b) = nameAt ck2 a b := fun a b => by
       rw [mget_put, hck2, nameAt_snoc, hf]
       by_cases e : (a, b) = (cls, parts[i])
       · rw [if_pos e]; cases e; rw [hq, if_pos ⟨rfl, rfl⟩]; rfl
       · rw [if_neg e, if_neg (fun h => e (by rw [← h.1, ← h.2]))]
         cases nameAt ck a b <;> rfl
      obtain ⟨b, cap, cs, hxe, hb, hrow⟩ := hg2.inv (by intro e; have := congrArg List.length e; rw [List.length_map, List.length_nil] at this; omega)
      rw [List.length_map] at hxe hrow
      subst hxe
      have hu := hus2 _ (List.getElem_mem hk)
      have hkm : ck.length < (ck2.map eC).length := by rw [List.length_map]; exact hk
      have hcell3 : vCells false 1 (some cs) (ck.length * 4 + 3) = some (.d (.int .i64 ck2[ck.length].uses)) := by
       rw [hrow.fld hkm (by omega : 3 < 4), eC_cells]; simp [eC, D.cells]
      have hfit : (ck.length * 4 + 3 + 1 ≤ cs.length) = True := eq_true (by have := hrow.fits hkm; omega)
      have hrow2 := hrow.setF hkm (by omega : 3 < 4) (v := .int .i64 (ck2[ck.length].uses + 1)) rfl
      rw [eC_cells, incr_map ck2 hk] at hrow2
      have hcell0 : vCells false 1 (some (over cs [.int .i64 (ck2[ck.length].uses + 1)] (ck.length * 4 + 3))) (ck.length * 4) = some (.d (.int .i64 ck2[ck.length].id)) := by
       have h := hrow2.fld (i := ck.length) (j := 0) (by rw [List.length_map, List.length_modify]; exact hk) (by omega)
       refine Eq.trans h ?_
       simp [eC, D.cells, List.getElem_modify]
      have hki : ((ck.length : Nat) : Int) < ck2.length := by omega
      obtain ⟨idk, hidk⟩ : ∃ n : Int, n = ck2[ck.length].id := ⟨_, rfl⟩
      simp only [over] at hrow2 hcell0
      obtain ⟨cs2, hcs2⟩ : ∃ cs2, cs2 = List.take (ck.length * 4 + 3) cs ++ [.int .i64 (ck2[ck.length].uses + 1)] ++ List.drop (ck.length * 4 + 3 + 1) cs := ⟨_, rfl⟩
      have hln : [D.int .i64 (ck2[ck.length].uses + 1)].length = 1 := rfl
      rw [hln, ← hcs2] at hrow2 hcell0
      simp -dsimp (disch := first | omega | (simp only [go_sem]; omega)) only [go_sem, seval, Nat.reduceEqDiff, Nat.reduceLeDiff, hb, hcell3, hfit, ← hcs2, hcell0, ← hidk, Int.toNat_natCast]
      (repeat (first | with_reducible refine W.seq ?_ | with_reducible refine W.block ?_ | ((first | with_reducible refine W.reg ?_ | with_reducible refine W.skip ?_ | with_reducible refine W.exit ?_ | with_reducible refine W.ret ?_ | with_reducible refine W.ifc ?_); simp -dsimp (disch := first | omega | (simp only [go_sem]; omega)) only [go_sem, seval, Nat.reduceEqDiff, Nat.reduceLeDiff, hb, hcell3, hfit, ← hcs2, hcell0, ← hidk, Int.toNat_natCast])))
      have hxz1 : ∀ o n k, z ≠ .gs b o n k := fun o n k => hxz3 _ _ _ _ _ _ _ rfl
      have hxy1 : ∀ o n k, y ≠ .gs b o n k := fun o n k => hxy3 _ _ _ _ _ _ _ rfl
      refine appV_GV2 (es2 := [eI idk]) (hz3.set hxz1) (viewC_list (es := [eI idk]) rfl) rfl rfl rfl (by rw [List.length_map]; show (ids.length + 1) * 8 ≤ mostBytes; rw [mostBytes_eq]; omega) fun z2 G4 hg4 hto4 => ?_
      have hx4 := (GV.mk (gset_same _ _ _) hrow2).keep hto4 (fun b' o k c o' k' c' e => by cases e; exact hxz1 _ _ _)
      have hy4 := (hy3.set hxy1).keep hto4 (fun b' o k c o' k' c' e1 e2 => hyz _ _ _ _ _ _ _ e1 e2)
      have hsz1 : sizeOk 1 z2 = true := by rcases hg4.shape with rfl | ⟨_, _, _, rfl⟩ <;> rfl
      have hc1' : z2.cells = [z2] := by rcases hg4.shape with rfl | ⟨_, _, _, rfl⟩ <;> rfl
      simp -dsimp (disch := first | omega | (simp only [go_sem]; omega)) only [go_sem, seval, Nat.reduceEqDiff, Nat.reduceLeDiff, ↓hsz1, ↓hc1']
      (repeat (first | with_reducible refine W.seq ?_ | with_reducible refine W.block ?_ | ((first | with_reducible refine W.reg ?_ | with_reducible refine W.skip ?_ | with_reducible refine W.exit ?_ | with_reducible refine W.ret ?_ | with_reducible refine W.ifc ?_); simp -dsimp (disch := first | omega | (simp only [go_sem]; omega)) only [go_sem, seval, Nat.reduceEqDiff, Nat.reduceLeDiff, ↓hsz1, ↓hc1'])))
      have hlm : (ck2.modify ck.length fun c => { c with uses := c.uses + 1 }).length = ck2.length := List.length_modify _ _ _
      refine ⟨_, _, ?_, st_leB (by (simp -dsimp (disch := first | omega | (simp only [go_sem]; omega)) only [go_sem, seval, Nat.reduceEqDiff, Nat.reduceLeDiff] <;> ((repeat' apply And.intro) <;> first | exact VLe.refl _ | (apply vle_int; omega) | (apply vle_int; simp; done) | exact VLe.own _ _ | exact VLe.nilown _ | exact VLe.norm _))) rfl, i + 1, _, _, .gs b 0 ck2.length cap, z2, _, ck2.modify ck.length fun c => { c with uses := c.uses + 1 }, ids ++ [ck2[ck.length].id], _, by omega, rfl, hsn2, ⟨hx4.1, hy4.1, by rw [List.map_append, ← hidk]; exact hg4, hxy3, fun b' o k c o' k' c' e1 e2 => hx4.2 _ _ _ _ _ _ _ e1 e2, fun b' o k c o' k' c' e1 e2 => hy4.2 _ _ _ _ _ _ _ e1 e2⟩, (hM.of (by rw [hto4.m]; show G3.m r = _; rw [hto.m])), fun a b => (hf2 a b).trans (nameAt_modify _ _ (fun c => { c with uses := c.uses + 1 }) (fun _ => ⟨rfl, rfl⟩) a b).symm, ⟨by rw [hlm]; rw [hck2]; simp; omega, by omega, by omega, by simp [hb4]⟩, fun c hc => ?_, rfl⟩
      · omega
      · obtain ⟨j, hj, rfl⟩ := List.getElem_of_mem hc
        rw [List.getElem_modify]
        rw [hlm] at hj
        have := hus2 _ (List.getElem_mem hj)
        split
        · simp only; omega
        · omega
   · obtain rfl : i = parts.length := by omega
     rw [List.take_length] at hput
     have hadd : addL l id cls parts = (let out : Lt := ⟨nx, ck, insO ⟨id, cls, ids⟩ l.obs⟩; if out.obs.length > 1000 ∨ out.cks.length > 1000 ∨ out.next > far then (⟨0, [], []⟩, 13) else (out, 0)) := by
      unfold addL; rw [hput]
     have hfar : far = 1099511627776 := rfl
     have hpl := place_le id l.obs
     have hnl : ¬ known id l.obs := hp.new
     (repeat (first | with_reducible refine W.seq ?_ | with_reducible refine W.block ?_ | ((first | with_reducible refine W.reg ?_ | with_reducible refine W.skip ?_ | with_reducible refine W.exit ?_ | with_reducible refine W.ret ?_ | with_reducible refine W.ifc ?_); simp -dsimp (disch := first | omega | (simp only [go_sem]; omega)) only [go_sem, seval, Nat.reduceEqDiff, Nat.reduceLeDiff])))
     apply wC_lendR (object_ok ⟨nx, ck, l.obs⟩ id (by simp only; omega) hp.pair)
     focus (simp -dsimp (disch := first | omega | (simp only [go_sem]; omega)) only [go_sem, seval, Nat.reduceEqDiff, Nat.reduceLeDiff] <;> fail)
     focus (simp -dsimp (disch := first | omega | (simp only [go_sem]; omega)) only [go_sem, seval, Nat.reduceEqDiff, Nat.reduceLeDiff] <;> rfl)
     · exact DRs.cons (DRs.agg (DRs.cons (.refl _) (DRs.cons hx.dr (DRs.cons hy.dr DRs.nil)))) (DRs.cons (.refl _) DRs.nil)
     · rintro _ rfl; rfl
     rintro _ rfl
     rcases hz.shape with rfl | ⟨bz, nz, cz, rfl⟩
     · simp -dsimp (disch := first | omega | (simp only [go_sem]; omega)) only [go_sem, seval, Nat.reduceEqDiff, Nat.reduceLeDiff, hnl]
       (repeat (first | with_reducible refine W.seq ?_ | with_reducible refine W.block ?_ | ((first | with_reducible refine W.reg ?_ | with_reducible refine W.skip ?_ | with_reducible refine W.exit ?_ | with_reducible refine W.ret ?_ | with_reducible refine W.ifc ?_); simp -dsimp (disch := first | omega | (simp only [go_sem]; omega)) only [go_sem, seval, Nat.reduceEqDiff, Nat.reduceLeDiff])))
       apply wC_g (Insert_ok (v := .agg [.int .i64 id, .str cls, .nilS]) (by simp -dsimp (disch := first | omega | (simp only [go_sem]; omega)) only [go_sem, seval, Nat.reduceEqDiff, Nat.reduceLeDiff]) (i := place id l.obs) (by rw [List.length_map]; exact hpl) (by rw [List.length_map]; omega) _ hy)
       focus (simp -dsimp (disch := first | omega | (simp only [go_sem]; omega)) only [go_sem, seval, Nat.reduceEqDiff, Nat.reduceLeDiff] <;> fail)
       focus (simp -dsimp (disch := first | omega | (simp only [go_sem]; omega)) only [go_sem, seval, Nat.reduceEqDiff, Nat.reduceLeDiff] <;> rfl)
       rintro _ G3 ⟨y2, rfl, hy2, hto⟩
       have hx2 := hx.keep hto (fun b o k c o' k' c' e1 e2 => hxy _ _ _ _ _ _ _ e1 e2)
       have hz2 := hz.keep hto (fun b o k c o' k' c' e1 e2 => hyz _ _ _ _ _ _ _ e2 e1)
       have hel : ((l.obs.map eB).take (place id l.obs) ++ [D.agg [.int .i64 id, .str cls, .nilS]] ++ (l.obs.map eB).drop (place id l.obs)).length = l.obs.length + 1 := by simp; omega
       have hy2l := hy2.len
       rw [hel] at hy2l
       have hx2l := hx2.1.len
       rw [List.length_map] at hx2l
       have hys : sizeOk 1 y2 = true := by rcases hy2.shape with rfl | ⟨_, _, _, rfl⟩ <;> rfl
       have hyc : y2.cells = [y2] := by rcases hy2.shape with rfl | ⟨_, _, _, rfl⟩ <;> rfl
       have hxs : sizeOk 3 (.agg [.int .i64 nx, x, y2]) = true := by rcases hx.shape with rfl | ⟨_, _, _, rfl⟩ <;> rcases hy2.shape with rfl | ⟨_, _, _, rfl⟩ <;> rfl
       have hil : (insO ⟨id, cls, ids⟩ l.obs).length = l.obs.length + 1 := by unfold insO; simp; omega
       have hdr : DR G3.c (.agg [.int .i64 nx, x, y2]) (eL ⟨nx, ck, insO ⟨id, cls, ids⟩ l.obs⟩) := by
        refine DRs.agg (DRs.cons (.refl _) (DRs.cons hx2.1.dr (DRs.cons (hy2.dr2 ?_ (eB_all _) ?_) DRs.nil)))
        · rw [hel, List.length_map]; exact hil
        · have e : (insO ⟨id, cls, ids⟩ l.obs).map eB = (l.obs.map eB).take (place id l.obs) ++ [eB ⟨id, cls, ids⟩] ++ (l.obs.map eB).drop (place id l.obs) := by
           unfold insO; simp
          rw [e]
          unfold flat
          simp only [List.flatMap_append]
          exact ((DRs.refl _).append (by simp only [List.flatMap_cons, List.flatMap_nil, List.append_nil, eB, D.cells]; exact DRs.cons (.refl _) (DRs.cons (.refl _) (DRs.cons hz2.1.dr DRs.nil)))).append (DRs.refl _)
       simp -dsimp (disch := first | omega | (simp only [go_sem]; omega)) only [go_sem, seval, Nat.reduceEqDiff, Nat.reduceLeDiff, ↓hys, ↓hyc, hy2l]
       (repeat' (first | with_reducible refine W.seq ?_ | with_reducible refine W.block ?_ | ((first | with_reducible refine W.reg ?_ | with_reducible refine W.skip ?_ | with_reducible refine W.exit ?_ | with_reducible refine W.ret ?_ | with_reducible refine W.ifc ?_ | ((first | with_reducible refine wG_decE (fun _ hG => ?_) (fun _ hG => ?_) | with_reducible refine wG_decFE (fun _ hG => ?_) (fun _ hG => ?_)) <;> (try simp -dsimp only [hG, decide_true, decide_false, not_true_eq_false, not_false_eq_true]) <;> clear hG)) <;> (try simp -dsimp (disch := first | omega | (simp only [go_sem]; omega)) only [go_sem, seval, Nat.reduceEqDiff, Nat.reduceLeDiff, ↓hys, ↓hyc, ↓hxs, hy2l, hx2l])) | simp -dsimp (disch := first | omega | (simp only [go_sem]; omega)) only [go_sem, seval, Nat.reduceEqDiff, Nat.reduceLeDiff, ↓hys, ↓hyc, ↓hxs, hy2l, hx2l]))
       all_goals first
        | (refine Fin.eq rfl ⟨rfl, .agg [.int .i64 0, .nilS, .nilS], ?_, ?_⟩
           · rw [hadd]; dsimp only; rw [if_pos (by rw [hil]; omega)]; rfl
           · rw [hadd]; dsimp only; rw [if_pos (by rw [hil]; omega)]
             exact DRs.agg (DRs.cons (.refl _) (DRs.cons .nil (DRs.cons .nil DRs.nil))))
        | (refine Fin.eq rfl ⟨rfl, .agg [.int .i64 nx, x, y2], ?_, ?_⟩
           · rw [hadd]; dsimp only; rw [if_neg (by rw [hil]; omega)]; rfl
           · rw [hadd]; dsimp only; rw [if_neg (by rw [hil]; omega)]
             exact hdr)
     · simp -dsimp (disch := first | omega | (simp only [go_sem]; omega)) only [go_sem, seval, Nat.reduceEqDiff, Nat.reduceLeDiff, hnl]
       (repeat (first | with_reducible refine W.seq ?_ | with_reducible refine W.block ?_ | ((first | with_reducible refine W.reg ?_ | with_reducible refine W.skip ?_ | with_reducible refine W.exit ?_ | with_reducible refine W.ret ?_ | with_reducible refine W.ifc ?_); simp -dsimp (disch := first | omega | (simp only [go_sem]; omega)) only [go_sem, seval, Nat.reduceEqDiff, Nat.reduceLeDiff])))
       apply wC_g (Insert_ok (v := .agg [.int .i64 id, .str cls, .gs bz 0 nz cz]) (by simp -dsimp (disch := first | omega | (simp only [go_sem]; omega)) only [go_sem, seval, Nat.reduceEqDiff, Nat.reduceLeDiff]) (i := place id l.obs) (by rw [List.length_map]; exact hpl) (by rw [List.length_map]; omega) _ hy)
       focus (simp -dsimp (disch := first | omega | (simp only [go_sem]; omega)) only [go_sem, seval, Nat.reduceEqDiff, Nat.reduceLeDiff] <;> fail)
       focus (simp -dsimp (disch := first | omega | (simp only [go_sem]; omega)) only [go_sem, seval, Nat.reduceEqDiff, Nat.reduceLeDiff] <;> rfl)
       rintro _ G3 ⟨y2, rfl, hy2, hto⟩
       have hx2 := hx.keep hto (fun b o k c o' k' c' e1 e2 => hxy _ _ _ _ _ _ _ e1 e2)
       have hz2 := hz.keep hto (fun b o k c o' k' c' e1 e2 => hyz _ _ _ _ _ _ _ e2 e1)
       have hel : ((l.obs.map eB).take (place id l.obs) ++ [D.agg [.int .i64 id, .str cls, .gs bz 0 nz cz]] ++ (l.obs.map eB).drop (place id l.obs)).length = l.obs.length + 1 := by simp; omega
       have hy2l := hy2.len
       rw [hel] at hy2l
       have hx2l := hx2.1.len
       rw [List.length_map] at hx2l
       have hys : sizeOk 1 y2 = true := by rcases hy2.shape with rfl | ⟨_, _, _, rfl⟩ <;> rfl
       have hyc : y2.cells = [y2] := by rcases hy2.shape with rfl | ⟨_, _, _, rfl⟩ <;> rfl
       have hxs : sizeOk 3 (.agg [.int .i64 nx, x, y2]) = true := by rcases hx.shape with rfl | ⟨_, _, _, rfl⟩ <;> rcases hy2.shape with rfl | ⟨_, _, _, rfl⟩ <;> rfl
       have hil : (insO ⟨id, cls, ids⟩ l.obs).length = l.obs.length + 1 := by unfold insO; simp; omega
       have hdr : DR G3.c (.agg [.int .i64 nx, x, y2]) (eL ⟨nx, ck, insO ⟨id, cls, ids⟩ l.obs⟩) := by
        refine DRs.agg (DRs.cons (.refl _) (DRs.cons hx2.1.dr (DRs.cons (hy2.dr2 ?_ (eB_all _) ?_) DRs.nil)))
        · rw [hel, List.length_map]; exact hil
        · have e : (insO ⟨id, cls, ids⟩ l.obs).map eB = (l.obs.map eB).take (place id l.obs) ++ [eB ⟨id, cls, ids⟩] ++ (l.obs.map eB).drop (place id l.obs) := by
           unfold insO; simp
          rw [e]
          unfold flat
          simp only [List.flatMap_append]
          exact ((DRs.refl _).append (by simp only [List.flatMap_cons, List.flatMap_nil, List.append_nil, eB, D.cells]; exact DRs.cons (.refl _) (DRs.cons (.refl _) (DRs.cons hz2.1.dr DRs.nil)))).append (DRs.refl _)
       simp -dsimp (disch := first | omega | (simp only [go_sem]; omega)) only [go_sem, seval, Nat.reduceEqDiff, Nat.reduceLeDiff, ↓hys, ↓hyc, hy2l]
       (repeat' (first | with_reducible refine W.seq ?_ | with_reducible refine W.block ?_ | ((first | with_reducible refine W.reg ?_ | with_reducible refine W.skip ?_ | with_reducible refine W.exit ?_ | with_reducible refine W.ret ?_ | with_reducible refine W.ifc ?_ | ((first | with_reducible refine wG_decE (fun _ hG => ?_) (fun _ hG => ?_) | with_reducible refine wG_decFE (fun _ hG => ?_) (fun _ hG => ?_)) <;> (try simp -dsimp only [hG, decide_true, decide_false, not_true_eq_false, not_false_eq_true]) <;> clear hG)) <;> (try simp -dsimp (disch := first | omega | (simp only [go_sem]; omega)) only [go_sem, seval, Nat.reduceEqDiff, Nat.reduceLeDiff, ↓hys, ↓hyc, ↓hxs, hy2l, hx2l])) | simp -dsimp (disch := first | omega | (simp only [go_sem]; omega)) only [go_sem, seval, Nat.reduceEqDiff, Nat.reduceLeDiff, ↓hys, ↓hyc, ↓hxs, hy2l, hx2l]))
       all_goals first
        | (refine Fin.eq rfl ⟨rfl, .agg [.int .i64 0, .nilS, .nilS], ?_, ?_⟩
           · rw [hadd]; dsimp only; rw [if_pos (by rw [hil]; omega)]; rfl
           · rw [hadd]; dsimp only; rw [if_pos (by rw [hil]; omega)]
             exact DRs.agg (DRs.cons (.refl _) (DRs.cons .nil (DRs.cons .nil DRs.nil))))
        | (refine Fin.eq rfl ⟨rfl, .agg [.int .i64 nx, x, y2], ?_, ?_⟩
           · rw [hadd]; dsimp only; rw [if_neg (by rw [hil]; omega)]; rfl
           · rw [hadd]; dsimp only; rw [if_neg (by rw [hil]; omega)]
             exact hdr)
end Go.Proofs.Ytbcnnomgfheaoaa
