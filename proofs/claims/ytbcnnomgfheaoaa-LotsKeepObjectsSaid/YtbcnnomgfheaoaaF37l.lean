/-
 Layer 37 (chunk), continued: the bytes of an object.
 Conditions: of each contract as it says.
-/
import Derived.Test.YtbcnnomgfheaoaaF37f
import Derived.Test.YtbcnnomgfheaoaaF37m
import Derived.Test.YtbcnnomgfheaoaaF37k
namespace Go.Proofs.Ytbcnnomgfheaoaa
open Go Go.E2 C37
set_option linter.unusedSimpArgs false
set_option maxHeartbeats 1000000
theorem find_snoc {l : List Ck} (h : l.Pairwise fun a b => a.id < b.id) {k : Nat} (hk : k < l.length) (a : Int) : (l.take (k + 1)).find? (fun c => decide (c.id = a)) = if a = l[k].id then some l[k] else (l.take k).find? (fun c => decide (c.id = a)) := by
 rw [List.take_succ_eq_append_getElem hk, List.find?_append]
 by_cases e : a = l[k].id
 · have : (l.take k).find? (fun c => decide (c.id = a)) = none := by
    rw [List.find?_eq_none]
    intro x hx
    obtain ⟨j, hj, rfl⟩ := List.getElem_of_mem hx
    rw [List.length_take] at hj
    rw [List.getElem_take]
    have := List.pairwise_iff_getElem.1 h j k (by omega) hk (by omega)
    simp; omega
   rw [this, if_pos e]; simp [e]
 · have e' : ¬ l[k].id = a := fun h => e h.symm
   rw [if_neg e]; simp [e']
theorem parts_ok (l : Lt) (x : Ob) (hl : l.cks.length ≤ 100000) (hx : x.chunks.length ≤ 100000) (hp : l.cks.Pairwise fun a b => a.id < b.id) : CallP Try.prog f_chunk_parts [eL l, eB x] (· = .d (.list ((textsOf l.cks x.chunks).map .str))) := by
 refine CallP.of_deep (callT_of_W fol chunk_parts_cp ?_)
 simp -dsimp (disch := first | omega | (simp only [go_sem]; omega)) only [go_sem, seval, Nat.reduceEqDiff, Nat.reduceLeDiff]
 (repeat (first | with_reducible refine W.seq ?_ | with_reducible refine W.block ?_ | ((first | with_reducible refine W.reg ?_ | with_reducible refine W.skip ?_ | with_reducible refine W.exit ?_ | with_reducible refine W.ret ?_ | with_reducible refine W.ifc ?_); simp -dsimp (disch := first | omega | (simp only [go_sem]; omega)) only [go_sem, seval, Nat.reduceEqDiff, Nat.reduceLeDiff])))
 refine wNewM_mk fun r hr => ?_
 simp -dsimp (disch := first | omega | (simp only [go_sem]; omega)) only [go_sem, seval, Nat.reduceEqDiff, Nat.reduceLeDiff]
 (repeat (first | with_reducible refine W.seq ?_ | with_reducible refine W.block ?_ | ((first | with_reducible refine W.reg ?_ | with_reducible refine W.skip ?_ | with_reducible refine W.exit ?_ | with_reducible refine W.ret ?_ | with_reducible refine W.ifc ?_); simp -dsimp (disch := first | omega | (simp only [go_sem]; omega)) only [go_sem, seval, Nat.reduceEqDiff, Nat.reduceLeDiff])))
 refine W.loop (fun m st => ∃ k b7 G mm, k ≤ l.cks.length ∧ m = l.cks.length - k ∧ MapL [.i] eI D.str G r mm ∧ (∀ a, mget mm a = ((l.cks.take k).find? fun c => decide (c.id = a)).map (·.bytes)) ∧
  st = (E [(3, .ptr 0 3 1 0), (5, .d (.mref r)), (13, .d (.list (l.cks.map eC))), (14, .d (.int .i64 l.cks.length)), (15, .d (.int .i64 k))], HB [(2, ⟨1, some [.int .i64 l.next, .list (l.cks.map eC), .list (l.obs.map eB)]⟩), (3, ⟨1, some [.int .i64 x.id, .str x.cls, .list (x.chunks.map eI)]⟩), (7, b7)], [], G))
  ⟨_, _, st_leB (by (simp -dsimp (disch := first | omega | (simp only [go_sem]; omega)) only [go_sem, seval, Nat.reduceEqDiff, Nat.reduceLeDiff] <;> ((repeat' apply And.intro) <;> first | exact VLe.refl _ | (apply vle_int; omega) | (apply vle_int; simp; done) | exact VLe.own _ _ | exact VLe.nilown _ | exact VLe.norm _))) (HB_pad [(2, _), (3, _)] [7] rfl).symm, 0, _, _, [], by omega, rfl, MapL.new (keyE_int _), fun a => by simp [mget], rfl⟩ ?_
 rintro m st ⟨k, b7, G, mm, hk, rfl, hm, hf, rfl⟩
 (repeat (first | with_reducible refine W.seq ?_ | with_reducible refine W.block ?_ | ((first | with_reducible refine W.reg ?_ | with_reducible refine W.skip ?_ | with_reducible refine W.exit ?_ | with_reducible refine W.ret ?_ | with_reducible refine W.ifc ?_); simp -dsimp (disch := first | omega | (simp only [go_sem]; omega)) only [go_sem, seval, Nat.reduceEqDiff, Nat.reduceLeDiff])))
 refine wG_dec (fun h1 => ?_) (fun h1 => ?_)
 · have hk' : k < l.cks.length := by omega
   (repeat (first | with_reducible refine W.seq ?_ | with_reducible refine W.block ?_ | ((first | with_reducible refine W.reg ?_ | with_reducible refine W.skip ?_ | with_reducible refine W.exit ?_ | with_reducible refine W.ret ?_ | with_reducible refine W.ifc ?_); simp -dsimp (disch := first | omega | (simp only [go_sem]; omega)) only [go_sem, seval, Nat.reduceEqDiff, Nat.reduceLeDiff])))
   refine wGd_put (emb := eI) (vf := D.str) hm l.cks[k].id l.cks[k].bytes fun M hM => ?_
   simp -dsimp (disch := first | omega | (simp only [go_sem]; omega)) only [go_sem, seval, Nat.reduceEqDiff, Nat.reduceLeDiff]
   (repeat (first | with_reducible refine W.seq ?_ | with_reducible refine W.block ?_ | ((first | with_reducible refine W.reg ?_ | with_reducible refine W.skip ?_ | with_reducible refine W.exit ?_ | with_reducible refine W.ret ?_ | with_reducible refine W.ifc ?_); simp -dsimp (disch := first | omega | (simp only [go_sem]; omega)) only [go_sem, seval, Nat.reduceEqDiff, Nat.reduceLeDiff])))
   refine ⟨_, _, ?_, st_leB (by (simp -dsimp (disch := first | omega | (simp only [go_sem]; omega)) only [go_sem, seval, Nat.reduceEqDiff, Nat.reduceLeDiff] <;> ((repeat' apply And.intro) <;> first | exact VLe.refl _ | (apply vle_int; omega) | (apply vle_int; simp; done) | exact VLe.own _ _ | exact VLe.nilown _ | exact VLe.norm _))) rfl, k + 1, _, _, _, by omega, rfl, hM, fun a => ?_, rfl⟩
   · omega
   · rw [mget_put, find_snoc hp hk' a, hf]
     split <;> rfl
 · obtain rfl : k = l.cks.length := by omega
   simp only [List.take_length] at hf
   (repeat (first | with_reducible refine W.seq ?_ | with_reducible refine W.block ?_ | ((first | with_reducible refine W.reg ?_ | with_reducible refine W.skip ?_ | with_reducible refine W.exit ?_ | with_reducible refine W.ret ?_ | with_reducible refine W.ifc ?_); simp -dsimp (disch := first | omega | (simp only [go_sem]; omega)) only [go_sem, seval, Nat.reduceEqDiff, Nat.reduceLeDiff])))
   refine W.loop (fun m st => ∃ k out, k ≤ x.chunks.length ∧ m = x.chunks.length - k ∧ out = (textsOf l.cks (x.chunks.take k)).map D.str ∧
    st = (E [(5, .d (.mref r)), (8, .own 1 out), (26, .d (.list (x.chunks.map eI))), (27, .d (.int .i64 x.chunks.length)), (28, .d (.int .i64 k))], HB [(2, ⟨1, some [.int .i64 l.next, .list (l.cks.map eC), .list (l.obs.map eB)]⟩), (3, ⟨1, some [.int .i64 x.id, .str x.cls, .list (x.chunks.map eI)]⟩), (7, b7)], [], G))
    ⟨_, _, st_le (by (simp -dsimp (disch := first | omega | (simp only [go_sem]; omega)) only [go_sem, seval, Nat.reduceEqDiff, Nat.reduceLeDiff] <;> ((repeat' apply And.intro) <;> first | exact VLe.refl _ | (apply vle_int; omega) | (apply vle_int; simp; done) | exact VLe.own _ _ | exact VLe.nilown _ | exact VLe.norm _))), 0, [], by omega, rfl, rfl, rfl⟩ ?_
   rintro m st ⟨k, out, hk, rfl, hout, rfl⟩
   (repeat (first | with_reducible refine W.seq ?_ | with_reducible refine W.block ?_ | ((first | with_reducible refine W.reg ?_ | with_reducible refine W.skip ?_ | with_reducible refine W.exit ?_ | with_reducible refine W.ret ?_ | with_reducible refine W.ifc ?_); simp -dsimp (disch := first | omega | (simp only [go_sem]; omega)) only [go_sem, seval, Nat.reduceEqDiff, Nat.reduceLeDiff])))
   refine wG_dec (fun h2 => ?_) (fun h2 => ?_)
   · have hk' : k < x.chunks.length := by omega
     have hlook := hm.look (.str []) x.chunks[k]
     have hv : ((mget mm x.chunks[k]).map D.str).getD (.str []) = .str (bytesOf l.cks x.chunks[k]) := by
      rw [hf]; unfold bytesOf
      cases (l.cks.find? fun c => decide (c.id = x.chunks[k])) <;> rfl
     rw [hv] at hlook
     simp only [eI] at hlook
     have hol : out.length ≤ 100000 := by rw [hout]; simp [textsOf]; omega
     (repeat (first | with_reducible refine W.seq ?_ | with_reducible refine W.block ?_ | ((first | with_reducible refine W.reg ?_ | with_reducible refine W.skip ?_ | with_reducible refine W.exit ?_ | with_reducible refine W.ret ?_ | with_reducible refine W.ifc ?_); simp -dsimp (disch := first | omega | (simp only [go_sem]; omega)) only [go_sem, seval, Nat.reduceEqDiff, Nat.reduceLeDiff, hlook])))
     refine ⟨_, _, ?_, st_le (by (simp -dsimp (disch := first | omega | (simp only [go_sem]; omega)) only [go_sem, seval, Nat.reduceEqDiff, Nat.reduceLeDiff] <;> ((repeat' apply And.intro) <;> first | exact VLe.refl _ | (apply vle_int; omega) | (apply vle_int; simp; done) | exact VLe.own _ _ | exact VLe.nilown _ | exact VLe.norm _))), k + 1, _, by omega, rfl, ?_, rfl⟩
     · omega
     · rw [hout]; unfold textsOf; rw [List.take_succ_eq_append_getElem hk', List.map_append, List.map_append]; rfl
   · obtain rfl : k = x.chunks.length := by omega
     rw [List.take_length] at hout
     subst hout
     (repeat (first | with_reducible refine W.seq ?_ | with_reducible refine W.block ?_ | ((first | with_reducible refine W.reg ?_ | with_reducible refine W.skip ?_ | with_reducible refine W.exit ?_ | with_reducible refine W.ret ?_ | with_reducible refine W.ifc ?_); simp -dsimp (disch := first | omega | (simp only [go_sem]; omega)) only [go_sem, seval, Nat.reduceEqDiff, Nat.reduceLeDiff])))
     refine Fin.nT rfl ⟨rfl, _, .refl _, ?_⟩
     simp -dsimp (disch := first | omega | (simp only [go_sem]; omega)) only [go_sem, seval, Nat.reduceEqDiff, Nat.reduceLeDiff, normL_of (f := D.str) (fun _ => norm_str _)]
theorem place_known {l : List Ob} (h : l.Pairwise fun a b => a.id < b.id) {n : Int} (hk : known n l) : ∃ hp : place n l < l.length, l[place n l].id = n ∧ l.find? (fun o => decide (o.id = n)) = some l[place n l] := by
 obtain ⟨x, hx, rfl⟩ := hk
 obtain ⟨j, hj, rfl⟩ := List.getElem_of_mem hx
 have : place l[j].id l = j := place_eq (by omega) (fun m hm hlt => pair_get h hj hlt) (fun m hm hle => by
  rcases Nat.lt_or_ge j m with h1 | h1
  · have := pair_get h hm h1; omega
  · obtain rfl : m = j := by omega
    omega)
 refine ⟨by omega, ?_, ?_⟩
 · simp only [this]
 · rw [find_of (f := Ob.id) h hx]; simp only [this]
theorem find_unknown {l : List Ob} {n : Int} (hk : ¬ known n l) : l.find? (fun o => decide (o.id = n)) = none := by
 rw [List.find?_eq_none]; intro x hx; simp; exact fun e => hk ⟨x, hx, e⟩
theorem valid_small {l : Lt} (hv : validL l) : ∀ o ∈ l.obs, (textOf l.cks o.chunks).length ≤ 65536 := fun o ho => by
 obtain ⟨j, hj, rfl⟩ := List.getElem_of_mem ho
 exact ((okO_get hj).1 (hv.2.2.2 j)).2.2.2.2.2
open Classical in
theorem Get_ok (l : Lt) (id : Int) (hl : smallL l) : CallP Try.prog f_chunk_Get [eL l, .int .i64 id] (· = .tup [.str (getR l id).1, .int .i64 (getR l id).2]) := by
 refine callP_of_W fol chunk_Get_cp ?_
 have hl1 := hl.1
 have hl2 := hl.2.1
 by_cases hv : validL l
 · have hpo := pairO hv.2.2.2
   have hpa := pairA hv.2.1
   by_cases hk : known id l.obs
   · obtain ⟨hp, hid, hf⟩ := place_known hpo hk
     have hch := hl.2.2 _ (List.getElem_mem hp)
     have ht := valid_small hv _ (List.getElem_mem hp)
     simp -dsimp (disch := first | omega | (simp only [go_sem]; omega)) only [go_sem, seval, Nat.reduceEqDiff, Nat.reduceLeDiff]
     (repeat' (first | with_reducible refine W.seq ?_ | with_reducible refine W.block ?_ | ((first | with_reducible refine W.reg ?_ | with_reducible refine W.skip ?_ | with_reducible refine W.exit ?_ | with_reducible refine W.ret ?_ | with_reducible refine W.ifc ?_ | (apply wC_P (Valid_ok l hl); (focus (simp -dsimp (disch := first | omega | (simp only [go_sem]; omega)) only [go_sem, seval, Nat.reduceEqDiff, Nat.reduceLeDiff, hv] <;> rfl)); rintro _ rfl; try simp -dsimp (disch := first | omega | (simp only [go_sem]; omega)) only [go_sem, seval, Nat.reduceEqDiff, Nat.reduceLeDiff, hv]) | (apply wC_P (object_ok l id (by omega) hpo); (focus (simp -dsimp (disch := first | omega | (simp only [go_sem]; omega)) only [go_sem, seval, Nat.reduceEqDiff, Nat.reduceLeDiff, hk] <;> rfl)); rintro _ rfl; try simp -dsimp (disch := first | omega | (simp only [go_sem]; omega)) only [go_sem, seval, Nat.reduceEqDiff, Nat.reduceLeDiff, hk]) | (apply wC_P (parts_ok l l.obs[place id l.obs] (by omega) hch hpa); (focus (simp -dsimp (disch := first | omega | (simp only [go_sem]; omega)) only [go_sem, seval, Nat.reduceEqDiff, Nat.reduceLeDiff] <;> rfl)); rintro _ rfl) | (apply wC_P (Join_ok (textsOf l.cks l.obs[place id l.obs].chunks) (by unfold textsOf; simp; omega) (by unfold textOf at ht; omega)); (focus (simp -dsimp (disch := first | omega | (simp only [go_sem]; omega)) only [go_sem, seval, Nat.reduceEqDiff, Nat.reduceLeDiff] <;> rfl)); rintro _ rfl) | ((first | with_reducible refine wG_decE (fun _ hG => ?_) (fun _ hG => ?_) | with_reducible refine wG_decFE (fun _ hG => ?_) (fun _ hG => ?_)) <;> (try simp -dsimp only [hG, decide_true, decide_false, not_true_eq_false, not_false_eq_true]) <;> clear hG)) <;> (try simp -dsimp (disch := first | omega | (simp only [go_sem]; omega)) only [go_sem, seval, Nat.reduceEqDiff, Nat.reduceLeDiff, hv, hk])) | simp -dsimp (disch := first | omega | (simp only [go_sem]; omega)) only [go_sem, seval, Nat.reduceEqDiff, Nat.reduceLeDiff, hv, hk]))
     refine Fin.p rfl ?_
     unfold getR objOf
     rw [if_pos hv, hf]; rfl
   · have hf := find_unknown hk
     simp -dsimp (disch := first | omega | (simp only [go_sem]; omega)) only [go_sem, seval, Nat.reduceEqDiff, Nat.reduceLeDiff]
     (repeat' (first | with_reducible refine W.seq ?_ | with_reducible refine W.block ?_ | ((first | with_reducible refine W.reg ?_ | with_reducible refine W.skip ?_ | with_reducible refine W.exit ?_ | with_reducible refine W.ret ?_ | with_reducible refine W.ifc ?_ | (apply wC_P (Valid_ok l hl); (focus (simp -dsimp (disch := first | omega | (simp only [go_sem]; omega)) only [go_sem, seval, Nat.reduceEqDiff, Nat.reduceLeDiff, hv] <;> rfl)); rintro _ rfl; try simp -dsimp (disch := first | omega | (simp only [go_sem]; omega)) only [go_sem, seval, Nat.reduceEqDiff, Nat.reduceLeDiff, hv]) | (apply wC_P (object_ok l id (by omega) hpo); (focus (simp -dsimp (disch := first | omega | (simp only [go_sem]; omega)) only [go_sem, seval, Nat.reduceEqDiff, Nat.reduceLeDiff, hk] <;> rfl)); rintro _ rfl; try simp -dsimp (disch := first | omega | (simp only [go_sem]; omega)) only [go_sem, seval, Nat.reduceEqDiff, Nat.reduceLeDiff, hk]) | ((first | with_reducible refine wG_decE (fun _ hG => ?_) (fun _ hG => ?_) | with_reducible refine wG_decFE (fun _ hG => ?_) (fun _ hG => ?_)) <;> (try simp -dsimp only [hG, decide_true, decide_false, not_true_eq_false, not_false_eq_true]) <;> clear hG)) <;> (try simp -dsimp (disch := first | omega | (simp only [go_sem]; omega)) only [go_sem, seval, Nat.reduceEqDiff, Nat.reduceLeDiff, hv, hk])) | simp -dsimp (disch := first | omega | (simp only [go_sem]; omega)) only [go_sem, seval, Nat.reduceEqDiff, Nat.reduceLeDiff, hv, hk]))
     refine Fin.p rfl ?_
     unfold getR objOf
     rw [if_pos hv, hf]
 · simp -dsimp (disch := first | omega | (simp only [go_sem]; omega)) only [go_sem, seval, Nat.reduceEqDiff, Nat.reduceLeDiff]
   (repeat' (first | with_reducible refine W.seq ?_ | with_reducible refine W.block ?_ | ((first | with_reducible refine W.reg ?_ | with_reducible refine W.skip ?_ | with_reducible refine W.exit ?_ | with_reducible refine W.ret ?_ | with_reducible refine W.ifc ?_ | (apply wC_P (Valid_ok l hl); (focus (simp -dsimp (disch := first | omega | (simp only [go_sem]; omega)) only [go_sem, seval, Nat.reduceEqDiff, Nat.reduceLeDiff, hv] <;> rfl)); rintro _ rfl; try simp -dsimp (disch := first | omega | (simp only [go_sem]; omega)) only [go_sem, seval, Nat.reduceEqDiff, Nat.reduceLeDiff, hv]) | ((first | with_reducible refine wG_decE (fun _ hG => ?_) (fun _ hG => ?_) | with_reducible refine wG_decFE (fun _ hG => ?_) (fun _ hG => ?_)) <;> (try simp -dsimp only [hG, decide_true, decide_false, not_true_eq_false, not_false_eq_true]) <;> clear hG)) <;> (try simp -dsimp (disch := first | omega | (simp only [go_sem]; omega)) only [go_sem, seval, Nat.reduceEqDiff, Nat.reduceLeDiff, hv])) | simp -dsimp (disch := first | omega | (simp only [go_sem]; omega)) only [go_sem, seval, Nat.reduceEqDiff, Nat.reduceLeDiff, hv]))
   refine Fin.p rfl ?_
   unfold getR
   rw [if_neg hv]
end Go.Proofs.Ytbcnnomgfheaoaa
