/-
 Layer 37 (chunk), continued: the specification's functions on lots.
 Conditions: of each contract as it says.
-/
import Derived.Test.YtbcnnomgfheaoaaF37r
import Derived.Test.YtbcnnomgfheaoaaS37e
namespace Go.Proofs.Ytbcnnomgfheaoaa
open Go Go.E2 C37
set_option linter.unusedSimpArgs false
set_option maxHeartbeats 2000000
theorem fst_known {l : Lt} (hp : l.obs.Pairwise fun a b => a.id < b.id) {id : Int} (hk : known id l.obs) : fstI l.obs (fun o => decide (o.id = id)) = place id l.obs := by
 obtain ⟨hpl, hid, hf⟩ := place_known hp hk
 refine fstI_at hpl (by simpa using hid) fun j hj hlt => ?_
 have := pair_get hp hpl hlt
 simp; omega
theorem fst_unknown {l : Lt} {id : Int} (hk : ¬ known id l.obs) : fstI l.obs (fun o => decide (o.id = id)) = -1 :=
 fstI_none fun j hj => decide_eq_false fun e => hk ⟨_, List.getElem_mem hj, e⟩
theorem index_of {l : Lt} (hp : l.cks.Pairwise fun a b => a.id < b.id) {i : Int} {cls : Str} (h : ∃ c ∈ l.cks, c.id = i ∧ c.cls = cls) : ∃ k, ∃ hk : k < l.cks.length, fstI l.cks (fun c => decide (c.id = i)) = k ∧ bytesOf l.cks i = l.cks[k].bytes := by
 obtain ⟨c, hc, rfl, -⟩ := h
 rcases fstI_cases l.cks (fun d => decide (d.id = c.id)) with ⟨-, -, -, hn⟩ | ⟨k, hk, e, -, hf, -⟩
 · have := hn c hc; simp at this
 · refine ⟨k, hk, e, ?_⟩
   unfold bytesOf; rw [hf]; rfl
theorem textsOf_succ {cks : List Ck} {ids : List Int} {k : Nat} (h : k < ids.length) : textsOf cks (ids.take (k + 1)) = textsOf cks (ids.take k) ++ [bytesOf cks ids[k]] := by
 unfold textsOf; rw [List.take_succ_eq_append_getElem h, List.map_append]; rfl
open Classical in
theorem refGet_ok (l : Lt) (id : Int) (hl : smallL l) : CallP Try.prog f_quietusref37_Get [eL l, .int .i64 id] (· = .d (.agg [.str (getR l id).1, .int .i64 (getR l id).2])) := by
 refine callP_of_W fol quietusref37_Get_cp ?_
 have hl1 := hl.1
 have hl2 := hl.2.1
 by_cases hv : validL l
 · have hpo := pairO hv.2.2.2
   have hpa := pairA hv.2.1
   by_cases hk : known id l.obs
   · obtain ⟨hp, hid, hf⟩ := place_known hpo hk
     have hfk := fst_known hpo hk
     have hch := hl.2.2 _ (List.getElem_mem hp)
     have ht := valid_small hv _ (List.getElem_mem hp)
     have hO := ((okO_get hp).1 (hv.2.2.2 _)).2.2.2.2.1
     have hpn : (((place id l.obs : Nat) : Int) < 0) = False := eq_false (by omega)
     simp -dsimp (disch := first | omega | (simp only [go_sem]; omega)) only [go_sem, seval, Nat.reduceEqDiff, Nat.reduceLeDiff]
     (repeat' (first | with_reducible refine W.seq ?_ | with_reducible refine W.block ?_ | ((first | with_reducible refine W.reg ?_ | with_reducible refine W.skip ?_ | with_reducible refine W.exit ?_ | with_reducible refine W.ret ?_ | with_reducible refine W.ifc ?_ | (apply wC_P (refValid_ok l hl); (focus (simp -dsimp (disch := first | omega | (simp only [go_sem]; omega)) only [go_sem, seval, Nat.reduceEqDiff, Nat.reduceLeDiff, hv] <;> rfl)); rintro _ rfl; try simp -dsimp (disch := first | omega | (simp only [go_sem]; omega)) only [go_sem, seval, Nat.reduceEqDiff, Nat.reduceLeDiff, hv]) | (apply wC_P (refObject_ok l id (by omega)); (focus (simp -dsimp (disch := first | omega | (simp only [go_sem]; omega)) only [go_sem, seval, Nat.reduceEqDiff, Nat.reduceLeDiff, hfk] <;> rfl)); rintro _ rfl; try simp -dsimp (disch := first | omega | (simp only [go_sem]; omega)) only [go_sem, seval, Nat.reduceEqDiff, Nat.reduceLeDiff, hfk]) | ((first | with_reducible refine wG_decE (fun _ hG => ?_) (fun _ hG => ?_) | with_reducible refine wG_decFE (fun _ hG => ?_) (fun _ hG => ?_)) <;> (try simp -dsimp only [hG, decide_true, decide_false, not_true_eq_false, not_false_eq_true]) <;> clear hG)) <;> (try simp -dsimp (disch := first | omega | (simp only [go_sem]; omega)) only [go_sem, seval, Nat.reduceEqDiff, Nat.reduceLeDiff, hv, hfk, hpn])) | simp -dsimp (disch := first | omega | (simp only [go_sem]; omega)) only [go_sem, seval, Nat.reduceEqDiff, Nat.reduceLeDiff, hv, hfk, hpn]))
     refine W.loop (fun m st => ∃ i out, i ≤ l.obs[place id l.obs].chunks.length ∧ m = l.obs[place id l.obs].chunks.length - i ∧ out = textOf l.cks (l.obs[place id l.obs].chunks.take i) ∧ out.length ≤ 65536 ∧
      st = (E [(2, .ptr 0 2 1 0), (4, .ptr 0 4 1 0), (6, .d (.int .i64 (place id l.obs : Nat))), (7, .d (.str out)), (8, .d (.int .i64 i))],
       HB [(2, ⟨1, some [.int .i64 l.next, .list (l.cks.map eC), .list (l.obs.map eB)]⟩), (4, ⟨1, some [.str [], .int .i64 0]⟩)], [], noGh))
      ⟨_, _, st_le (l' := [(2, .ptr 0 2 1 0), (4, .ptr 0 4 1 0), (6, .d (.int .i64 (place id l.obs : Nat))), (7, .d (.str [])), (8, .d (.int .i64 (0 : Nat)))]) (by (simp -dsimp (disch := first | omega | (simp only [go_sem]; omega)) only [go_sem, seval, Nat.reduceEqDiff, Nat.reduceLeDiff] <;> ((repeat' apply And.intro) <;> first | exact VLe.refl _ | (apply vle_int; omega) | (apply vle_int; simp; done) | exact VLe.own _ _ | exact VLe.nilown _ | exact VLe.norm _))), 0, [], by omega, rfl, rfl, by simp, rfl⟩ ?_
     rintro m st ⟨i, out, hi, rfl, hout, hol, rfl⟩
     (repeat (first | with_reducible refine W.seq ?_ | with_reducible refine W.block ?_ | ((first | with_reducible refine W.reg ?_ | with_reducible refine W.skip ?_ | with_reducible refine W.exit ?_ | with_reducible refine W.ret ?_ | with_reducible refine W.ifc ?_); simp -dsimp (disch := first | omega | (simp only [go_sem]; omega)) only [go_sem, seval, Nat.reduceEqDiff, Nat.reduceLeDiff])))
     refine wG_dec (fun h2 => ?_) (fun h2 => ?_)
     · have hi' : i < l.obs[place id l.obs].chunks.length := by omega
       obtain ⟨c, hc, hfc, hby⟩ := index_of hpa (hO _ (List.getElem_mem hi'))
       have hts := textOf_succ (cks := l.cks) hi'
       have htl := textOf_take_le l.cks l.obs[place id l.obs].chunks (i + 1)
       rw [hby] at hts
       have hlen := congrArg List.length hts
       rw [List.length_append, ← hout] at hlen
       (repeat' (first | with_reducible refine W.seq ?_ | with_reducible refine W.block ?_ | ((first | with_reducible refine W.reg ?_ | with_reducible refine W.skip ?_ | with_reducible refine W.exit ?_ | with_reducible refine W.ret ?_ | with_reducible refine W.ifc ?_ | (apply wC_P (index_ok l l.obs[place id l.obs].chunks[i] (by omega)); (focus (simp -dsimp (disch := first | omega | (simp only [go_sem]; omega)) only [go_sem, seval, Nat.reduceEqDiff, Nat.reduceLeDiff, hfc] <;> rfl)); rintro _ rfl; try simp -dsimp (disch := first | omega | (simp only [go_sem]; omega)) only [go_sem, seval, Nat.reduceEqDiff, Nat.reduceLeDiff, hfc]) | ((first | with_reducible refine wG_decE (fun _ hG => ?_) (fun _ hG => ?_) | with_reducible refine wG_decFE (fun _ hG => ?_) (fun _ hG => ?_)) <;> (try simp -dsimp only [hG, decide_true, decide_false, not_true_eq_false, not_false_eq_true]) <;> clear hG)) <;> (try simp -dsimp (disch := first | omega | (simp only [go_sem]; omega)) only [go_sem, seval, Nat.reduceEqDiff, Nat.reduceLeDiff, hfc])) | simp -dsimp (disch := first | omega | (simp only [go_sem]; omega)) only [go_sem, seval, Nat.reduceEqDiff, Nat.reduceLeDiff, hfc]))
       refine ⟨_, _, ?_, st_le (by (simp -dsimp (disch := first | omega | (simp only [go_sem]; omega)) only [go_sem, seval, Nat.reduceEqDiff, Nat.reduceLeDiff] <;> ((repeat' apply And.intro) <;> first | exact VLe.refl _ | (apply vle_int; omega) | (apply vle_int; simp; done) | exact VLe.own _ _ | exact VLe.nilown _ | exact VLe.norm _))), i + 1, _, by omega, rfl, by rw [hts, hout], by rw [List.length_append]; omega, rfl⟩
       omega
     · obtain rfl : i = l.obs[place id l.obs].chunks.length := by omega
       rw [List.take_length] at hout
       (repeat (first | with_reducible refine W.seq ?_ | with_reducible refine W.block ?_ | ((first | with_reducible refine W.reg ?_ | with_reducible refine W.skip ?_ | with_reducible refine W.exit ?_ | with_reducible refine W.ret ?_ | with_reducible refine W.ifc ?_); simp -dsimp (disch := first | omega | (simp only [go_sem]; omega)) only [go_sem, seval, Nat.reduceEqDiff, Nat.reduceLeDiff])))
       refine Fin.p rfl ?_
       unfold getR objOf
       rw [if_pos hv, hf, hout]; rfl
   · have hf := find_unknown hk
     have hfk := fst_unknown hk
     simp -dsimp (disch := first | omega | (simp only [go_sem]; omega)) only [go_sem, seval, Nat.reduceEqDiff, Nat.reduceLeDiff]
     (repeat' (first | with_reducible refine W.seq ?_ | with_reducible refine W.block ?_ | ((first | with_reducible refine W.reg ?_ | with_reducible refine W.skip ?_ | with_reducible refine W.exit ?_ | with_reducible refine W.ret ?_ | with_reducible refine W.ifc ?_ | (apply wC_P (refValid_ok l hl); (focus (simp -dsimp (disch := first | omega | (simp only [go_sem]; omega)) only [go_sem, seval, Nat.reduceEqDiff, Nat.reduceLeDiff, hv] <;> rfl)); rintro _ rfl; try simp -dsimp (disch := first | omega | (simp only [go_sem]; omega)) only [go_sem, seval, Nat.reduceEqDiff, Nat.reduceLeDiff, hv]) | (apply wC_P (refObject_ok l id (by omega)); (focus (simp -dsimp (disch := first | omega | (simp only [go_sem]; omega)) only [go_sem, seval, Nat.reduceEqDiff, Nat.reduceLeDiff, hfk] <;> rfl)); rintro _ rfl; try simp -dsimp (disch := first | omega | (simp only [go_sem]; omega)) only [go_sem, seval, Nat.reduceEqDiff, Nat.reduceLeDiff, hfk]) | ((first | with_reducible refine wG_decE (fun _ hG => ?_) (fun _ hG => ?_) | with_reducible refine wG_decFE (fun _ hG => ?_) (fun _ hG => ?_)) <;> (try simp -dsimp only [hG, decide_true, decide_false, not_true_eq_false, not_false_eq_true]) <;> clear hG)) <;> (try simp -dsimp (disch := first | omega | (simp only [go_sem]; omega)) only [go_sem, seval, Nat.reduceEqDiff, Nat.reduceLeDiff, hv, hfk])) | simp -dsimp (disch := first | omega | (simp only [go_sem]; omega)) only [go_sem, seval, Nat.reduceEqDiff, Nat.reduceLeDiff, hv, hfk]))
     refine Fin.p rfl ?_
     unfold getR objOf
     rw [if_pos hv, hf]; rfl
 · simp -dsimp (disch := first | omega | (simp only [go_sem]; omega)) only [go_sem, seval, Nat.reduceEqDiff, Nat.reduceLeDiff]
   (repeat' (first | with_reducible refine W.seq ?_ | with_reducible refine W.block ?_ | ((first | with_reducible refine W.reg ?_ | with_reducible refine W.skip ?_ | with_reducible refine W.exit ?_ | with_reducible refine W.ret ?_ | with_reducible refine W.ifc ?_ | (apply wC_P (refValid_ok l hl); (focus (simp -dsimp (disch := first | omega | (simp only [go_sem]; omega)) only [go_sem, seval, Nat.reduceEqDiff, Nat.reduceLeDiff, hv] <;> rfl)); rintro _ rfl; try simp -dsimp (disch := first | omega | (simp only [go_sem]; omega)) only [go_sem, seval, Nat.reduceEqDiff, Nat.reduceLeDiff, hv]) | ((first | with_reducible refine wG_decE (fun _ hG => ?_) (fun _ hG => ?_) | with_reducible refine wG_decFE (fun _ hG => ?_) (fun _ hG => ?_)) <;> (try simp -dsimp only [hG, decide_true, decide_false, not_true_eq_false, not_false_eq_true]) <;> clear hG)) <;> (try simp -dsimp (disch := first | omega | (simp only [go_sem]; omega)) only [go_sem, seval, Nat.reduceEqDiff, Nat.reduceLeDiff, hv])) | simp -dsimp (disch := first | omega | (simp only [go_sem]; omega)) only [go_sem, seval, Nat.reduceEqDiff, Nat.reduceLeDiff, hv]))
   refine Fin.p rfl ?_
   unfold getR
   rw [if_neg hv]; rfl
theorem norm_eCh (l : Lt) (g : List Int) (e : Int) : norm (eCh l g e) = eCh l g e := by
 have h1 : normL (l.cks.map eC) = l.cks.map eC := normL_of (f := eC) (fun _ => rfl) _
 have h2 : normL (l.obs.map eB) = l.obs.map eB := normL_of (f := eB) (fun o => by
  have h4 : normL (o.chunks.map eI) = o.chunks.map eI := normL_of (f := eI) (fun _ => rfl) _
  unfold eB; simp -dsimp (disch := first | omega | (simp only [go_sem]; omega)) only [go_sem, seval, Nat.reduceEqDiff, Nat.reduceLeDiff, h4]) _
 have h3 : normL (g.map eI) = g.map eI := normL_of (f := eI) (fun _ => rfl) _
 unfold eCh
 simp -dsimp (disch := first | omega | (simp only [go_sem]; omega)) only [go_sem, seval, Nat.reduceEqDiff, Nat.reduceLeDiff, h1, h2, h3]
open Classical in
theorem refPut_ok (l : Lt) (c : Ct) (id : Int) (cls data : Str) (hl : smallL l) : CallP Try.prog f_quietusref37_Put [eL l, eT c, .int .i64 id, .str cls, .str data] (· = .d (eCh (putR l c id cls data).1 [] (putR l c id cls data).2)) := by
 refine callP_of_W fol quietusref37_Put_cp ?_
 have hl1 := hl.1
 have hl2 := hl.2.1
 have hfar : far = 1099511627776 := rfl
 by_cases hv : validL l
 · have hpo := pairO hv.2.2.2
   by_cases hc : (cutR c data).2 = 0
   · by_cases hid : id < 1 ∨ id > far ∨ cls.length > 65536
     · have hR : putR l c id cls data = (⟨0, [], []⟩, 1) := by
        unfold putR; rw [if_pos hv, if_neg (by simp [hc]), if_pos hid]
       rw [hR]
       simp -dsimp (disch := first | omega | (simp only [go_sem]; omega)) only [go_sem, seval, Nat.reduceEqDiff, Nat.reduceLeDiff]
       (repeat' (first | with_reducible refine W.seq ?_ | with_reducible refine W.block ?_ | ((first | with_reducible refine W.reg ?_ | with_reducible refine W.skip ?_ | with_reducible refine W.exit ?_ | with_reducible refine W.ret ?_ | with_reducible refine W.ifc ?_ | (apply wC_P (refValid_ok l hl); (focus (simp -dsimp (disch := first | omega | (simp only [go_sem]; omega)) only [go_sem, seval, Nat.reduceEqDiff, Nat.reduceLeDiff, hv] <;> rfl)); rintro _ rfl; try simp -dsimp (disch := first | omega | (simp only [go_sem]; omega)) only [go_sem, seval, Nat.reduceEqDiff, Nat.reduceLeDiff, hv]) | (apply wC_P (refCut_ok c data); (focus (simp -dsimp (disch := first | omega | (simp only [go_sem]; omega)) only [go_sem, seval, Nat.reduceEqDiff, Nat.reduceLeDiff, hc] <;> rfl)); rintro _ rfl; try simp -dsimp (disch := first | omega | (simp only [go_sem]; omega)) only [go_sem, seval, Nat.reduceEqDiff, Nat.reduceLeDiff, hc]) | (apply wC_P (power40_ok); (focus (simp -dsimp (disch := first | omega | (simp only [go_sem]; omega)) only [go_sem, seval, Nat.reduceEqDiff, Nat.reduceLeDiff] <;> rfl)); rintro _ rfl) | ((first | with_reducible refine wG_decE (fun _ hG => ?_) (fun _ hG => ?_) | with_reducible refine wG_decFE (fun _ hG => ?_) (fun _ hG => ?_)) <;> (try simp -dsimp only [hG, decide_true, decide_false, not_true_eq_false, not_false_eq_true]) <;> clear hG)) <;> (try simp -dsimp (disch := first | omega | (simp only [go_sem]; omega)) only [go_sem, seval, Nat.reduceEqDiff, Nat.reduceLeDiff, hv, hc])) | simp -dsimp (disch := first | omega | (simp only [go_sem]; omega)) only [go_sem, seval, Nat.reduceEqDiff, Nat.reduceLeDiff, hv, hc]))
       all_goals first | (exfalso; omega) | exact Fin.n rfl rfl
     · by_cases hk : known id l.obs
       · have hfk := fst_known hpo hk
         have hpn : (0 ≤ ((place id l.obs : Nat) : Int)) = True := eq_true (by omega)
         have hR : putR l c id cls data = (⟨0, [], []⟩, 9) := by
          unfold putR; rw [if_pos hv, if_neg (by simp [hc]), if_neg hid, if_pos hk]
         rw [hR]
         simp -dsimp (disch := first | omega | (simp only [go_sem]; omega)) only [go_sem, seval, Nat.reduceEqDiff, Nat.reduceLeDiff]
         (repeat' (first | with_reducible refine W.seq ?_ | with_reducible refine W.block ?_ | ((first | with_reducible refine W.reg ?_ | with_reducible refine W.skip ?_ | with_reducible refine W.exit ?_ | with_reducible refine W.ret ?_ | with_reducible refine W.ifc ?_ | (apply wC_P (refValid_ok l hl); (focus (simp -dsimp (disch := first | omega | (simp only [go_sem]; omega)) only [go_sem, seval, Nat.reduceEqDiff, Nat.reduceLeDiff, hv] <;> rfl)); rintro _ rfl; try simp -dsimp (disch := first | omega | (simp only [go_sem]; omega)) only [go_sem, seval, Nat.reduceEqDiff, Nat.reduceLeDiff, hv]) | (apply wC_P (refCut_ok c data); (focus (simp -dsimp (disch := first | omega | (simp only [go_sem]; omega)) only [go_sem, seval, Nat.reduceEqDiff, Nat.reduceLeDiff, hc] <;> rfl)); rintro _ rfl; try simp -dsimp (disch := first | omega | (simp only [go_sem]; omega)) only [go_sem, seval, Nat.reduceEqDiff, Nat.reduceLeDiff, hc]) | (apply wC_P (power40_ok); (focus (simp -dsimp (disch := first | omega | (simp only [go_sem]; omega)) only [go_sem, seval, Nat.reduceEqDiff, Nat.reduceLeDiff] <;> rfl)); rintro _ rfl) | (apply wC_P (refObject_ok l id (by omega)); (focus (simp -dsimp (disch := first | omega | (simp only [go_sem]; omega)) only [go_sem, seval, Nat.reduceEqDiff, Nat.reduceLeDiff, hfk] <;> rfl)); rintro _ rfl; try simp -dsimp (disch := first | omega | (simp only [go_sem]; omega)) only [go_sem, seval, Nat.reduceEqDiff, Nat.reduceLeDiff, hfk]) | ((first | with_reducible refine wG_decE (fun _ hG => ?_) (fun _ hG => ?_) | with_reducible refine wG_decFE (fun _ hG => ?_) (fun _ hG => ?_)) <;> (try simp -dsimp only [hG, decide_true, decide_false, not_true_eq_false, not_false_eq_true]) <;> clear hG)) <;> (try simp -dsimp (disch := first | omega | (simp only [go_sem]; omega)) only [go_sem, seval, Nat.reduceEqDiff, Nat.reduceLeDiff, hv, hc, hfk, hpn])) | simp -dsimp (disch := first | omega | (simp only [go_sem]; omega)) only [go_sem, seval, Nat.reduceEqDiff, Nat.reduceLeDiff, hv, hc, hfk, hpn]))
         all_goals first | (exfalso; omega) | exact Fin.n rfl rfl
       · have hfk := fst_unknown hk
         have hR : putR l c id cls data = addL l id cls (cutR c data).1 := by
          unfold putR; rw [if_pos hv, if_neg (by simp [hc]), if_neg hid, if_neg hk]
         rw [hR]
         have hpre : AddPre l id cls (cutR c data).1 := by
          refine ⟨⟨hl1, hl2, ?_⟩, nameD_of hv.2.1, hpo, hk, ⟨by have := hv.1; omega, by have := hv.1; omega⟩, uses_bound hv hl⟩
          unfold cutR
          split
          · split
            · exact Nat.zero_le _
            · have := cutN_len c data data.length 0 0; unfold cutL; simp only; omega
          · exact Nat.zero_le _
         simp -dsimp (disch := first | omega | (simp only [go_sem]; omega)) only [go_sem, seval, Nat.reduceEqDiff, Nat.reduceLeDiff]
         (repeat' (first | with_reducible refine W.seq ?_ | with_reducible refine W.block ?_ | ((first | with_reducible refine W.reg ?_ | with_reducible refine W.skip ?_ | with_reducible refine W.exit ?_ | with_reducible refine W.ret ?_ | with_reducible refine W.ifc ?_ | (apply wC_P (refValid_ok l hl); (focus (simp -dsimp (disch := first | omega | (simp only [go_sem]; omega)) only [go_sem, seval, Nat.reduceEqDiff, Nat.reduceLeDiff, hv] <;> rfl)); rintro _ rfl; try simp -dsimp (disch := first | omega | (simp only [go_sem]; omega)) only [go_sem, seval, Nat.reduceEqDiff, Nat.reduceLeDiff, hv]) | (apply wC_P (refCut_ok c data); (focus (simp -dsimp (disch := first | omega | (simp only [go_sem]; omega)) only [go_sem, seval, Nat.reduceEqDiff, Nat.reduceLeDiff, hc] <;> rfl)); rintro _ rfl; try simp -dsimp (disch := first | omega | (simp only [go_sem]; omega)) only [go_sem, seval, Nat.reduceEqDiff, Nat.reduceLeDiff, hc]) | (apply wC_P (power40_ok); (focus (simp -dsimp (disch := first | omega | (simp only [go_sem]; omega)) only [go_sem, seval, Nat.reduceEqDiff, Nat.reduceLeDiff] <;> rfl)); rintro _ rfl) | (apply wC_P (refObject_ok l id (by omega)); (focus (simp -dsimp (disch := first | omega | (simp only [go_sem]; omega)) only [go_sem, seval, Nat.reduceEqDiff, Nat.reduceLeDiff, hfk] <;> rfl)); rintro _ rfl; try simp -dsimp (disch := first | omega | (simp only [go_sem]; omega)) only [go_sem, seval, Nat.reduceEqDiff, Nat.reduceLeDiff, hfk]) | (apply wC_P (refAdd_ok l id cls (cutR c data).1 hpre); (focus (simp -dsimp (disch := first | omega | (simp only [go_sem]; omega)) only [go_sem, seval, Nat.reduceEqDiff, Nat.reduceLeDiff, eCh] <;> rfl)); rintro _ rfl; try simp -dsimp (disch := first | omega | (simp only [go_sem]; omega)) only [go_sem, seval, Nat.reduceEqDiff, Nat.reduceLeDiff, eCh]) | ((first | with_reducible refine wG_decE (fun _ hG => ?_) (fun _ hG => ?_) | with_reducible refine wG_decFE (fun _ hG => ?_) (fun _ hG => ?_)) <;> (try simp -dsimp only [hG, decide_true, decide_false, not_true_eq_false, not_false_eq_true]) <;> clear hG)) <;> (try simp -dsimp (disch := first | omega | (simp only [go_sem]; omega)) only [go_sem, seval, Nat.reduceEqDiff, Nat.reduceLeDiff, hv, hc, hfk])) | simp -dsimp (disch := first | omega | (simp only [go_sem]; omega)) only [go_sem, seval, Nat.reduceEqDiff, Nat.reduceLeDiff, hv, hc, hfk]))
         all_goals first | (exfalso; omega) | exact Fin.n rfl (congrArg AV.d (norm_eCh (addL l id cls (cutR c data).1).1 [] (addL l id cls (cutR c data).1).2))
   · have hR : putR l c id cls data = (⟨0, [], []⟩, (cutR c data).2) := by
      unfold putR; rw [if_pos hv, if_pos hc]
     rw [hR]
     simp -dsimp (disch := first | omega | (simp only [go_sem]; omega)) only [go_sem, seval, Nat.reduceEqDiff, Nat.reduceLeDiff]
     (repeat' (first | with_reducible refine W.seq ?_ | with_reducible refine W.block ?_ | ((first | with_reducible refine W.reg ?_ | with_reducible refine W.skip ?_ | with_reducible refine W.exit ?_ | with_reducible refine W.ret ?_ | with_reducible refine W.ifc ?_ | (apply wC_P (refValid_ok l hl); (focus (simp -dsimp (disch := first | omega | (simp only [go_sem]; omega)) only [go_sem, seval, Nat.reduceEqDiff, Nat.reduceLeDiff, hv] <;> rfl)); rintro _ rfl; try simp -dsimp (disch := first | omega | (simp only [go_sem]; omega)) only [go_sem, seval, Nat.reduceEqDiff, Nat.reduceLeDiff, hv]) | (apply wC_P (refCut_ok c data); (focus (simp -dsimp (disch := first | omega | (simp only [go_sem]; omega)) only [go_sem, seval, Nat.reduceEqDiff, Nat.reduceLeDiff, hc] <;> rfl)); rintro _ rfl; try simp -dsimp (disch := first | omega | (simp only [go_sem]; omega)) only [go_sem, seval, Nat.reduceEqDiff, Nat.reduceLeDiff, hc]) | ((first | with_reducible refine wG_decE (fun _ hG => ?_) (fun _ hG => ?_) | with_reducible refine wG_decFE (fun _ hG => ?_) (fun _ hG => ?_)) <;> (try simp -dsimp only [hG, decide_true, decide_false, not_true_eq_false, not_false_eq_true]) <;> clear hG)) <;> (try simp -dsimp (disch := first | omega | (simp only [go_sem]; omega)) only [go_sem, seval, Nat.reduceEqDiff, Nat.reduceLeDiff, hv, hc])) | simp -dsimp (disch := first | omega | (simp only [go_sem]; omega)) only [go_sem, seval, Nat.reduceEqDiff, Nat.reduceLeDiff, hv, hc]))
     all_goals first | (exfalso; omega) | exact Fin.n rfl rfl
 · have hR : putR l c id cls data = (⟨0, [], []⟩, 1) := by
    unfold putR; rw [if_neg hv]
   rw [hR]
   simp -dsimp (disch := first | omega | (simp only [go_sem]; omega)) only [go_sem, seval, Nat.reduceEqDiff, Nat.reduceLeDiff]
   (repeat' (first | with_reducible refine W.seq ?_ | with_reducible refine W.block ?_ | ((first | with_reducible refine W.reg ?_ | with_reducible refine W.skip ?_ | with_reducible refine W.exit ?_ | with_reducible refine W.ret ?_ | with_reducible refine W.ifc ?_ | (apply wC_P (refValid_ok l hl); (focus (simp -dsimp (disch := first | omega | (simp only [go_sem]; omega)) only [go_sem, seval, Nat.reduceEqDiff, Nat.reduceLeDiff, hv] <;> rfl)); rintro _ rfl; try simp -dsimp (disch := first | omega | (simp only [go_sem]; omega)) only [go_sem, seval, Nat.reduceEqDiff, Nat.reduceLeDiff, hv]) | ((first | with_reducible refine wG_decE (fun _ hG => ?_) (fun _ hG => ?_) | with_reducible refine wG_decFE (fun _ hG => ?_) (fun _ hG => ?_)) <;> (try simp -dsimp only [hG, decide_true, decide_false, not_true_eq_false, not_false_eq_true]) <;> clear hG)) <;> (try simp -dsimp (disch := first | omega | (simp only [go_sem]; omega)) only [go_sem, seval, Nat.reduceEqDiff, Nat.reduceLeDiff, hv])) | simp -dsimp (disch := first | omega | (simp only [go_sem]; omega)) only [go_sem, seval, Nat.reduceEqDiff, Nat.reduceLeDiff, hv]))
   exact Fin.n rfl rfl
open Classical in
theorem refDrop_ok (l : Lt) (id : Int) (hl : smallL l) : CallP Try.prog f_quietusref37_Drop [eL l, .int .i64 id] (· = .d (eCh (dropR l id).1 (dropR l id).2.1 (dropR l id).2.2)) := by
 refine callP_of_W fol quietusref37_Drop_cp ?_
 have hl1 := hl.1
 have hl2 := hl.2.1
 by_cases hv : validL l
 · have hpo := pairO hv.2.2.2
   by_cases hk : known id l.obs
   · obtain ⟨hp, hid, hf⟩ := place_known hpo hk
     have hfk := fst_known hpo hk
     have hpn : (((place id l.obs : Nat) : Int) < 0) = False := eq_false (by omega)
     have hR : dropR l id = ((without l id).1, (without l id).2, 0) := by
      unfold dropR objOf; rw [if_pos hv, hf]
     rw [hR]
     simp -dsimp (disch := first | omega | (simp only [go_sem]; omega)) only [go_sem, seval, Nat.reduceEqDiff, Nat.reduceLeDiff]
     (repeat' (first | with_reducible refine W.seq ?_ | with_reducible refine W.block ?_ | ((first | with_reducible refine W.reg ?_ | with_reducible refine W.skip ?_ | with_reducible refine W.exit ?_ | with_reducible refine W.ret ?_ | with_reducible refine W.ifc ?_ | (apply wC_P (refValid_ok l hl); (focus (simp -dsimp (disch := first | omega | (simp only [go_sem]; omega)) only [go_sem, seval, Nat.reduceEqDiff, Nat.reduceLeDiff, hv] <;> rfl)); rintro _ rfl; try simp -dsimp (disch := first | omega | (simp only [go_sem]; omega)) only [go_sem, seval, Nat.reduceEqDiff, Nat.reduceLeDiff, hv]) | (apply wC_P (refObject_ok l id (by omega)); (focus (simp -dsimp (disch := first | omega | (simp only [go_sem]; omega)) only [go_sem, seval, Nat.reduceEqDiff, Nat.reduceLeDiff, hfk] <;> rfl)); rintro _ rfl; try simp -dsimp (disch := first | omega | (simp only [go_sem]; omega)) only [go_sem, seval, Nat.reduceEqDiff, Nat.reduceLeDiff, hfk]) | (apply wC_P (refWithout_ok l id hl); (focus (simp -dsimp (disch := first | omega | (simp only [go_sem]; omega)) only [go_sem, seval, Nat.reduceEqDiff, Nat.reduceLeDiff, eCh] <;> rfl)); rintro _ rfl; try simp -dsimp (disch := first | omega | (simp only [go_sem]; omega)) only [go_sem, seval, Nat.reduceEqDiff, Nat.reduceLeDiff, eCh]) | ((first | with_reducible refine wG_decE (fun _ hG => ?_) (fun _ hG => ?_) | with_reducible refine wG_decFE (fun _ hG => ?_) (fun _ hG => ?_)) <;> (try simp -dsimp only [hG, decide_true, decide_false, not_true_eq_false, not_false_eq_true]) <;> clear hG)) <;> (try simp -dsimp (disch := first | omega | (simp only [go_sem]; omega)) only [go_sem, seval, Nat.reduceEqDiff, Nat.reduceLeDiff, hv, hfk, hpn])) | simp -dsimp (disch := first | omega | (simp only [go_sem]; omega)) only [go_sem, seval, Nat.reduceEqDiff, Nat.reduceLeDiff, hv, hfk, hpn]))
     all_goals exact Fin.n rfl (congrArg AV.d (norm_eCh (without l id).1 (without l id).2 0))
   · have hfk := fst_unknown hk
     have hf := find_unknown hk
     have hR : dropR l id = (⟨0, [], []⟩, [], 8) := by
      unfold dropR objOf; rw [if_pos hv, hf]
     rw [hR]
     simp -dsimp (disch := first | omega | (simp only [go_sem]; omega)) only [go_sem, seval, Nat.reduceEqDiff, Nat.reduceLeDiff]
     (repeat' (first | with_reducible refine W.seq ?_ | with_reducible refine W.block ?_ | ((first | with_reducible refine W.reg ?_ | with_reducible refine W.skip ?_ | with_reducible refine W.exit ?_ | with_reducible refine W.ret ?_ | with_reducible refine W.ifc ?_ | (apply wC_P (refValid_ok l hl); (focus (simp -dsimp (disch := first | omega | (simp only [go_sem]; omega)) only [go_sem, seval, Nat.reduceEqDiff, Nat.reduceLeDiff, hv] <;> rfl)); rintro _ rfl; try simp -dsimp (disch := first | omega | (simp only [go_sem]; omega)) only [go_sem, seval, Nat.reduceEqDiff, Nat.reduceLeDiff, hv]) | (apply wC_P (refObject_ok l id (by omega)); (focus (simp -dsimp (disch := first | omega | (simp only [go_sem]; omega)) only [go_sem, seval, Nat.reduceEqDiff, Nat.reduceLeDiff, hfk] <;> rfl)); rintro _ rfl; try simp -dsimp (disch := first | omega | (simp only [go_sem]; omega)) only [go_sem, seval, Nat.reduceEqDiff, Nat.reduceLeDiff, hfk]) | ((first | with_reducible refine wG_decE (fun _ hG => ?_) (fun _ hG => ?_) | with_reducible refine wG_decFE (fun _ hG => ?_) (fun _ hG => ?_)) <;> (try simp -dsimp only [hG, decide_true, decide_false, not_true_eq_false, not_false_eq_true]) <;> clear hG)) <;> (try simp -dsimp (disch := first | omega | (simp only [go_sem]; omega)) only [go_sem, seval, Nat.reduceEqDiff, Nat.reduceLeDiff, hv, hfk])) | simp -dsimp (disch := first | omega | (simp only [go_sem]; omega)) only [go_sem, seval, Nat.reduceEqDiff, Nat.reduceLeDiff, hv, hfk]))
     exact Fin.n rfl rfl
 · have hR : dropR l id = (⟨0, [], []⟩, [], 1) := by
    unfold dropR; rw [if_neg hv]
   rw [hR]
   simp -dsimp (disch := first | omega | (simp only [go_sem]; omega)) only [go_sem, seval, Nat.reduceEqDiff, Nat.reduceLeDiff]
   (repeat' (first | with_reducible refine W.seq ?_ | with_reducible refine W.block ?_ | ((first | with_reducible refine W.reg ?_ | with_reducible refine W.skip ?_ | with_reducible refine W.exit ?_ | with_reducible refine W.ret ?_ | with_reducible refine W.ifc ?_ | (apply wC_P (refValid_ok l hl); (focus (simp -dsimp (disch := first | omega | (simp only [go_sem]; omega)) only [go_sem, seval, Nat.reduceEqDiff, Nat.reduceLeDiff, hv] <;> rfl)); rintro _ rfl; try simp -dsimp (disch := first | omega | (simp only [go_sem]; omega)) only [go_sem, seval, Nat.reduceEqDiff, Nat.reduceLeDiff, hv]) | ((first | with_reducible refine wG_decE (fun _ hG => ?_) (fun _ hG => ?_) | with_reducible refine wG_decFE (fun _ hG => ?_) (fun _ hG => ?_)) <;> (try simp -dsimp only [hG, decide_true, decide_false, not_true_eq_false, not_false_eq_true]) <;> clear hG)) <;> (try simp -dsimp (disch := first | omega | (simp only [go_sem]; omega)) only [go_sem, seval, Nat.reduceEqDiff, Nat.reduceLeDiff, hv])) | simp -dsimp (disch := first | omega | (simp only [go_sem]; omega)) only [go_sem, seval, Nat.reduceEqDiff, Nat.reduceLeDiff, hv]))
   exact Fin.n rfl rfl
open Classical in
theorem refMove_ok (l : Lt) (id : Int) (cls : Str) (hl : smallL l) : CallP Try.prog f_quietusref37_Move [eL l, .int .i64 id, .str cls] (· = .d (eCh (moveR l id cls).1 (moveR l id cls).2.1 (moveR l id cls).2.2)) := by
 refine callP_of_W fol quietusref37_Move_cp ?_
 have hl1 := hl.1
 have hl2 := hl.2.1
 by_cases hv : validL l
 · have hpo := pairO hv.2.2.2
   have hpa := pairA hv.2.1
   by_cases hk : known id l.obs
   · obtain ⟨hp, hid, hf⟩ := place_known hpo hk
     have hfk := fst_known hpo hk
     have hpn : (((place id l.obs : Nat) : Int) < 0) = False := eq_false (by omega)
     have hch := hl.2.2 _ (List.getElem_mem hp)
     have hO := ((okO_get hp).1 (hv.2.2.2 _)).2.2.2.2.1
     by_cases hcl : cls.length > 65536
     · have hR : moveR l id cls = (⟨0, [], []⟩, [], 1) := by
        unfold moveR objOf; rw [if_pos hv, hf]; dsimp only; rw [if_pos hcl]
       rw [hR]
       simp -dsimp (disch := first | omega | (simp only [go_sem]; omega)) only [go_sem, seval, Nat.reduceEqDiff, Nat.reduceLeDiff]
       (repeat' (first | with_reducible refine W.seq ?_ | with_reducible refine W.block ?_ | ((first | with_reducible refine W.reg ?_ | with_reducible refine W.skip ?_ | with_reducible refine W.exit ?_ | with_reducible refine W.ret ?_ | with_reducible refine W.ifc ?_ | (apply wC_P (refValid_ok l hl); (focus (simp -dsimp (disch := first | omega | (simp only [go_sem]; omega)) only [go_sem, seval, Nat.reduceEqDiff, Nat.reduceLeDiff, hv] <;> rfl)); rintro _ rfl; try simp -dsimp (disch := first | omega | (simp only [go_sem]; omega)) only [go_sem, seval, Nat.reduceEqDiff, Nat.reduceLeDiff, hv]) | (apply wC_P (refObject_ok l id (by omega)); (focus (simp -dsimp (disch := first | omega | (simp only [go_sem]; omega)) only [go_sem, seval, Nat.reduceEqDiff, Nat.reduceLeDiff, hfk] <;> rfl)); rintro _ rfl; try simp -dsimp (disch := first | omega | (simp only [go_sem]; omega)) only [go_sem, seval, Nat.reduceEqDiff, Nat.reduceLeDiff, hfk]) | ((first | with_reducible refine wG_decE (fun _ hG => ?_) (fun _ hG => ?_) | with_reducible refine wG_decFE (fun _ hG => ?_) (fun _ hG => ?_)) <;> (try simp -dsimp only [hG, decide_true, decide_false, not_true_eq_false, not_false_eq_true]) <;> clear hG)) <;> (try simp -dsimp (disch := first | omega | (simp only [go_sem]; omega)) only [go_sem, seval, Nat.reduceEqDiff, Nat.reduceLeDiff, hv, hfk, hpn])) | simp -dsimp (disch := first | omega | (simp only [go_sem]; omega)) only [go_sem, seval, Nat.reduceEqDiff, Nat.reduceLeDiff, hv, hfk, hpn]))
       all_goals first | (exfalso; omega) | exact Fin.n rfl rfl
     · by_cases hce : l.obs[place id l.obs].cls = cls
       · have hR : moveR l id cls = (l, [], 0) := by
          unfold moveR objOf; rw [if_pos hv, hf]; dsimp only; rw [if_neg hcl, if_pos hce]
         rw [hR]
         simp -dsimp (disch := first | omega | (simp only [go_sem]; omega)) only [go_sem, seval, Nat.reduceEqDiff, Nat.reduceLeDiff]
         (repeat' (first | with_reducible refine W.seq ?_ | with_reducible refine W.block ?_ | ((first | with_reducible refine W.reg ?_ | with_reducible refine W.skip ?_ | with_reducible refine W.exit ?_ | with_reducible refine W.ret ?_ | with_reducible refine W.ifc ?_ | (apply wC_P (refValid_ok l hl); (focus (simp -dsimp (disch := first | omega | (simp only [go_sem]; omega)) only [go_sem, seval, Nat.reduceEqDiff, Nat.reduceLeDiff, hv] <;> rfl)); rintro _ rfl; try simp -dsimp (disch := first | omega | (simp only [go_sem]; omega)) only [go_sem, seval, Nat.reduceEqDiff, Nat.reduceLeDiff, hv]) | (apply wC_P (refObject_ok l id (by omega)); (focus (simp -dsimp (disch := first | omega | (simp only [go_sem]; omega)) only [go_sem, seval, Nat.reduceEqDiff, Nat.reduceLeDiff, hfk] <;> rfl)); rintro _ rfl; try simp -dsimp (disch := first | omega | (simp only [go_sem]; omega)) only [go_sem, seval, Nat.reduceEqDiff, Nat.reduceLeDiff, hfk]) | ((first | with_reducible refine wG_decE (fun _ hG => ?_) (fun _ hG => ?_) | with_reducible refine wG_decFE (fun _ hG => ?_) (fun _ hG => ?_)) <;> (try simp -dsimp only [hG, decide_true, decide_false, not_true_eq_false, not_false_eq_true]) <;> clear hG)) <;> (try simp -dsimp (disch := first | omega | (simp only [go_sem]; omega)) only [go_sem, seval, Nat.reduceEqDiff, Nat.reduceLeDiff, hv, hfk, hpn, hce])) | simp -dsimp (disch := first | omega | (simp only [go_sem]; omega)) only [go_sem, seval, Nat.reduceEqDiff, Nat.reduceLeDiff, hv, hfk, hpn, hce]))
         all_goals first | (exfalso; omega) | exact Fin.n rfl (congrArg AV.d (norm_eCh l [] 0))
       · simp -dsimp (disch := first | omega | (simp only [go_sem]; omega)) only [go_sem, seval, Nat.reduceEqDiff, Nat.reduceLeDiff]
         (repeat' (first | with_reducible refine W.seq ?_ | with_reducible refine W.block ?_ | ((first | with_reducible refine W.reg ?_ | with_reducible refine W.skip ?_ | with_reducible refine W.exit ?_ | with_reducible refine W.ret ?_ | with_reducible refine W.ifc ?_ | (apply wC_P (refValid_ok l hl); (focus (simp -dsimp (disch := first | omega | (simp only [go_sem]; omega)) only [go_sem, seval, Nat.reduceEqDiff, Nat.reduceLeDiff, hv] <;> rfl)); rintro _ rfl; try simp -dsimp (disch := first | omega | (simp only [go_sem]; omega)) only [go_sem, seval, Nat.reduceEqDiff, Nat.reduceLeDiff, hv]) | (apply wC_P (refObject_ok l id (by omega)); (focus (simp -dsimp (disch := first | omega | (simp only [go_sem]; omega)) only [go_sem, seval, Nat.reduceEqDiff, Nat.reduceLeDiff, hfk] <;> rfl)); rintro _ rfl; try simp -dsimp (disch := first | omega | (simp only [go_sem]; omega)) only [go_sem, seval, Nat.reduceEqDiff, Nat.reduceLeDiff, hfk]) | ((first | with_reducible refine wG_decE (fun _ hG => ?_) (fun _ hG => ?_) | with_reducible refine wG_decFE (fun _ hG => ?_) (fun _ hG => ?_)) <;> (try simp -dsimp only [hG, decide_true, decide_false, not_true_eq_false, not_false_eq_true]) <;> clear hG)) <;> (try simp -dsimp (disch := first | omega | (simp only [go_sem]; omega)) only [go_sem, seval, Nat.reduceEqDiff, Nat.reduceLeDiff, hv, hfk, hpn, hce])) | simp -dsimp (disch := first | omega | (simp only [go_sem]; omega)) only [go_sem, seval, Nat.reduceEqDiff, Nat.reduceLeDiff, hv, hfk, hpn, hce]))
         all_goals try (exfalso; omega)
         all_goals
          refine W.loop (fun m st => ∃ i out, i ≤ l.obs[place id l.obs].chunks.length ∧ m = l.obs[place id l.obs].chunks.length - i ∧ out = (textsOf l.cks (l.obs[place id l.obs].chunks.take i)).map D.str ∧ out.length = i ∧
           st = (E [(1, .d (.int .i64 id)), (2, .d (.str cls)), (3, .ptr 0 3 1 0), (6, .ptr 0 6 1 0), (8, .d (.int .i64 (place id l.obs : Nat))), (9, .own 1 out), (10, .d (.int .i64 i))],
            HB [(3, ⟨1, some [.int .i64 l.next, .list (l.cks.map eC), .list (l.obs.map eB)]⟩), (6, ⟨1, some [.int .i64 0, .nilS, .nilS, .nilS, .int .i64 0]⟩)], [], noGh))
           ⟨_, _, st_le (l' := [(1, .d (.int .i64 id)), (2, .d (.str cls)), (3, .ptr 0 3 1 0), (6, .ptr 0 6 1 0), (8, .d (.int .i64 (place id l.obs : Nat))), (9, .own 1 []), (10, .d (.int .i64 (0 : Nat)))]) (by (simp -dsimp (disch := first | omega | (simp only [go_sem]; omega)) only [go_sem, seval, Nat.reduceEqDiff, Nat.reduceLeDiff] <;> ((repeat' apply And.intro) <;> first | exact VLe.refl _ | (apply vle_int; omega) | (apply vle_int; simp; done) | exact VLe.own _ _ | exact VLe.nilown _ | exact VLe.norm _))), 0, [], by omega, rfl, rfl, rfl, rfl⟩ ?_
          rintro m st ⟨i, out, hi, rfl, hout, hol, rfl⟩
          (repeat (first | with_reducible refine W.seq ?_ | with_reducible refine W.block ?_ | ((first | with_reducible refine W.reg ?_ | with_reducible refine W.skip ?_ | with_reducible refine W.exit ?_ | with_reducible refine W.ret ?_ | with_reducible refine W.ifc ?_); simp -dsimp (disch := first | omega | (simp only [go_sem]; omega)) only [go_sem, seval, Nat.reduceEqDiff, Nat.reduceLeDiff])))
          refine wG_dec (fun h2 => ?_) (fun h2 => ?_)
          · have hi' : i < l.obs[place id l.obs].chunks.length := by omega
            obtain ⟨c, hc, hfc, hby⟩ := index_of hpa (hO _ (List.getElem_mem hi'))
            have hts := textsOf_succ (cks := l.cks) hi'
            rw [hby] at hts
            (repeat' (first | with_reducible refine W.seq ?_ | with_reducible refine W.block ?_ | ((first | with_reducible refine W.reg ?_ | with_reducible refine W.skip ?_ | with_reducible refine W.exit ?_ | with_reducible refine W.ret ?_ | with_reducible refine W.ifc ?_ | (apply wC_P (index_ok l l.obs[place id l.obs].chunks[i] (by omega)); (focus (simp -dsimp (disch := first | omega | (simp only [go_sem]; omega)) only [go_sem, seval, Nat.reduceEqDiff, Nat.reduceLeDiff, hfc] <;> rfl)); rintro _ rfl; try simp -dsimp (disch := first | omega | (simp only [go_sem]; omega)) only [go_sem, seval, Nat.reduceEqDiff, Nat.reduceLeDiff, hfc]) | ((first | with_reducible refine wG_decE (fun _ hG => ?_) (fun _ hG => ?_) | with_reducible refine wG_decFE (fun _ hG => ?_) (fun _ hG => ?_)) <;> (try simp -dsimp only [hG, decide_true, decide_false, not_true_eq_false, not_false_eq_true]) <;> clear hG)) <;> (try simp -dsimp (disch := first | omega | (simp only [go_sem]; omega)) only [go_sem, seval, Nat.reduceEqDiff, Nat.reduceLeDiff, hfc])) | simp -dsimp (disch := first | omega | (simp only [go_sem]; omega)) only [go_sem, seval, Nat.reduceEqDiff, Nat.reduceLeDiff, hfc]))
            refine ⟨_, _, ?_, st_le (by (simp -dsimp (disch := first | omega | (simp only [go_sem]; omega)) only [go_sem, seval, Nat.reduceEqDiff, Nat.reduceLeDiff] <;> ((repeat' apply And.intro) <;> first | exact VLe.refl _ | (apply vle_int; omega) | (apply vle_int; simp; done) | exact VLe.own _ _ | exact VLe.nilown _ | exact VLe.norm _))), i + 1, _, by omega, rfl, by rw [hts, hout, List.map_append]; rfl, by simp [hol], rfl⟩
            omega
          · obtain rfl : i = l.obs[place id l.obs].chunks.length := by omega
            rw [List.take_length] at hout
            subst hout
            have hpl : (textsOf l.cks l.obs[place id l.obs].chunks).length ≤ 70000 := by
             have h1 := (okO_get hp).1 (hv.2.2.2 _)
             have h2 := ids_le hv.2.1 (ids := l.obs[place id l.obs].chunks) fun i hi => by obtain ⟨c, hc, e, _⟩ := h1.2.2.2.2.1 i hi; exact ⟨c, hc, e⟩
             unfold textsOf; rw [List.length_map]; omega
            have hpre := rest_pre (cls := cls) hv hl hk hpl
            (repeat' (first | with_reducible refine W.seq ?_ | with_reducible refine W.block ?_ | ((first | with_reducible refine W.reg ?_ | with_reducible refine W.skip ?_ | with_reducible refine W.exit ?_ | with_reducible refine W.ret ?_ | with_reducible refine W.ifc ?_ | (apply wC_P (refWithout_ok l id hl); (focus (simp -dsimp (disch := first | omega | (simp only [go_sem]; omega)) only [go_sem, seval, Nat.reduceEqDiff, Nat.reduceLeDiff, eCh] <;> rfl)); rintro _ rfl; try simp -dsimp (disch := first | omega | (simp only [go_sem]; omega)) only [go_sem, seval, Nat.reduceEqDiff, Nat.reduceLeDiff, eCh]) | (apply wC_P (refAdd_ok (without l id).1 id cls (textsOf l.cks l.obs[place id l.obs].chunks) hpre); (focus (simp -dsimp (disch := first | omega | (simp only [go_sem]; omega)) only [go_sem, seval, Nat.reduceEqDiff, Nat.reduceLeDiff, eCh] <;> rfl)); rintro _ rfl; try simp -dsimp (disch := first | omega | (simp only [go_sem]; omega)) only [go_sem, seval, Nat.reduceEqDiff, Nat.reduceLeDiff, eCh]) | ((first | with_reducible refine wG_decE (fun _ hG => ?_) (fun _ hG => ?_) | with_reducible refine wG_decFE (fun _ hG => ?_) (fun _ hG => ?_)) <;> (try simp -dsimp only [hG, decide_true, decide_false, not_true_eq_false, not_false_eq_true]) <;> clear hG)) <;> (try simp -dsimp (disch := first | omega | (simp only [go_sem]; omega)) only [go_sem, seval, Nat.reduceEqDiff, Nat.reduceLeDiff])) | simp -dsimp (disch := first | omega | (simp only [go_sem]; omega)) only [go_sem, seval, Nat.reduceEqDiff, Nat.reduceLeDiff]))
            · have hR : moveR l id cls = (⟨0, [], []⟩, [], (addL (without l id).1 id cls (textsOf l.cks l.obs[place id l.obs].chunks)).2) := by
               unfold moveR objOf; rw [if_pos hv, hf]; dsimp only; rw [if_neg hcl, if_neg hce, if_pos (by assumption)]
              have h0 : (addL (without l id).1 id cls (textsOf l.cks l.obs[place id l.obs].chunks)).1 = ⟨0, [], []⟩ := by
               have hne : (addL (without l id).1 id cls (textsOf l.cks l.obs[place id l.obs].chunks)).2 ≠ 0 := by assumption
               unfold addL at hne ⊢
               dsimp only at hne ⊢
               split
               · rfl
               · rename_i hn; rw [if_neg hn] at hne; exact absurd rfl hne
              rw [hR]
              refine Fin.n rfl ?_
              rw [← h0]
              exact congrArg AV.d (norm_eCh (addL (without l id).1 id cls (textsOf l.cks l.obs[place id l.obs].chunks)).1 [] (addL (without l id).1 id cls (textsOf l.cks l.obs[place id l.obs].chunks)).2)
            · have he0 : (addL (without l id).1 id cls (textsOf l.cks l.obs[place id l.obs].chunks)).2 = 0 := Decidable.of_not_not (by assumption)
              have hR : moveR l id cls = ((addL (without l id).1 id cls (textsOf l.cks l.obs[place id l.obs].chunks)).1, (without l id).2, 0) := by
               unfold moveR objOf; rw [if_pos hv, hf]; dsimp only; rw [if_neg hcl, if_neg hce, if_neg (by rw [he0]; simp)]
              rw [hR]
              exact Fin.n rfl (congrArg AV.d (norm_eCh (addL (without l id).1 id cls (textsOf l.cks l.obs[place id l.obs].chunks)).1 (without l id).2 0))
   · have hfk := fst_unknown hk
     have hf := find_unknown hk
     have hR : moveR l id cls = (⟨0, [], []⟩, [], 8) := by
      unfold moveR objOf; rw [if_pos hv, hf]
     rw [hR]
     simp -dsimp (disch := first | omega | (simp only [go_sem]; omega)) only [go_sem, seval, Nat.reduceEqDiff, Nat.reduceLeDiff]
     (repeat' (first | with_reducible refine W.seq ?_ | with_reducible refine W.block ?_ | ((first | with_reducible refine W.reg ?_ | with_reducible refine W.skip ?_ | with_reducible refine W.exit ?_ | with_reducible refine W.ret ?_ | with_reducible refine W.ifc ?_ | (apply wC_P (refValid_ok l hl); (focus (simp -dsimp (disch := first | omega | (simp only [go_sem]; omega)) only [go_sem, seval, Nat.reduceEqDiff, Nat.reduceLeDiff, hv] <;> rfl)); rintro _ rfl; try simp -dsimp (disch := first | omega | (simp only [go_sem]; omega)) only [go_sem, seval, Nat.reduceEqDiff, Nat.reduceLeDiff, hv]) | (apply wC_P (refObject_ok l id (by omega)); (focus (simp -dsimp (disch := first | omega | (simp only [go_sem]; omega)) only [go_sem, seval, Nat.reduceEqDiff, Nat.reduceLeDiff, hfk] <;> rfl)); rintro _ rfl; try simp -dsimp (disch := first | omega | (simp only [go_sem]; omega)) only [go_sem, seval, Nat.reduceEqDiff, Nat.reduceLeDiff, hfk]) | ((first | with_reducible refine wG_decE (fun _ hG => ?_) (fun _ hG => ?_) | with_reducible refine wG_decFE (fun _ hG => ?_) (fun _ hG => ?_)) <;> (try simp -dsimp only [hG, decide_true, decide_false, not_true_eq_false, not_false_eq_true]) <;> clear hG)) <;> (try simp -dsimp (disch := first | omega | (simp only [go_sem]; omega)) only [go_sem, seval, Nat.reduceEqDiff, Nat.reduceLeDiff, hv, hfk])) | simp -dsimp (disch := first | omega | (simp only [go_sem]; omega)) only [go_sem, seval, Nat.reduceEqDiff, Nat.reduceLeDiff, hv, hfk]))
     exact Fin.n rfl rfl
 · have hR : moveR l id cls = (⟨0, [], []⟩, [], 1) := by
    unfold moveR; rw [if_neg hv]
   rw [hR]
   simp -dsimp (disch := first | omega | (simp only [go_sem]; omega)) only [go_sem, seval, Nat.reduceEqDiff, Nat.reduceLeDiff]
   (repeat' (first | with_reducible refine W.seq ?_ | with_reducible refine W.block ?_ | ((first | with_reducible refine W.reg ?_ | with_reducible refine W.skip ?_ | with_reducible refine W.exit ?_ | with_reducible refine W.ret ?_ | with_reducible refine W.ifc ?_ | (apply wC_P (refValid_ok l hl); (focus (simp -dsimp (disch := first | omega | (simp only [go_sem]; omega)) only [go_sem, seval, Nat.reduceEqDiff, Nat.reduceLeDiff, hv] <;> rfl)); rintro _ rfl; try simp -dsimp (disch := first | omega | (simp only [go_sem]; omega)) only [go_sem, seval, Nat.reduceEqDiff, Nat.reduceLeDiff, hv]) | ((first | with_reducible refine wG_decE (fun _ hG => ?_) (fun _ hG => ?_) | with_reducible refine wG_decFE (fun _ hG => ?_) (fun _ hG => ?_)) <;> (try simp -dsimp only [hG, decide_true, decide_false, not_true_eq_false, not_false_eq_true]) <;> clear hG)) <;> (try simp -dsimp (disch := first | omega | (simp only [go_sem]; omega)) only [go_sem, seval, Nat.reduceEqDiff, Nat.reduceLeDiff, hv])) | simp -dsimp (disch := first | omega | (simp only [go_sem]; omega)) only [go_sem, seval, Nat.reduceEqDiff, Nat.reduceLeDiff, hv]))
   exact Fin.n rfl rfl
end Go.Proofs.Ytbcnnomgfheaoaa
