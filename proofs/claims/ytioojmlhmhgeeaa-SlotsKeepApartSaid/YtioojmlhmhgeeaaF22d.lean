/-
 Layer 21 (disk), continued: Sync.
 Conditions: of each contract as it says.
-/
import Derived.Test.YtioojmlhmhgeeaaF22c
namespace Go.Proofs.Ytioojmlhmhgeeaa
open Go Go.E2 C22
set_option linter.unusedSimpArgs false
set_option maxHeartbeats 1000000
/-- A disk whose open writes are being walked over. -/
structure DiskQ (p : Nat) (d : Dk) (R : List As) (G : Gh) (cb r cap : Nat) (m : List (Int × D)) (it : Nat) (sn : List Int) : Prop where
 ok : Okd d
 op : OpOk d m
 sep : Sep (CellA p [.gs cb 0 d.cs.length cap, .mref r, eI d.steps, eI d.after, .bool d.dead] :: SlA 65 (.gs cb 0 d.cs.length cap) (d.cs.map eC) :: RngA [.i] eI id r it m sn :: OpA d m :: R) G
section
variable {p : Nat} {d : Dk} {R : List As} {G : Gh} {cb r cap it : Nat} {m : List (Int × D)} {sn : List Int}
theorem DiskQ.done (h : DiskQ p d R G cb r cap m it sn) : DiskP p d R G cb r cap m :=
 ⟨h.ok, h.op, h.sep.cons fun _ hh => hh.cons fun _ hr => hr.rngEnd⟩
theorem DiskP.walk (h : DiskP p d R G cb r cap m) {X : MO} (hit : G.m it = none) (hr : RngL [.i] eI id (G.setM it (some X)) r it m []) : DiskQ p d R (G.setM it (some X)) cb r cap m it [] :=
 ⟨h.ok, h.op, (Sep.rngNew h.sep.f3 hit hr).b3⟩
theorem DiskQ.rng (h : DiskQ p d R G cb r cap m it sn) : RngL [.i] eI id G r it m sn := h.sep.f3.rngl
theorem DiskQ.turn (h : DiskQ p d R G cb r cap m it sn) {X : MO} {sn' : List Int} (hr : RngL [.i] eI id (G.setM it (some X)) r it m sn') : DiskQ p d R (G.setM it (some X)) cb r cap m it sn' :=
 ⟨h.ok, h.op, (Sep.rngSet (.inr rfl) h.sep.f3 hr).b3⟩
theorem OpA.row {i : Int} {v : D} (hm : mget m i = some v) (h : Sep (OpA d m :: R) G) : GV 64 G v ((opAt d i).map eS) := (OpA.out hm h).gv
theorem DiskQ.one (h : DiskQ p d R G cb r cap m it sn) {a : Int} {v : D} (hm : mget m a = some v) {d' : Dk} (hok : Okd d') (hst : d'.steps = d.steps) (haf : d'.after = d.after) (hde : d'.dead = d.dead) (hlen : d'.cs.length = d.cs.length)
 (hop : ∀ j, opAt d' j = if j = a then [] else opAt d j) {cs' : List D} (hr : Row 65 d.cs.length cap (d'.cs.map eC) cs') {M : MO} (hrg : RngL [.i] eI id ((G.set cb (some cs')).setM r (some M)) r it (mdel m a) sn) :
 DiskQ p d' R ((G.set cb (some cs')).setM r (some M)) cb r cap (mdel m a) it sn := by
 have hnd := h.rng.nodup
 refine ⟨hok, ⟨fun j => ?_⟩, ?_⟩
 · rw [mget_del hnd, hop]
   split
   · simp
   · exact h.op.has j
 · have e : OpA d' (mdel m a) = OpA d (mdel m a) := OpA.same fun q hq => by rw [hop, if_neg ((mem_mdel hnd).1 hq).2]
   have h1 : Sep (OpA d (mdel m a) :: CellA p [.gs cb 0 d.cs.length cap, .mref r, eI d.steps, eI d.after, .bool d.dead] :: SlA 65 (.gs cb 0 d.cs.length cap) (d.cs.map eC) :: RngA [.i] eI id r it m sn :: R) G := (OpA.out hm h.sep.f4).tail
   have h2 : Sep (SlA 65 (.gs cb 0 d.cs.length cap) (d.cs.map eC) :: OpA d (mdel m a) :: CellA p [.gs cb 0 d.cs.length cap, .mref r, eI d.steps, eI d.after, .bool d.dead] :: RngA [.i] eI id r it m sn :: R) G := h1.f3
   have h3 := Sep.slSet h2 hr
   have h4 := Sep.rngSet (.inl rfl) h3.f4 hrg
   rw [hlen, hst, haf, hde, e]
   exact h4.f4.cons fun _ => Sep.swap
end
theorem syC_idem (c : Cel) : syC (syC c) = syC c := by
 unfold syC
 cases h : c.op.getLast? with
 | none => simp [h]
 | some s => rfl
theorem sync_same {d : Dk} (h : ∀ i, opAt d i = []) : d.cs.map syC = d.cs := by
 apply List.ext_getElem
 · simp
 · intro i h1 h2
   rw [List.getElem_map]
   have := h i
   rw [opAt_get h2] at this
   unfold syC
   rw [this]; rfl
theorem Sync_ok (p : Nat) (d : Dk) (hn : d.steps ≤ 1000000000) : CallS Try.prog f_disk_Disk_Sync [.gp p 0] [DiskA p d] (fun r post => r = .d (.int .i64 (sy d).2) ∧ post = [DiskA p (sy d).1]) := by
 refine callS_of_W fol disk_Disk_Sync_cp fun R G σ hs => ?_
 have hok0 : Okd d := by obtain ⟨_, _, _, _, h⟩ := DiskP.open hs; exact h.ok
 by_cases hdead : d.dead = true
 · have hk : chk d 0 = 12 := by unfold chk; rw [if_pos hdead]
   have hw : sy d = (d, 12) := by unfold sy; rw [if_pos hdead]
   simp -dsimp (disch := first | omega | (simp only [go_sem]; omega)) only [go_sem, seval, Nat.reduceEqDiff, Nat.reduceLeDiff]
   (repeat' (first | with_reducible refine W.seq ?_ | with_reducible refine W.block ?_ | ((first | with_reducible refine W.reg ?_ | with_reducible refine W.skip ?_ | with_reducible refine W.exit ?_ | with_reducible refine W.ret ?_ | with_reducible refine W.ifc ?_ | (apply wC_Q ((check_ok p d 0).q hs); (focus (simp -dsimp (disch := first | omega | (simp only [go_sem]; omega)) only [go_sem, seval, Nat.reduceEqDiff, Nat.reduceLeDiff, hk] <;> rfl)); rintro _ rfl; try simp -dsimp (disch := first | omega | (simp only [go_sem]; omega)) only [go_sem, seval, Nat.reduceEqDiff, Nat.reduceLeDiff, hk]) | ((first | with_reducible refine wG_decE (fun _ hG => ?_) (fun _ hG => ?_) | with_reducible refine wG_decFE (fun _ hG => ?_) (fun _ hG => ?_)) <;> (try simp -dsimp only [hG, decide_true, decide_false, not_true_eq_false, not_false_eq_true]) <;> clear hG)) <;> (try simp -dsimp (disch := first | omega | (simp only [go_sem]; omega)) only [go_sem, seval, Nat.reduceEqDiff, Nat.reduceLeDiff, hk])) | simp -dsimp (disch := first | omega | (simp only [go_sem]; omega)) only [go_sem, seval, Nat.reduceEqDiff, Nat.reduceLeDiff, hk]))
   exact Fin.eq rfl ⟨rfl, _, ⟨by rw [hw], by rw [hw]⟩, hs⟩
 · have hk : chk d 0 = 0 := by unfold chk; rw [if_neg hdead, if_neg (by have := hok0.pos; omega)]
   obtain ⟨hsok, _⟩ := sy_ok hok0 hn
   simp -dsimp (disch := first | omega | (simp only [go_sem]; omega)) only [go_sem, seval, Nat.reduceEqDiff, Nat.reduceLeDiff]
   (repeat' (first | with_reducible refine W.seq ?_ | with_reducible refine W.block ?_ | ((first | with_reducible refine W.reg ?_ | with_reducible refine W.skip ?_ | with_reducible refine W.exit ?_ | with_reducible refine W.ret ?_ | with_reducible refine W.ifc ?_ | (apply wC_Q ((check_ok p d 0).q hs); (focus (simp -dsimp (disch := first | omega | (simp only [go_sem]; omega)) only [go_sem, seval, Nat.reduceEqDiff, Nat.reduceLeDiff, hk] <;> rfl)); rintro _ rfl; try simp -dsimp (disch := first | omega | (simp only [go_sem]; omega)) only [go_sem, seval, Nat.reduceEqDiff, Nat.reduceLeDiff, hk]) | ((first | with_reducible refine wG_decE (fun _ hG => ?_) (fun _ hG => ?_) | with_reducible refine wG_decFE (fun _ hG => ?_) (fun _ hG => ?_)) <;> (try simp -dsimp only [hG, decide_true, decide_false, not_true_eq_false, not_false_eq_true]) <;> clear hG)) <;> (try simp -dsimp (disch := first | omega | (simp only [go_sem]; omega)) only [go_sem, seval, Nat.reduceEqDiff, Nat.reduceLeDiff, hk])) | simp -dsimp (disch := first | omega | (simp only [go_sem]; omega)) only [go_sem, seval, Nat.reduceEqDiff, Nat.reduceLeDiff, hk]))
   (refine wC_sq (step_ok p d hn) (hs) (by decide) ?_ ?_; (focus (simp -dsimp (disch := first | omega | (simp only [go_sem]; omega)) only [go_sem, seval, Nat.reduceEqDiff, Nat.reduceLeDiff] <;> rfl)))
   rintro _ _ G2 ⟨rfl, rfl⟩ hs2
   by_cases hst : (stp d).2 = 0
   · have hw : sy d = ({ (stp d).1 with cs := d.cs.map syC }, 0) := by unfold sy; rw [if_neg hdead, if_neg (by rw [hst]; simp)]
     have hcs : (stp d).1.cs = d.cs := by unfold stp; split <;> rfl
     rw [hw] at hsok ⊢
     obtain ⟨cb, r, cap, m, hd⟩ := DiskP.open hs2
     have hc := hd.cell
     simp -dsimp (disch := first | omega | (simp only [go_sem]; omega)) only [go_sem, seval, Nat.reduceEqDiff, Nat.reduceLeDiff, hst]
     (repeat' (first | with_reducible refine W.seq ?_ | with_reducible refine W.block ?_ | ((first | with_reducible refine W.reg ?_ | with_reducible refine W.skip ?_ | with_reducible refine W.exit ?_ | with_reducible refine W.ret ?_ | with_reducible refine W.ifc ?_ | ((first | with_reducible refine wG_decE (fun _ hG => ?_) (fun _ hG => ?_) | with_reducible refine wG_decFE (fun _ hG => ?_) (fun _ hG => ?_)) <;> (try simp -dsimp only [hG, decide_true, decide_false, not_true_eq_false, not_false_eq_true]) <;> clear hG)) <;> (try simp -dsimp (disch := first | omega | (simp only [go_sem]; omega)) only [go_sem, seval, Nat.reduceEqDiff, Nat.reduceLeDiff, hst, hc])) | simp -dsimp (disch := first | omega | (simp only [go_sem]; omega)) only [go_sem, seval, Nat.reduceEqDiff, Nat.reduceLeDiff, hst, hc]))
     refine wGn_rng hd.map fun it X hit hr => ?_
     have hq := hd.walk hit hr
     simp -dsimp (disch := first | omega | (simp only [go_sem]; omega)) only [go_sem, seval, Nat.reduceEqDiff, Nat.reduceLeDiff]
     (repeat (first | with_reducible refine W.seq ?_ | with_reducible refine W.block ?_ | ((first | with_reducible refine W.reg ?_ | with_reducible refine W.skip ?_ | with_reducible refine W.exit ?_ | with_reducible refine W.ret ?_ | with_reducible refine W.ifc ?_); simp -dsimp (disch := first | omega | (simp only [go_sem]; omega)) only [go_sem, seval, Nat.reduceEqDiff, Nat.reduceLeDiff])))
     refine W.loop (fun n st => ∃ (d' : Dk) (m' : List (Int × D)) (sn : List Int) (G : Gh), n = m'.length ∧ (∀ q ∈ m', q.1 ∉ sn) ∧ DiskQ p d' R G cb r cap m' it sn ∧ d'.steps = (stp d).1.steps ∧ d'.after = (stp d).1.after ∧ d'.dead = (stp d).1.dead ∧ d'.cs.map syC = d.cs.map syC ∧ d'.cs.length = d.cs.length ∧
      st = (E [(0, .d (.gp p 0)), (19, .d (.gp it 0))], HB [], σ, G))
      ⟨_, _, st_le (by (simp -dsimp (disch := first | omega | (simp only [go_sem]; omega)) only [go_sem, seval, Nat.reduceEqDiff, Nat.reduceLeDiff] <;> ((repeat' apply And.intro) <;> first | exact VLe.refl _ | (apply vle_int; omega) | (apply vle_int; simp; done) | exact VLe.own _ _ | exact VLe.nilown _ | exact VLe.norm _))), (stp d).1, m, [], _, rfl, fun _ _ => by simp, hq, rfl, rfl, rfl, by rw [hcs], by rw [hcs], rfl⟩ ?_
     rintro n st ⟨d', m', sn, G3, rfl, hsn, hq, e1, e2, e3, e4, e5, rfl⟩
     (repeat (first | with_reducible refine W.seq ?_ | with_reducible refine W.block ?_ | ((first | with_reducible refine W.reg ?_ | with_reducible refine W.skip ?_ | with_reducible refine W.exit ?_ | with_reducible refine W.ret ?_ | with_reducible refine W.ifc ?_); simp -dsimp (disch := first | omega | (simp only [go_sem]; omega)) only [go_sem, seval, Nat.reduceEqDiff, Nat.reduceLeDiff])))
     refine wGn_nxt hq.rng (fun hall => ?_) (fun a v X hav hns hr hent => ?_)
     · have hm0 : m' = [] := by
        cases m' with
        | nil => rfl
        | cons q m' => exact absurd (hall q List.mem_cons_self) (hsn q List.mem_cons_self)
       subst hm0
       have h0 : ∀ i, opAt d' i = [] := fun i => by
        apply Classical.byContradiction
        intro e
        have := (hq.op.has i).2 e
        simp [mget] at this
       have e6 : d' = { (stp d).1 with cs := d.cs.map syC } := by
        obtain ⟨a, b, c, e⟩ := d'
        simp only at e1 e2 e3 e4
        have e7 : a = d.cs.map syC := by rw [← e4]; exact (sync_same (d := ⟨a, b, c, e⟩) h0).symm
        subst e7 e1 e2 e3
        rfl
       subst e6
       simp -dsimp (disch := first | omega | (simp only [go_sem]; omega)) only [go_sem, seval, Nat.reduceEqDiff, Nat.reduceLeDiff]
       (repeat' (first | with_reducible refine W.seq ?_ | with_reducible refine W.block ?_ | ((first | with_reducible refine W.reg ?_ | with_reducible refine W.skip ?_ | with_reducible refine W.exit ?_ | with_reducible refine W.ret ?_ | with_reducible refine W.ifc ?_ | ((first | with_reducible refine wG_decE (fun _ hG => ?_) (fun _ hG => ?_) | with_reducible refine wG_decFE (fun _ hG => ?_) (fun _ hG => ?_)) <;> (try simp -dsimp only [hG, decide_true, decide_false, not_true_eq_false, not_false_eq_true]) <;> clear hG)) <;> (try simp -dsimp (disch := first | omega | (simp only [go_sem]; omega)) only [go_sem, seval, Nat.reduceEqDiff, Nat.reduceLeDiff])) | simp -dsimp (disch := first | omega | (simp only [go_sem]; omega)) only [go_sem, seval, Nat.reduceEqDiff, Nat.reduceLeDiff]))
       exact Fin.eq rfl ⟨rfl, _, ⟨rfl, rfl⟩, hq.done.close⟩
     · have hq2 := hq.turn hr
       have hg := mget_of_mem hq.rng.nodup hav
       have hne : opAt d' a ≠ [] := (hq.op.has a).1 (by rw [hg]; rfl)
       obtain ⟨k, rfl⟩ : ∃ k : Nat, a = k := ⟨a.toNat, by have := opAt_in hne; omega⟩
       have hkl : k < d'.cs.length := by have := opAt_in hne; omega
       obtain ⟨c, hcc⟩ : ∃ c, c = d'.cs[k] := ⟨_, rfl⟩
       have hv := OpA.row hg hq2.sep.f4
       have hop : opAt d' k = c.op := by rw [opAt_get hkl, hcc]
       rw [hop] at hv hne
       obtain ⟨b, cap', cs0, rfl, hb, hla⟩ := gv_last hv hne
       have hc3 := hq2.done.cell
       obtain ⟨cells, hcb, hrow⟩ := hq2.done.row
       have hfew := hq.ok.few c (by rw [hcc]; exact List.getElem_mem hkl)
       have hstt := hq.ok.st
       have hl0 : 0 < c.op.length := List.length_pos_iff.2 hne
       have e8 : ((c.op.length : Int) - 1).toNat = c.op.length - 1 := by omega
       have hfit := hrow.fits (i := k) (by simpa using hkl)
       have hsy : syC c = ⟨c.op.getLast hne, false, []⟩ := by unfold syC; rw [List.getLast?_eq_some_getLast hne]
       have hrow2 := row_cel hrow hkl syC
       rw [← hcc, hsy] at hrow2
       simp only [Gh.setM_c] at hc3 hb hcb
       have hc4 := (Sep.slSet hq2.sep.swap hrow2).swap.get
       simp only [Gh.set_c, Gh.setM_c] at hc4
       obtain ⟨M, hM, hrd⟩ := (hq2.rng.set (b := cb) (v := some (cells.take (k * 65) ++ ((c.op.getLast hne).1.map eB ++ [.bool false]) ++ cells.drop (k * 65 + 65)))).delete (k : Int)
       have hok' : Okd { d' with cs := d'.cs.modify k syC } := by
        refine ⟨by simpa using hq.ok.pos, by simpa using hq.ok.most, fun x hx => ?_, hq.ok.st, fun x hx => ?_, hq.ok.aft⟩
        · rcases mem_modify hx with hx | ⟨y, hy, rfl⟩
          · exact hq.ok.rot x hx
          · unfold syC; split
            · simp
            · exact hq.ok.rot y hy
        · rcases mem_modify hx with hx | ⟨y, hy, rfl⟩
          · exact hq.ok.few x hx
          · have := hq.ok.few y hy
            unfold syC; split
            · simpa using hq.ok.st.1
            · exact this
       simp -dsimp (disch := first | omega | (simp only [go_sem]; omega)) only [go_sem, seval, Nat.reduceEqDiff, Nat.reduceLeDiff]
       (repeat (first | with_reducible refine W.seq ?_ | with_reducible refine W.block ?_ | ((first | with_reducible refine W.reg ?_ | with_reducible refine W.skip ?_ | with_reducible refine W.exit ?_ | with_reducible refine W.ret ?_ | with_reducible refine W.ifc ?_); simp -dsimp (disch := first | omega | (simp only [go_sem]; omega)) only [go_sem, seval, Nat.reduceEqDiff, Nat.reduceLeDiff, hent, id_eq, hc3, hc4, hb, hla, e8, hcb, Int.toNat_natCast, hfit, hM])))
       have hq3 := hq2.one hg (d' := { d' with cs := d'.cs.modify k syC }) hok' rfl rfl rfl (by simp) (fun j => by
        rw [opAt_modify (d := d') (d' := { d' with cs := d'.cs.modify k syC }) (k := k) (f := syC) rfl hkl j, ← hcc, hsy]) hrow2 hrd
       refine ⟨_, _, ?_, st_le (by (simp -dsimp (disch := first | omega | (simp only [go_sem]; omega)) only [go_sem, seval, Nat.reduceEqDiff, Nat.reduceLeDiff] <;> ((repeat' apply And.intro) <;> first | exact VLe.refl _ | (apply vle_int; omega) | (apply vle_int; simp; done) | exact VLe.own _ _ | exact VLe.nilown _ | exact VLe.norm _))), { d' with cs := d'.cs.modify k syC }, mdel m' k, sn ++ [(k : Int)], _, rfl, fun q hq' => ?_, hq3, e1, e2, e3, ?_, by simpa using e5, rfl⟩
       · rw [mdel_len, hg]; simp; have := List.length_pos_of_mem hav; omega
       · obtain ⟨q1, q2⟩ := (mem_mdel hq.rng.nodup).1 hq'
         simp only [List.mem_append, List.mem_singleton, not_or]
         exact ⟨hsn q q1, q2⟩
       · rw [← e4]; exact modify_map syC_idem
   · have hw : sy d = stp d := by unfold sy; rw [if_neg hdead, if_pos hst]
     rw [hw]
     simp -dsimp (disch := first | omega | (simp only [go_sem]; omega)) only [go_sem, seval, Nat.reduceEqDiff, Nat.reduceLeDiff, hst]
     (repeat' (first | with_reducible refine W.seq ?_ | with_reducible refine W.block ?_ | ((first | with_reducible refine W.reg ?_ | with_reducible refine W.skip ?_ | with_reducible refine W.exit ?_ | with_reducible refine W.ret ?_ | with_reducible refine W.ifc ?_ | ((first | with_reducible refine wG_decE (fun _ hG => ?_) (fun _ hG => ?_) | with_reducible refine wG_decFE (fun _ hG => ?_) (fun _ hG => ?_)) <;> (try simp -dsimp only [hG, decide_true, decide_false, not_true_eq_false, not_false_eq_true]) <;> clear hG)) <;> (try simp -dsimp (disch := first | omega | (simp only [go_sem]; omega)) only [go_sem, seval, Nat.reduceEqDiff, Nat.reduceLeDiff, hst])) | simp -dsimp (disch := first | omega | (simp only [go_sem]; omega)) only [go_sem, seval, Nat.reduceEqDiff, Nat.reduceLeDiff, hst]))
     exact Fin.eq rfl ⟨rfl, _, ⟨rfl, rfl⟩, hs2⟩
end Go.Proofs.Ytioojmlhmhgeeaa
