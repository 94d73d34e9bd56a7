/-
 Layer 21 (disk), continued: Rot, Flip.
 Conditions: of each contract as it says.
-/
import Derived.Test.YtioojmlhmhgeeaaF22a
namespace Go.Proofs.Ytioojmlhmhgeeaa
open Go Go.E2 C22
set_option linter.unusedSimpArgs false
set_option maxHeartbeats 1000000
theorem Sep.slSet {sz n cap b : Nat} {es es' cs' : List D} {R : List As} {G : Gh} (h : Sep (SlA sz (.gs b 0 n cap) es :: R) G) (hr : Row sz n cap es' cs') : Sep (SlA sz (.gs b 0 n cap) es' :: R) (G.set b (some cs')) := by
 have h2 : Sep ((fun G => ∃ cs, CellA b cs G) :: R) G := h.imp fun G1 e => by
  cases e with
  | row b cap es cs hb hr => exact ⟨cs, hb⟩
 obtain ⟨cs, h2⟩ := h2.ex
 exact Sep.toSl h2.set hr
theorem cellsEq_bytes : ∀ (l l' : List UInt8), l.length = l'.length → cellsEq (kr l.length .i) (l.map eB) (l'.map eB) = some (decide (l = l'))
 | [], [], _ => rfl
 | a :: l, b :: l', h => by
   have ih := cellsEq_bytes l l' (by simpa using h)
   have e : kr (a :: l).length .i = .i :: kr l.length .i := by simp [kr, List.replicate_succ]
   have hab : ((a.toNat : Int) == (b.toNat : Int)) = decide (a = b) := by
    rw [Bool.eq_iff_iff]; simp only [beq_iff_eq, decide_eq_true_eq]
    exact ⟨fun h => UInt8.toNat_inj.1 (by omega), fun h => by rw [h]⟩
   simp only [e, List.map_cons, cellsEq, eB, cellEq, if_true, hab]
   rw [ih]
   simp
 | [], _ :: _, h => by simp at h
 | _ :: _, [], h => by simp at h
@[go_sem] theorem cellsEq_sec (s t : Sec) : cellsEq (kr 64 .i) (s.1.map eB) (t.1.map eB) = some (decide (s = t)) := by
  have := cellsEq_bytes s.1 t.1 (by rw [s.2, t.2])
  rw [s.2] at this
  rw [this]
  congr 1
  exact decide_eq_decide.2 ⟨fun h => Subtype.ext h, fun h => by rw [h]⟩
section
variable {p : Nat} {d : Dk} {R : List As} {G : Gh} {cb r cap : Nat} {m : List (Int × D)}
theorem DiskP.setC (h : DiskP p d R G cb r cap m) {d' : Dk} (hok : Okd d') (hst : d'.steps = d.steps) (haf : d'.after = d.after) (hde : d'.dead = d.dead) (hlen : d'.cs.length = d.cs.length) (hop : ∀ j, opAt d' j = opAt d j) {cs' : List D} (hr : Row 65 d.cs.length cap (d'.cs.map eC) cs') :
 DiskP p d' R (G.set cb (some cs')) cb r cap m := by
 refine ⟨hok, ⟨fun i => by rw [hop]; exact h.op.has i⟩, ?_⟩
 have e : OpA d' m = OpA d m := OpA.same fun q _ => hop q.1
 rw [hlen, hst, haf, hde, e]
 exact (Sep.slSet h.sep.swap hr).swap
end
theorem modify_set {α : Type} {l : List α} {k : Nat} (hk : k < l.length) (f : α → α) : l.modify k f = l.set k (f l[k]) := by
 apply List.ext_getElem?
 intro i
 rw [List.getElem?_modify, List.getElem?_set]
 by_cases h : k = i
 · subst h; simp [hk]
 · simp [h]
theorem opAt_keep {d d' : Dk} {k : Nat} {f : Cel → Cel} (h : d'.cs = d.cs.modify k f) (hf : ∀ c, (f c).op = c.op) (j : Int) : opAt d' j = opAt d j := by
 unfold opAt
 rw [h, List.getElem?_modify]
 cases d.cs[j.toNat]? with
 | none => rfl
 | some c => by_cases e : k = j.toNat <;> simp [e, hf]
attribute [go_sem] Nat.min_self List.take_append List.drop_append List.take_nil List.drop_nil List.take_succ_cons List.drop_succ_cons
theorem row_cel {cs : List Cel} {cap : Nat} {cells : List D} (hrow : Row 65 cs.length cap (cs.map eC) cells) {k : Nat} (hk : k < cs.length) (f : Cel → Cel) :
 Row 65 cs.length cap ((cs.modify k f).map eC) (cells.take (k * 65) ++ ((f cs[k]).s.1.map eB ++ [.bool (f cs[k]).bad]) ++ cells.drop (k * 65 + 65)) := by
 have := hrow.set (i := k) (by simpa using hk) (eC_size (f cs[k]))
 have e : over cells (eC (f cs[k])).cells (k * 65) = cells.take (k * 65) ++ ((f cs[k]).s.1.map eB ++ [.bool (f cs[k]).bad]) ++ cells.drop (k * 65 + 65) := by
  unfold over
  rw [eC_cells]
  have : ((f cs[k]).s.1.map eB ++ [D.bool (f cs[k]).bad]).length = 65 := by rw [List.length_append, sec_len]; rfl
  rw [this]
 rw [e] at this
 rw [modify_set hk, List.map_set]
 exact this
theorem Rot_ok (p : Nat) (d : Dk) (i : Int) : CallS Try.prog f_zz26 [.gp p 0, .int .i64 i] [DiskA p d] (fun r post => r = .d (.int .i64 (rot d i).2) ∧ post = [DiskA p (rot d i).1]) := by
 refine callS_of_W fol zz26_cp fun R G σ hs => ?_
 obtain ⟨cb, r, cap, m, hd⟩ := DiskP.open hs
 have hc := hd.cell
 obtain ⟨cells, hcb, hrow⟩ := hd.row
 by_cases hk : chk d i = 0
 · obtain ⟨hdead, h0, h1⟩ := chk_zero hk
   obtain ⟨k, rfl⟩ : ∃ k : Nat, i = k := ⟨i.toNat, by omega⟩
   have hkl : k < d.cs.length := by omega
   obtain ⟨hok, _⟩ := rot_ok hd.ok k
   have hw : rot d k = ({ d with cs := d.cs.modify k fun c => { c with s := z0, bad := true } }, 0) := by unfold rot; rw [if_neg (by rw [hk]; simp), Int.toNat_natCast]
   rw [hw] at hok ⊢
   have hfit := hrow.fits (i := k) (by simpa using hkl)
   have e65 : k * 65 + (64 + (0 + 1)) ≤ cells.length := by omega
   simp -dsimp (disch := first | omega | (simp only [go_sem]; omega)) only [go_sem, seval, Nat.reduceEqDiff, Nat.reduceLeDiff]
   (repeat' (first | (with_reducible first | refine W.seq ?_ | refine W.block ?_) | ((first | (with_reducible first | refine W.reg ?_ | refine W.skip ?_ | refine W.exit ?_ | refine W.ret ?_ | refine W.ifc ?_) | (apply wC_Q ((check_ok p d k).q hs); (focus (simp -dsimp (disch := first | omega | (simp only [go_sem]; omega)) only [go_sem, seval, Nat.reduceEqDiff, Nat.reduceLeDiff, hk] <;> rfl)); rintro _ rfl; try simp -dsimp (disch := first | omega | (simp only [go_sem]; omega)) only [go_sem, seval, Nat.reduceEqDiff, Nat.reduceLeDiff, hk]) | ((with_reducible first | refine wG_decE (fun _ hG => ?_) (fun _ hG => ?_) | refine wG_decFE (fun _ hG => ?_) (fun _ hG => ?_)) <;> (try simp -dsimp only [hG, decide_true, decide_false, not_true_eq_false, not_false_eq_true]) <;> clear hG)) <;> (try simp -dsimp (disch := first | omega | (simp only [go_sem]; omega)) only [go_sem, seval, Nat.reduceEqDiff, Nat.reduceLeDiff, hk, hc, hcb, Int.toNat_natCast, e65])) | simp -dsimp (disch := first | omega | (simp only [go_sem]; omega)) only [go_sem, seval, Nat.reduceEqDiff, Nat.reduceLeDiff, hk, hc, hcb, Int.toNat_natCast, e65]))
   refine Fin.eq rfl ⟨rfl, _, ⟨rfl, rfl⟩, (hd.setC hok rfl rfl rfl (by simp) (opAt_keep rfl fun c => rfl) ?_).close⟩
   exact row_cel hrow hkl fun c => { c with s := z0, bad := true }
 · have hw : rot d i = (d, chk d i) := by unfold rot; rw [if_pos hk]
   simp -dsimp (disch := first | omega | (simp only [go_sem]; omega)) only [go_sem, seval, Nat.reduceEqDiff, Nat.reduceLeDiff]
   (repeat' (first | (with_reducible first | refine W.seq ?_ | refine W.block ?_) | ((first | (with_reducible first | refine W.reg ?_ | refine W.skip ?_ | refine W.exit ?_ | refine W.ret ?_ | refine W.ifc ?_) | (apply wC_Q ((check_ok p d i).q hs); (focus (simp -dsimp (disch := first | omega | (simp only [go_sem]; omega)) only [go_sem, seval, Nat.reduceEqDiff, Nat.reduceLeDiff, hk] <;> rfl)); rintro _ rfl; try simp -dsimp (disch := first | omega | (simp only [go_sem]; omega)) only [go_sem, seval, Nat.reduceEqDiff, Nat.reduceLeDiff, hk]) | ((with_reducible first | refine wG_decE (fun _ hG => ?_) (fun _ hG => ?_) | refine wG_decFE (fun _ hG => ?_) (fun _ hG => ?_)) <;> (try simp -dsimp only [hG, decide_true, decide_false, not_true_eq_false, not_false_eq_true]) <;> clear hG)) <;> (try simp -dsimp (disch := first | omega | (simp only [go_sem]; omega)) only [go_sem, seval, Nat.reduceEqDiff, Nat.reduceLeDiff, hk])) | simp -dsimp (disch := first | omega | (simp only [go_sem]; omega)) only [go_sem, seval, Nat.reduceEqDiff, Nat.reduceLeDiff, hk]))
   exact Fin.eq rfl ⟨rfl, _, ⟨by rw [hw], by rw [hw]⟩, hs⟩
end Go.Proofs.Ytioojmlhmhgeeaa
/-
 Layer 21 (disk), continued: Sync.
 Conditions: of each contract as it says.
-/
namespace Go.Proofs.Ytioojmlhmhgeeaa
open Go Go.E2 C22
set_option linter.unusedSimpArgs false
set_option maxHeartbeats 1000000
structure DiskQ (p : Nat) (d : Dk) (R : List As) (G : Gh) (cb r cap : Nat) (m : List (Int × D)) (it : Nat) (sn : List Int) : Prop where
 ok : Okd d
 op : OpOk d m
 sep : Sep (CellA p [.gs cb 0 d.cs.length cap, .mref r, eI d.steps, eI d.after, .bool d.dead] :: SlA 65 (.gs cb 0 d.cs.length cap) (d.cs.map eC) :: RngA [.i] eI id r it m sn :: OpA d m :: R) G
section
variable {p : Nat} {d : Dk} {R : List As} {G : Gh} {cb r cap it : Nat} {m : List (Int × D)} {sn : List Int}
theorem DiskQ.done (h : DiskQ p d R G cb r cap m it sn) : DiskP p d R G cb r cap m :=
 ⟨h.ok, h.op, h.sep.cons fun _ hh => hh.cons fun _ hr => hr.rngEnd⟩
theorem DiskP.walk (h : DiskP p d R G cb r cap m) {X : MO} (hit : G.m it = none) (hr : RngL [.i] eI id (G.setM it (some X)) r it m []) : DiskQ p d R (G.setM it (some X)) cb r cap m it [] :=
 ⟨h.ok, h.op, (Sep.rngNew h.sep.f3 hit hr).b3⟩
theorem DiskQ.rng (h : DiskQ p d R G cb r cap m it sn) : RngL [.i] eI id G r it m sn := h.sep.f3.rngl
theorem DiskQ.turn (h : DiskQ p d R G cb r cap m it sn) {X : MO} {sn' : List Int} (hr : RngL [.i] eI id (G.setM it (some X)) r it m sn') : DiskQ p d R (G.setM it (some X)) cb r cap m it sn' :=
 ⟨h.ok, h.op, (Sep.rngSet (.inr rfl) h.sep.f3 hr).b3⟩
theorem OpA.row {i : Int} {v : D} (hm : mget m i = some v) (h : Sep (OpA d m :: R) G) : GV 64 G v ((opAt d i).map eS) := (OpA.out hm h).gv
theorem DiskQ.one (h : DiskQ p d R G cb r cap m it sn) {a : Int} {v : D} (hm : mget m a = some v) {d' : Dk} (hok : Okd d') (hst : d'.steps = d.steps) (haf : d'.after = d.after) (hde : d'.dead = d.dead) (hlen : d'.cs.length = d.cs.length)
 (hop : ∀ j, opAt d' j = if j = a then [] else opAt d j) {cs' : List D} (hr : Row 65 d.cs.length cap (d'.cs.map eC) cs') {M : MO} (hrg : RngL [.i] eI id ((G.set cb (some cs')).setM r (some M)) r it (mdel m a) sn) :
 DiskQ p d' R ((G.set cb (some cs')).setM r (some M)) cb r cap (mdel m a) it sn := by
 have hnd := h.rng.nodup
 refine ⟨hok, ⟨fun j => ?_⟩, ?_⟩
 · rw [mget_del hnd, hop]
   split
   · simp
   · exact h.op.has j
 · have e : OpA d' (mdel m a) = OpA d (mdel m a) := OpA.same fun q hq => by rw [hop, if_neg ((mem_mdel hnd).1 hq).2]
   have h1 : Sep (OpA d (mdel m a) :: CellA p [.gs cb 0 d.cs.length cap, .mref r, eI d.steps, eI d.after, .bool d.dead] :: SlA 65 (.gs cb 0 d.cs.length cap) (d.cs.map eC) :: RngA [.i] eI id r it m sn :: R) G := (OpA.out hm h.sep.f4).tail
   have h2 : Sep (SlA 65 (.gs cb 0 d.cs.length cap) (d.cs.map eC) :: OpA d (mdel m a) :: CellA p [.gs cb 0 d.cs.length cap, .mref r, eI d.steps, eI d.after, .bool d.dead] :: RngA [.i] eI id r it m sn :: R) G := h1.f3
   have h3 := Sep.slSet h2 hr
   have h4 := Sep.rngSet (.inl rfl) h3.f4 hrg
   rw [hlen, hst, haf, hde, e]
   exact h4.f4.cons fun _ => Sep.swap
end
theorem syC_idem (c : Cel) : syC (syC c) = syC c := by
 unfold syC
 cases h : c.op.getLast? with
 | none => simp [h]
 | some s => rfl
theorem sync_same {d : Dk} (h : ∀ i, opAt d i = []) : d.cs.map syC = d.cs := by
 apply List.ext_getElem
 · simp
 · intro i h1 h2
   rw [List.getElem_map]
   have := h i
   rw [opAt_get h2] at this
   unfold syC
   rw [this]; rfl
theorem Sync_ok (p : Nat) (d : Dk) (hn : d.steps ≤ 1000000000) : CallS Try.prog f_zz23 [.gp p 0] [DiskA p d] (fun r post => r = .d (.int .i64 (sy d).2) ∧ post = [DiskA p (sy d).1]) := by
 refine callS_of_W fol zz23_cp fun R G σ hs => ?_
 have hok0 : Okd d := by obtain ⟨_, _, _, _, h⟩ := DiskP.open hs; exact h.ok
 by_cases hdead : d.dead = true
 · have hk : chk d 0 = 12 := by unfold chk; rw [if_pos hdead]
   have hw : sy d = (d, 12) := by unfold sy; rw [if_pos hdead]
   simp -dsimp (disch := first | omega | (simp only [go_sem]; omega)) only [go_sem, seval, Nat.reduceEqDiff, Nat.reduceLeDiff]
   (repeat' (first | (with_reducible first | refine W.seq ?_ | refine W.block ?_) | ((first | (with_reducible first | refine W.reg ?_ | refine W.skip ?_ | refine W.exit ?_ | refine W.ret ?_ | refine W.ifc ?_) | (apply wC_Q ((check_ok p d 0).q hs); (focus (simp -dsimp (disch := first | omega | (simp only [go_sem]; omega)) only [go_sem, seval, Nat.reduceEqDiff, Nat.reduceLeDiff, hk] <;> rfl)); rintro _ rfl; try simp -dsimp (disch := first | omega | (simp only [go_sem]; omega)) only [go_sem, seval, Nat.reduceEqDiff, Nat.reduceLeDiff, hk]) | ((with_reducible first | refine wG_decE (fun _ hG => ?_) (fun _ hG => ?_) | refine wG_decFE (fun _ hG => ?_) (fun _ hG => ?_)) <;> (try simp -dsimp only [hG, decide_true, decide_false, not_true_eq_false, not_false_eq_true]) <;> clear hG)) <;> (try simp -dsimp (disch := first | omega | (simp only [go_sem]; omega)) only [go_sem, seval, Nat.reduceEqDiff, Nat.reduceLeDiff, hk])) | simp -dsimp (disch := first | omega | (simp only [go_sem]; omega)) only [go_sem, seval, Nat.reduceEqDiff, Nat.reduceLeDiff, hk]))
   exact Fin.eq rfl ⟨rfl, _, ⟨by rw [hw], by rw [hw]⟩, hs⟩
 · have hk : chk d 0 = 0 := by unfold chk; rw [if_neg hdead, if_neg (by have := hok0.pos; omega)]
   obtain ⟨hsok, _⟩ := sy_ok hok0 hn
   simp -dsimp (disch := first | omega | (simp only [go_sem]; omega)) only [go_sem, seval, Nat.reduceEqDiff, Nat.reduceLeDiff]
   (repeat' (first | (with_reducible first | refine W.seq ?_ | refine W.block ?_) | ((first | (with_reducible first | refine W.reg ?_ | refine W.skip ?_ | refine W.exit ?_ | refine W.ret ?_ | refine W.ifc ?_) | (apply wC_Q ((check_ok p d 0).q hs); (focus (simp -dsimp (disch := first | omega | (simp only [go_sem]; omega)) only [go_sem, seval, Nat.reduceEqDiff, Nat.reduceLeDiff, hk] <;> rfl)); rintro _ rfl; try simp -dsimp (disch := first | omega | (simp only [go_sem]; omega)) only [go_sem, seval, Nat.reduceEqDiff, Nat.reduceLeDiff, hk]) | ((with_reducible first | refine wG_decE (fun _ hG => ?_) (fun _ hG => ?_) | refine wG_decFE (fun _ hG => ?_) (fun _ hG => ?_)) <;> (try simp -dsimp only [hG, decide_true, decide_false, not_true_eq_false, not_false_eq_true]) <;> clear hG)) <;> (try simp -dsimp (disch := first | omega | (simp only [go_sem]; omega)) only [go_sem, seval, Nat.reduceEqDiff, Nat.reduceLeDiff, hk])) | simp -dsimp (disch := first | omega | (simp only [go_sem]; omega)) only [go_sem, seval, Nat.reduceEqDiff, Nat.reduceLeDiff, hk]))
   (refine wC_sq (step_ok p d hn) (hs) (by decide) ?_ ?_; (focus (simp -dsimp (disch := first | omega | (simp only [go_sem]; omega)) only [go_sem, seval, Nat.reduceEqDiff, Nat.reduceLeDiff] <;> rfl)))
   rintro _ _ G2 ⟨rfl, rfl⟩ hs2
   by_cases hst : (stp d).2 = 0
   · have hw : sy d = ({ (stp d).1 with cs := d.cs.map syC }, 0) := by unfold sy; rw [if_neg hdead, if_neg (by rw [hst]; simp)]
     have hcs : (stp d).1.cs = d.cs := by unfold stp; split <;> rfl
     rw [hw] at hsok ⊢
     obtain ⟨cb, r, cap, m, hd⟩ := DiskP.open hs2
     have hc := hd.cell
     simp -dsimp (disch := first | omega | (simp only [go_sem]; omega)) only [go_sem, seval, Nat.reduceEqDiff, Nat.reduceLeDiff, hst]
     (repeat' (first | (with_reducible first | refine W.seq ?_ | refine W.block ?_) | ((first | (with_reducible first | refine W.reg ?_ | refine W.skip ?_ | refine W.exit ?_ | refine W.ret ?_ | refine W.ifc ?_) | ((with_reducible first | refine wG_decE (fun _ hG => ?_) (fun _ hG => ?_) | refine wG_decFE (fun _ hG => ?_) (fun _ hG => ?_)) <;> (try simp -dsimp only [hG, decide_true, decide_false, not_true_eq_false, not_false_eq_true]) <;> clear hG)) <;> (try simp -dsimp (disch := first | omega | (simp only [go_sem]; omega)) only [go_sem, seval, Nat.reduceEqDiff, Nat.reduceLeDiff, hst, hc])) | simp -dsimp (disch := first | omega | (simp only [go_sem]; omega)) only [go_sem, seval, Nat.reduceEqDiff, Nat.reduceLeDiff, hst, hc]))
     refine wGn_rng hd.map fun it X hit hr => ?_
     have hq := hd.walk hit hr
     simp -dsimp (disch := first | omega | (simp only [go_sem]; omega)) only [go_sem, seval, Nat.reduceEqDiff, Nat.reduceLeDiff]
     (repeat (first | (with_reducible first | refine W.seq ?_ | refine W.block ?_) | ((with_reducible first | refine W.reg ?_ | refine W.skip ?_ | refine W.exit ?_ | refine W.ret ?_ | refine W.ifc ?_); simp -dsimp (disch := first | omega | (simp only [go_sem]; omega)) only [go_sem, seval, Nat.reduceEqDiff, Nat.reduceLeDiff])))
     refine W.loop (fun n st => ∃ (d' : Dk) (m' : List (Int × D)) (sn : List Int) (G : Gh), n = m'.length ∧ (∀ q ∈ m', q.1 ∉ sn) ∧ DiskQ p d' R G cb r cap m' it sn ∧ d'.steps = (stp d).1.steps ∧ d'.after = (stp d).1.after ∧ d'.dead = (stp d).1.dead ∧ d'.cs.map syC = d.cs.map syC ∧ d'.cs.length = d.cs.length ∧
      st = (E [(0, .d (.gp p 0)), (19, .d (.gp it 0))], HB [], σ, G))
      ⟨_, _, st_le (by (simp -dsimp (disch := first | omega | (simp only [go_sem]; omega)) only [go_sem, seval, Nat.reduceEqDiff, Nat.reduceLeDiff] <;> ((repeat' apply And.intro) <;> first | exact VLe.refl _ | (apply vle_int; omega) | (apply vle_int; simp; done) | exact VLe.own _ _ | exact VLe.nilown _ | exact VLe.norm _))), (stp d).1, m, [], _, rfl, fun _ _ => by simp, hq, rfl, rfl, rfl, by rw [hcs], by rw [hcs], rfl⟩ ?_
     rintro n st ⟨d', m', sn, G3, rfl, hsn, hq, e1, e2, e3, e4, e5, rfl⟩
     (repeat (first | (with_reducible first | refine W.seq ?_ | refine W.block ?_) | ((with_reducible first | refine W.reg ?_ | refine W.skip ?_ | refine W.exit ?_ | refine W.ret ?_ | refine W.ifc ?_); simp -dsimp (disch := first | omega | (simp only [go_sem]; omega)) only [go_sem, seval, Nat.reduceEqDiff, Nat.reduceLeDiff])))
     refine wGn_nxt hq.rng (fun hall => ?_) (fun a v X hav hns hr hent => ?_)
     · have hm0 : m' = [] := by
        cases m' with
        | nil => rfl
        | cons q m' => exact absurd (hall q List.mem_cons_self) (hsn q List.mem_cons_self)
       subst hm0
       have h0 : ∀ i, opAt d' i = [] := fun i => by
        apply Classical.byContradiction
        intro e
        have := (hq.op.has i).2 e
        simp [mget] at this
       have e6 : d' = { (stp d).1 with cs := d.cs.map syC } := by
        obtain ⟨a, b, c, e⟩ := d'
        simp only at e1 e2 e3 e4
        have e7 : a = d.cs.map syC := by rw [← e4]; exact (sync_same (d := ⟨a, b, c, e⟩) h0).symm
        subst e7 e1 e2 e3
        rfl
       subst e6
       simp -dsimp (disch := first | omega | (simp only [go_sem]; omega)) only [go_sem, seval, Nat.reduceEqDiff, Nat.reduceLeDiff]
       (repeat' (first | (with_reducible first | refine W.seq ?_ | refine W.block ?_) | ((first | (with_reducible first | refine W.reg ?_ | refine W.skip ?_ | refine W.exit ?_ | refine W.ret ?_ | refine W.ifc ?_) | ((with_reducible first | refine wG_decE (fun _ hG => ?_) (fun _ hG => ?_) | refine wG_decFE (fun _ hG => ?_) (fun _ hG => ?_)) <;> (try simp -dsimp only [hG, decide_true, decide_false, not_true_eq_false, not_false_eq_true]) <;> clear hG)) <;> (try simp -dsimp (disch := first | omega | (simp only [go_sem]; omega)) only [go_sem, seval, Nat.reduceEqDiff, Nat.reduceLeDiff])) | simp -dsimp (disch := first | omega | (simp only [go_sem]; omega)) only [go_sem, seval, Nat.reduceEqDiff, Nat.reduceLeDiff]))
       exact Fin.eq rfl ⟨rfl, _, ⟨rfl, rfl⟩, hq.done.close⟩
     · have hq2 := hq.turn hr
       have hg := mget_of_mem hq.rng.nodup hav
       have hne : opAt d' a ≠ [] := (hq.op.has a).1 (by rw [hg]; rfl)
       obtain ⟨k, rfl⟩ : ∃ k : Nat, a = k := ⟨a.toNat, by have := opAt_in hne; omega⟩
       have hkl : k < d'.cs.length := by have := opAt_in hne; omega
       obtain ⟨c, hcc⟩ : ∃ c, c = d'.cs[k] := ⟨_, rfl⟩
       have hv := OpA.row hg hq2.sep.f4
       have hop : opAt d' k = c.op := by rw [opAt_get hkl, hcc]
       rw [hop] at hv hne
       obtain ⟨b, cap', cs0, rfl, hb, hla⟩ := gv_last hv hne
       have hc3 := hq2.done.cell
       obtain ⟨cells, hcb, hrow⟩ := hq2.done.row
       have hfew := hq.ok.few c (by rw [hcc]; exact List.getElem_mem hkl)
       have hstt := hq.ok.st
       have hl0 : 0 < c.op.length := List.length_pos_iff.2 hne
       have e8 : ((c.op.length : Int) - 1).toNat = c.op.length - 1 := by omega
       have hfit := hrow.fits (i := k) (by simpa using hkl)
       have hsy : syC c = ⟨c.op.getLast hne, false, []⟩ := by unfold syC; rw [List.getLast?_eq_some_getLast hne]
       have hrow2 := row_cel hrow hkl syC
       rw [← hcc, hsy] at hrow2
       simp only [Gh.setM_c] at hc3 hb hcb
       have hc4 := (Sep.slSet hq2.sep.swap hrow2).swap.get
       simp only [Gh.set_c, Gh.setM_c] at hc4
       obtain ⟨M, hM, hrd⟩ := (hq2.rng.set (b := cb) (v := some (cells.take (k * 65) ++ ((c.op.getLast hne).1.map eB ++ [.bool false]) ++ cells.drop (k * 65 + 65)))).delete (k : Int)
       have hok' : Okd { d' with cs := d'.cs.modify k syC } := by
        refine ⟨by simpa using hq.ok.pos, by simpa using hq.ok.most, fun x hx => ?_, hq.ok.st, fun x hx => ?_, hq.ok.aft⟩
        · rcases mem_modify hx with hx | ⟨y, hy, rfl⟩
          · exact hq.ok.rot x hx
          · unfold syC; split
            · simp
            · exact hq.ok.rot y hy
        · rcases mem_modify hx with hx | ⟨y, hy, rfl⟩
          · exact hq.ok.few x hx
          · have := hq.ok.few y hy
            unfold syC; split
            · simpa using hq.ok.st.1
            · exact this
       simp -dsimp (disch := first | omega | (simp only [go_sem]; omega)) only [go_sem, seval, Nat.reduceEqDiff, Nat.reduceLeDiff]
       (repeat (first | (with_reducible first | refine W.seq ?_ | refine W.block ?_) | ((with_reducible first | refine W.reg ?_ | refine W.skip ?_ | refine W.exit ?_ | refine W.ret ?_ | refine W.ifc ?_); simp -dsimp (disch := first | omega | (simp only [go_sem]; omega)) only [go_sem, seval, Nat.reduceEqDiff, Nat.reduceLeDiff, hent, id_eq, hc3, hc4, hb, hla, e8, hcb, Int.toNat_natCast, hfit, hM])))
       have hq3 := hq2.one hg (d' := { d' with cs := d'.cs.modify k syC }) hok' rfl rfl rfl (by simp) (fun j => by
        rw [opAt_modify (d := d') (d' := { d' with cs := d'.cs.modify k syC }) (k := k) (f := syC) rfl hkl j, ← hcc, hsy]) hrow2 hrd
       refine ⟨_, _, ?_, st_le (by (simp -dsimp (disch := first | omega | (simp only [go_sem]; omega)) only [go_sem, seval, Nat.reduceEqDiff, Nat.reduceLeDiff] <;> ((repeat' apply And.intro) <;> first | exact VLe.refl _ | (apply vle_int; omega) | (apply vle_int; simp; done) | exact VLe.own _ _ | exact VLe.nilown _ | exact VLe.norm _))), { d' with cs := d'.cs.modify k syC }, mdel m' k, sn ++ [(k : Int)], _, rfl, fun q hq' => ?_, hq3, e1, e2, e3, ?_, by simpa using e5, rfl⟩
       · rw [mdel_len, hg]; simp; have := List.length_pos_of_mem hav; omega
       · obtain ⟨q1, q2⟩ := (mem_mdel hq.rng.nodup).1 hq'
         simp only [List.mem_append, List.mem_singleton, not_or]
         exact ⟨hsn q q1, q2⟩
       · rw [← e4]; exact modify_map syC_idem
   · have hw : sy d = stp d := by unfold sy; rw [if_neg hdead, if_pos hst]
     rw [hw]
     simp -dsimp (disch := first | omega | (simp only [go_sem]; omega)) only [go_sem, seval, Nat.reduceEqDiff, Nat.reduceLeDiff, hst]
     (repeat' (first | (with_reducible first | refine W.seq ?_ | refine W.block ?_) | ((first | (with_reducible first | refine W.reg ?_ | refine W.skip ?_ | refine W.exit ?_ | refine W.ret ?_ | refine W.ifc ?_) | ((with_reducible first | refine wG_decE (fun _ hG => ?_) (fun _ hG => ?_) | refine wG_decFE (fun _ hG => ?_) (fun _ hG => ?_)) <;> (try simp -dsimp only [hG, decide_true, decide_false, not_true_eq_false, not_false_eq_true]) <;> clear hG)) <;> (try simp -dsimp (disch := first | omega | (simp only [go_sem]; omega)) only [go_sem, seval, Nat.reduceEqDiff, Nat.reduceLeDiff, hst])) | simp -dsimp (disch := first | omega | (simp only [go_sem]; omega)) only [go_sem, seval, Nat.reduceEqDiff, Nat.reduceLeDiff, hst]))
     exact Fin.eq rfl ⟨rfl, _, ⟨rfl, rfl⟩, hs2⟩
end Go.Proofs.Ytioojmlhmhgeeaa
/-
 Layer 21 (disk), continued: what is found of a sector after a failure.
 Conditions: of each contract as it says.
-/
namespace Go.Proofs.Ytioojmlhmhgeeaa
open Go Go.E2 C22
set_option linter.unusedSimpArgs false
set_option maxHeartbeats 1000000
theorem rem_bounds (n : Nat) (x : Int) : -((n : Int) + 3) < x.tmod (n + 3) ∧ x.tmod (n + 3) < n + 3 := by
 have h := Int.tmod_lt_of_pos x (by omega : (0 : Int) < n + 3)
 have h2 := Int.lt_tmod_of_pos x (by omega : (0 : Int) < n + 3)
 omega
theorem rem_pos (n : Nat) (x : Int) : 0 ≤ remOf n x ∧ remOf n x < n + 3 := by
 obtain ⟨h1, h2⟩ := rem_bounds n x
 unfold remOf
 exact ⟨Int.tmod_nonneg _ (by omega), Int.tmod_lt_of_pos _ (by omega)⟩
theorem torn_same (s : Sec) : torn s s = s := Subtype.ext (List.take_append_drop 32 s.1)
theorem over_torn (b l : Sec) : over (l.1.map eB) (((b.1.map eB).drop 32).take 32) 32 = (torn b l).1.map eB := by
 have h1 : ((b.1.map eB).drop 32).take 32 = (b.1.map eB).drop 32 := List.take_of_length_le (by rw [List.length_drop, sec_len]; decide)
 rw [h1]
 unfold over torn
 have h2 : 32 + ((b.1.map eB).drop 32).length = 64 := by rw [List.length_drop, sec_len]
 have h3 : (l.1.map eB).drop 64 = [] := s_drop l 64 (by decide)
 rw [h2, h3, List.append_nil]
 simp only [List.map_append, List.map_take, List.map_drop]
theorem view_half (G : Gh) (g : Nat) (s : Sec) (h : G.c g = some (s.1.map eB)) (cap : Nat) : viewC G 1 (.gs g 32 32 cap) = some (32, ((s.1.map eB).drop 32).take 32) := by
 simp only [viewC, h, sec_len]
 simp
theorem found_ok (c : Cel) (x : Int) (hne : c.op ≠ []) (hl : c.op.length ≤ 2000000000) : CallP Try.prog f_zz30 [eC c, .list (c.op.map eS), .int .i64 x] (· = .d (eC (kept c x))) := by
 refine CallP.of_deep (callT_of_W fol zz30_cp ?_)
 have hl0 : 0 < c.op.length := List.length_pos_iff.2 hne
 obtain ⟨b1, b2⟩ := rem_bounds c.op.length x
 obtain ⟨b3, b4⟩ := rem_pos c.op.length x
 have hr : ((x.tmod (c.op.length + 3) + c.op.length) + 3).tmod (c.op.length + 3) = remOf c.op.length x := rfl
 simp -dsimp (disch := first | omega | (simp only [go_sem]; omega)) only [go_sem, seval, Nat.reduceEqDiff, Nat.reduceLeDiff]
 (repeat' (first | (with_reducible first | refine W.seq ?_ | refine W.block ?_) | ((first | (with_reducible first | refine W.reg ?_ | refine W.skip ?_ | refine W.exit ?_ | refine W.ret ?_ | refine W.ifc ?_) | ((with_reducible first | refine wG_decE (fun _ hG => ?_) (fun _ hG => ?_) | refine wG_decFE (fun _ hG => ?_) (fun _ hG => ?_)) <;> (try simp -dsimp only [hG, decide_true, decide_false, not_true_eq_false, not_false_eq_true]) <;> clear hG)) <;> (try simp -dsimp (disch := first | omega | (simp only [go_sem]; omega)) only [go_sem, seval, Nat.reduceEqDiff, Nat.reduceLeDiff, hr])) | simp -dsimp (disch := first | omega | (simp only [go_sem]; omega)) only [go_sem, seval, Nat.reduceEqDiff, Nat.reduceLeDiff, hr]))
 · rename_i h
   have hk : kept c x = ⟨c.s, c.bad, []⟩ := by unfold kept; rw [if_pos h]
   (apply Fin.eq; (focus (simp -dsimp (disch := first | omega | (simp only [go_sem]; omega)) only [go_sem, seval, Nat.reduceEqDiff, Nat.reduceLeDiff] <;> rfl)))
   exact ⟨rfl, _, .refl _, by rw [hk]; rfl⟩
 · rename_i h h'
   have e1 : (remOf c.op.length x - 1).toNat = (remOf c.op.length x).toNat - 1 := by omega
   have hk : kept c x = ⟨c.op[(remOf c.op.length x - 1).toNat], false, []⟩ := by
    unfold kept; rw [if_neg h, if_pos h', ← e1, List.getElem?_eq_getElem (by omega)]; rfl
   (apply Fin.eq; (focus (simp -dsimp (disch := first | omega | (simp only [go_sem]; omega)) only [go_sem, seval, Nat.reduceEqDiff, Nat.reduceLeDiff] <;> rfl)))
   exact ⟨rfl, _, .refl _, by rw [hk]; rfl⟩
 · rename_i h h' h''
   have hk : kept c x = ⟨z0, true, []⟩ := by unfold kept; rw [if_neg h, if_neg h', if_pos h'']
   (apply Fin.eq; (focus (simp -dsimp (disch := first | omega | (simp only [go_sem]; omega)) only [go_sem, seval, Nat.reduceEqDiff, Nat.reduceLeDiff] <;> rfl)))
   exact ⟨rfl, _, .refl _, by rw [hk]; rfl⟩
 · rename_i h h' h''
   have hk : kept c x = ⟨torn (if 1 < c.op.length then (c.op[c.op.length - 2]?).getD z0 else c.s) ((c.op[c.op.length - 1]?).getD z0), false, []⟩ := by unfold kept; rw [if_neg h, if_neg h', if_neg h'']
   have hlast : (c.op[c.op.length - 1]?).getD z0 = c.op[((c.op.length : Int) - 1).toNat]'(by omega) := by
    have e : ((c.op.length : Int) - 1).toNat = c.op.length - 1 := by omega
    simp only [e]
    rw [List.getElem?_eq_getElem (by omega)]; rfl
   rw [hlast] at hk
   generalize hlv : c.op[((c.op.length : Int) - 1).toNat]'(by omega) = lv at hk
   refine wNew_mk fun g1 hg1 => ?_
   simp -dsimp (disch := first | omega | (simp only [go_sem]; omega)) only [go_sem, seval, Nat.reduceEqDiff, Nat.reduceLeDiff]
   (repeat (first | (with_reducible first | refine W.seq ?_ | refine W.block ?_) | ((with_reducible first | refine W.reg ?_ | refine W.skip ?_ | refine W.exit ?_ | refine W.ret ?_ | refine W.ifc ?_); simp -dsimp (disch := first | omega | (simp only [go_sem]; omega)) only [go_sem, seval, Nat.reduceEqDiff, Nat.reduceLeDiff])))
   refine wNew_mk fun g2 hg2 => ?_
   have hgg : g1 ≠ g2 := by rintro rfl; simp at hg2
   have hu1 : ∀ (f : Nat → Option (List D)) (v : Option (List D)), upd f g2 v g1 = f g1 := fun f v => upd_off hgg
   have hu2 : ∀ (f : Nat → Option (List D)) (v : Option (List D)), upd f g1 v g2 = f g2 := fun f v => upd_off hgg.symm
   by_cases h1 : 1 < c.op.length
   · have e1 : (1 < (c.op.length : Int)) = True := eq_true (by omega)
     have hb : (if 1 < c.op.length then (c.op[c.op.length - 2]?).getD z0 else c.s) = c.op[((c.op.length : Int) - 2).toNat]'(by omega) := by
      have e : ((c.op.length : Int) - 2).toNat = c.op.length - 2 := by omega
      simp only [e]
      rw [if_pos h1, List.getElem?_eq_getElem (by omega)]; rfl
     rw [hb] at hk
     generalize hbv : c.op[((c.op.length : Int) - 2).toNat]'(by omega) = bv at hk
     simp -dsimp (disch := first | omega | (simp only [go_sem]; omega)) only [go_sem, seval, Nat.reduceEqDiff, Nat.reduceLeDiff]
     (repeat' (first | (with_reducible first | refine W.seq ?_ | refine W.block ?_) | ((first | (with_reducible first | refine W.reg ?_ | refine W.skip ?_ | refine W.exit ?_ | refine W.ret ?_ | refine W.ifc ?_) | ((with_reducible first | refine wG_decE (fun _ hG => ?_) (fun _ hG => ?_) | refine wG_decFE (fun _ hG => ?_) (fun _ hG => ?_)) <;> (try simp -dsimp only [hG, decide_true, decide_false, not_true_eq_false, not_false_eq_true]) <;> clear hG)) <;> (try simp -dsimp (disch := first | omega | (simp only [go_sem]; omega)) only [go_sem, seval, Nat.reduceEqDiff, Nat.reduceLeDiff, hu1, hu2, e1, hlv, hbv])) | simp -dsimp (disch := first | omega | (simp only [go_sem]; omega)) only [go_sem, seval, Nat.reduceEqDiff, Nat.reduceLeDiff, hu1, hu2, e1, hlv, hbv]))
     · rename_i he
       (apply Fin.eq; (focus (simp -dsimp (disch := first | omega | (simp only [go_sem]; omega)) only [go_sem, seval, Nat.reduceEqDiff, Nat.reduceLeDiff] <;> rfl)))
       refine ⟨rfl, _, .refl _, ?_⟩
       rw [hk, he, torn_same]; rfl
     · refine wCp_mk (m := 32) (cs := lv.1.map eB) (by simp only [Gh.set_c, hu1, hu2, upd_at]) (view_half _ _ bv (by simp only [Gh.set_c, hu1, hu2, upd_at]) _) (by rw [sec_len]; decide) ?_
       simp only [Nat.min_self, Nat.mul_one, List.take_take, over_torn]
       simp -dsimp (disch := first | omega | (simp only [go_sem]; omega)) only [go_sem, seval, Nat.reduceEqDiff, Nat.reduceLeDiff]
       (repeat' (first | (with_reducible first | refine W.seq ?_ | refine W.block ?_) | ((first | (with_reducible first | refine W.reg ?_ | refine W.skip ?_ | refine W.exit ?_ | refine W.ret ?_ | refine W.ifc ?_) | ((with_reducible first | refine wG_decE (fun _ hG => ?_) (fun _ hG => ?_) | refine wG_decFE (fun _ hG => ?_) (fun _ hG => ?_)) <;> (try simp -dsimp only [hG, decide_true, decide_false, not_true_eq_false, not_false_eq_true]) <;> clear hG)) <;> (try simp -dsimp (disch := first | omega | (simp only [go_sem]; omega)) only [go_sem, seval, Nat.reduceEqDiff, Nat.reduceLeDiff, hu1, hu2])) | simp -dsimp (disch := first | omega | (simp only [go_sem]; omega)) only [go_sem, seval, Nat.reduceEqDiff, Nat.reduceLeDiff, hu1, hu2]))
       (apply Fin.eq; (focus (simp -dsimp (disch := first | omega | (simp only [go_sem]; omega)) only [go_sem, seval, Nat.reduceEqDiff, Nat.reduceLeDiff] <;> rfl)))
       exact ⟨rfl, _, .refl _, by rw [hk]; rfl⟩
   · have e1 : (1 < (c.op.length : Int)) = False := eq_false (by omega)
     rw [if_neg h1] at hk
     simp -dsimp (disch := first | omega | (simp only [go_sem]; omega)) only [go_sem, seval, Nat.reduceEqDiff, Nat.reduceLeDiff]
     (repeat' (first | (with_reducible first | refine W.seq ?_ | refine W.block ?_) | ((first | (with_reducible first | refine W.reg ?_ | refine W.skip ?_ | refine W.exit ?_ | refine W.ret ?_ | refine W.ifc ?_) | ((with_reducible first | refine wG_decE (fun _ hG => ?_) (fun _ hG => ?_) | refine wG_decFE (fun _ hG => ?_) (fun _ hG => ?_)) <;> (try simp -dsimp only [hG, decide_true, decide_false, not_true_eq_false, not_false_eq_true]) <;> clear hG)) <;> (try simp -dsimp (disch := first | omega | (simp only [go_sem]; omega)) only [go_sem, seval, Nat.reduceEqDiff, Nat.reduceLeDiff, hu1, hu2, e1, hlv])) | simp -dsimp (disch := first | omega | (simp only [go_sem]; omega)) only [go_sem, seval, Nat.reduceEqDiff, Nat.reduceLeDiff, hu1, hu2, e1, hlv]))
     · rename_i he
       (apply Fin.eq; (focus (simp -dsimp (disch := first | omega | (simp only [go_sem]; omega)) only [go_sem, seval, Nat.reduceEqDiff, Nat.reduceLeDiff] <;> rfl)))
       refine ⟨rfl, _, .refl _, ?_⟩
       rw [hk, he, torn_same]; rfl
     · refine wCp_mk (m := 32) (cs := lv.1.map eB) (by simp only [Gh.set_c, hu1, hu2, upd_at]) (view_half _ _ c.s (by simp only [Gh.set_c, hu1, hu2, upd_at]) _) (by rw [sec_len]; decide) ?_
       simp only [Nat.min_self, Nat.mul_one, List.take_take, over_torn]
       simp -dsimp (disch := first | omega | (simp only [go_sem]; omega)) only [go_sem, seval, Nat.reduceEqDiff, Nat.reduceLeDiff]
       (repeat' (first | (with_reducible first | refine W.seq ?_ | refine W.block ?_) | ((first | (with_reducible first | refine W.reg ?_ | refine W.skip ?_ | refine W.exit ?_ | refine W.ret ?_ | refine W.ifc ?_) | ((with_reducible first | refine wG_decE (fun _ hG => ?_) (fun _ hG => ?_) | refine wG_decFE (fun _ hG => ?_) (fun _ hG => ?_)) <;> (try simp -dsimp only [hG, decide_true, decide_false, not_true_eq_false, not_false_eq_true]) <;> clear hG)) <;> (try simp -dsimp (disch := first | omega | (simp only [go_sem]; omega)) only [go_sem, seval, Nat.reduceEqDiff, Nat.reduceLeDiff, hu1, hu2])) | simp -dsimp (disch := first | omega | (simp only [go_sem]; omega)) only [go_sem, seval, Nat.reduceEqDiff, Nat.reduceLeDiff, hu1, hu2]))
       (apply Fin.eq; (focus (simp -dsimp (disch := first | omega | (simp only [go_sem]; omega)) only [go_sem, seval, Nat.reduceEqDiff, Nat.reduceLeDiff] <;> rfl)))
       exact ⟨rfl, _, .refl _, by rw [hk]; rfl⟩
end Go.Proofs.Ytioojmlhmhgeeaa
