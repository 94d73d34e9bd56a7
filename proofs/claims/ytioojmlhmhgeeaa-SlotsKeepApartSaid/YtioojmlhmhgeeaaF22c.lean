/-
 Layer 21 (disk), continued: Rot, Flip.
 Conditions: of each contract as it says.
-/
import Derived.Test.YtioojmlhmhgeeaaF22a
namespace Go.Proofs.Ytioojmlhmhgeeaa
open Go Go.E2 C22
set_option linter.unusedSimpArgs false
set_option maxHeartbeats 1000000
theorem Sep.slSet {sz n cap b : Nat} {es es' cs' : List D} {R : List As} {G : Gh} (h : Sep (SlA sz (.gs b 0 n cap) es :: R) G) (hr : Row sz n cap es' cs') : Sep (SlA sz (.gs b 0 n cap) es' :: R) (G.set b (some cs')) := by
 have h2 : Sep ((fun G => ∃ cs, CellA b cs G) :: R) G := h.imp fun G1 e => by
  cases e with
  | row b cap es cs hb hr => exact ⟨cs, hb⟩
 obtain ⟨cs, h2⟩ := h2.ex
 exact Sep.toSl h2.set hr
theorem cellsEq_bytes : ∀ (l l' : List UInt8), l.length = l'.length → cellsEq (kr l.length .i) (l.map eB) (l'.map eB) = some (decide (l = l'))
 | [], [], _ => rfl
 | a :: l, b :: l', h => by
   have ih := cellsEq_bytes l l' (by simpa using h)
   have e : kr (a :: l).length .i = .i :: kr l.length .i := by simp [kr, List.replicate_succ]
   have hab : ((a.toNat : Int) == (b.toNat : Int)) = decide (a = b) := by
    rw [Bool.eq_iff_iff]; simp only [beq_iff_eq, decide_eq_true_eq]
    exact ⟨fun h => UInt8.toNat_inj.1 (by omega), fun h => by rw [h]⟩
   simp only [e, List.map_cons, cellsEq, eB, cellEq, if_true, hab]
   rw [ih]
   simp
 | [], _ :: _, h => by simp at h
 | _ :: _, [], h => by simp at h
@[go_sem] theorem cellsEq_sec (s t : Sec) : cellsEq (kr 64 .i) (s.1.map eB) (t.1.map eB) = some (decide (s = t)) := by
  have := cellsEq_bytes s.1 t.1 (by rw [s.2, t.2])
  rw [s.2] at this
  rw [this]
  congr 1
  exact decide_eq_decide.2 ⟨fun h => Subtype.ext h, fun h => by rw [h]⟩
section
variable {p : Nat} {d : Dk} {R : List As} {G : Gh} {cb r cap : Nat} {m : List (Int × D)}
theorem DiskP.setC (h : DiskP p d R G cb r cap m) {d' : Dk} (hok : Okd d') (hst : d'.steps = d.steps) (haf : d'.after = d.after) (hde : d'.dead = d.dead) (hlen : d'.cs.length = d.cs.length) (hop : ∀ j, opAt d' j = opAt d j) {cs' : List D} (hr : Row 65 d.cs.length cap (d'.cs.map eC) cs') :
 DiskP p d' R (G.set cb (some cs')) cb r cap m := by
 refine ⟨hok, ⟨fun i => by rw [hop]; exact h.op.has i⟩, ?_⟩
 have e : OpA d' m = OpA d m := OpA.same fun q _ => hop q.1
 rw [hlen, hst, haf, hde, e]
 exact (Sep.slSet h.sep.swap hr).swap
end
theorem modify_set {α : Type} {l : List α} {k : Nat} (hk : k < l.length) (f : α → α) : l.modify k f = l.set k (f l[k]) := by
 apply List.ext_getElem?
 intro i
 rw [List.getElem?_modify, List.getElem?_set]
 by_cases h : k = i
 · subst h; simp [hk]
 · simp [h]
theorem opAt_keep {d d' : Dk} {k : Nat} {f : Cel → Cel} (h : d'.cs = d.cs.modify k f) (hf : ∀ c, (f c).op = c.op) (j : Int) : opAt d' j = opAt d j := by
 unfold opAt
 rw [h, List.getElem?_modify]
 cases d.cs[j.toNat]? with
 | none => rfl
 | some c => by_cases e : k = j.toNat <;> simp [e, hf]
attribute [go_sem] Nat.min_self List.take_append List.drop_append List.take_nil List.drop_nil List.take_succ_cons List.drop_succ_cons
theorem row_cel {cs : List Cel} {cap : Nat} {cells : List D} (hrow : Row 65 cs.length cap (cs.map eC) cells) {k : Nat} (hk : k < cs.length) (f : Cel → Cel) :
 Row 65 cs.length cap ((cs.modify k f).map eC) (cells.take (k * 65) ++ ((f cs[k]).s.1.map eB ++ [.bool (f cs[k]).bad]) ++ cells.drop (k * 65 + 65)) := by
 have := hrow.set (i := k) (by simpa using hk) (eC_size (f cs[k]))
 have e : over cells (eC (f cs[k])).cells (k * 65) = cells.take (k * 65) ++ ((f cs[k]).s.1.map eB ++ [.bool (f cs[k]).bad]) ++ cells.drop (k * 65 + 65) := by
  unfold over
  rw [eC_cells]
  have : ((f cs[k]).s.1.map eB ++ [D.bool (f cs[k]).bad]).length = 65 := by rw [List.length_append, sec_len]; rfl
  rw [this]
 rw [e] at this
 rw [modify_set hk, List.map_set]
 exact this
theorem Rot_ok (p : Nat) (d : Dk) (i : Int) : CallS Try.prog f_disk_Disk_Rot [.gp p 0, .int .i64 i] [DiskA p d] (fun r post => r = .d (.int .i64 (rot d i).2) ∧ post = [DiskA p (rot d i).1]) := by
 refine callS_of_W fol disk_Disk_Rot_cp fun R G σ hs => ?_
 obtain ⟨cb, r, cap, m, hd⟩ := DiskP.open hs
 have hc := hd.cell
 obtain ⟨cells, hcb, hrow⟩ := hd.row
 by_cases hk : chk d i = 0
 · obtain ⟨hdead, h0, h1⟩ := chk_zero hk
   obtain ⟨k, rfl⟩ : ∃ k : Nat, i = k := ⟨i.toNat, by omega⟩
   have hkl : k < d.cs.length := by omega
   obtain ⟨hok, _⟩ := rot_ok hd.ok k
   have hw : rot d k = ({ d with cs := d.cs.modify k fun c => { c with s := z0, bad := true } }, 0) := by unfold rot; rw [if_neg (by rw [hk]; simp), Int.toNat_natCast]
   rw [hw] at hok ⊢
   have hfit := hrow.fits (i := k) (by simpa using hkl)
   have e65 : k * 65 + (64 + (0 + 1)) ≤ cells.length := by omega
   simp -dsimp (disch := first | omega | (simp only [go_sem]; omega)) only [go_sem, seval, Nat.reduceEqDiff, Nat.reduceLeDiff]
   (repeat' (first | with_reducible refine W.seq ?_ | with_reducible refine W.block ?_ | ((first | with_reducible refine W.reg ?_ | with_reducible refine W.skip ?_ | with_reducible refine W.exit ?_ | with_reducible refine W.ret ?_ | with_reducible refine W.ifc ?_ | (apply wC_Q ((check_ok p d k).q hs); (focus (simp -dsimp (disch := first | omega | (simp only [go_sem]; omega)) only [go_sem, seval, Nat.reduceEqDiff, Nat.reduceLeDiff, hk] <;> rfl)); rintro _ rfl; try simp -dsimp (disch := first | omega | (simp only [go_sem]; omega)) only [go_sem, seval, Nat.reduceEqDiff, Nat.reduceLeDiff, hk]) | ((first | with_reducible refine wG_decE (fun _ hG => ?_) (fun _ hG => ?_) | with_reducible refine wG_decFE (fun _ hG => ?_) (fun _ hG => ?_)) <;> (try simp -dsimp only [hG, decide_true, decide_false, not_true_eq_false, not_false_eq_true]) <;> clear hG)) <;> (try simp -dsimp (disch := first | omega | (simp only [go_sem]; omega)) only [go_sem, seval, Nat.reduceEqDiff, Nat.reduceLeDiff, hk, hc, hcb, Int.toNat_natCast, e65])) | simp -dsimp (disch := first | omega | (simp only [go_sem]; omega)) only [go_sem, seval, Nat.reduceEqDiff, Nat.reduceLeDiff, hk, hc, hcb, Int.toNat_natCast, e65]))
   refine Fin.eq rfl ⟨rfl, _, ⟨rfl, rfl⟩, (hd.setC hok rfl rfl rfl (by simp) (opAt_keep rfl fun c => rfl) ?_).close⟩
   exact row_cel hrow hkl fun c => { c with s := z0, bad := true }
 · have hw : rot d i = (d, chk d i) := by unfold rot; rw [if_pos hk]
   simp -dsimp (disch := first | omega | (simp only [go_sem]; omega)) only [go_sem, seval, Nat.reduceEqDiff, Nat.reduceLeDiff]
   (repeat' (first | with_reducible refine W.seq ?_ | with_reducible refine W.block ?_ | ((first | with_reducible refine W.reg ?_ | with_reducible refine W.skip ?_ | with_reducible refine W.exit ?_ | with_reducible refine W.ret ?_ | with_reducible refine W.ifc ?_ | (apply wC_Q ((check_ok p d i).q hs); (focus (simp -dsimp (disch := first | omega | (simp only [go_sem]; omega)) only [go_sem, seval, Nat.reduceEqDiff, Nat.reduceLeDiff, hk] <;> rfl)); rintro _ rfl; try simp -dsimp (disch := first | omega | (simp only [go_sem]; omega)) only [go_sem, seval, Nat.reduceEqDiff, Nat.reduceLeDiff, hk]) | ((first | with_reducible refine wG_decE (fun _ hG => ?_) (fun _ hG => ?_) | with_reducible refine wG_decFE (fun _ hG => ?_) (fun _ hG => ?_)) <;> (try simp -dsimp only [hG, decide_true, decide_false, not_true_eq_false, not_false_eq_true]) <;> clear hG)) <;> (try simp -dsimp (disch := first | omega | (simp only [go_sem]; omega)) only [go_sem, seval, Nat.reduceEqDiff, Nat.reduceLeDiff, hk])) | simp -dsimp (disch := first | omega | (simp only [go_sem]; omega)) only [go_sem, seval, Nat.reduceEqDiff, Nat.reduceLeDiff, hk]))
   exact Fin.eq rfl ⟨rfl, _, ⟨by rw [hw], by rw [hw]⟩, hs⟩
end Go.Proofs.Ytioojmlhmhgeeaa
