/-
 Layer 21 (disk), continued: the sectors with open writes.
 Conditions: of each contract as it says.
-/
import Derived.Test.YtioojmlhmhgeeaaF22s
namespace Go.Proofs.Ytioojmlhmhgeeaa
open Go Go.E2 C22
set_option linter.unusedSimpArgs false
set_option maxHeartbeats 1000000
theorem sorted_keys {d : Dk} {m : List (Int × D)} (hop : OpOk d m) (hnd : (m.map (·.1)).Nodup) {l : List Int} (hp : l.Perm (m.map (·.1))) : sorted l = opened d := by
 have s1 : (sorted l).Pairwise (· ≤ ·) := by
  have := List.pairwise_mergeSort (le := fun x y : Int => decide (x ≤ y)) (by intro a b c; simp; omega) (by intro a b; simp; omega) l
  exact this.imp (by simp)
 have p1 : (sorted l).Perm l := List.mergeSort_perm _ _
 have s2 : (opened d).Pairwise (· < ·) := by
  unfold opened
  rw [List.pairwise_map]
  exact (List.pairwise_lt_range.filter _).imp (by omega)
 have n2 : (opened d).Nodup := s2.imp (by omega)
 have n1 : (sorted l).Nodup := ((p1.trans hp).nodup_iff).2 hnd
 have mem : ∀ i, i ∈ sorted l ↔ i ∈ opened d := by
  intro i
  rw [(p1.trans hp).mem_iff]
  have hk : i ∈ m.map (·.1) ↔ opAt d i ≠ [] := by
   rw [← hop.has i]
   cases hg : mget m i with
   | none => simp [mget_none.1 hg]
   | some v => simp [List.mem_map.2 ⟨_, mget_mem hg, rfl⟩]
  rw [hk]
  unfold opened
  simp only [List.mem_map, List.mem_filter, List.mem_range, decide_eq_true_eq]
  constructor
  · intro h
    have := opAt_in h
    exact ⟨i.toNat, ⟨by omega, by rw [show ((i.toNat : Nat) : Int) = i from by omega]; exact h⟩, by omega⟩
  · rintro ⟨k, ⟨_, h⟩, rfl⟩; exact h
 have pm : (sorted l).Perm (opened d) := (List.perm_ext_iff_of_nodup n1 n2).2 mem
 exact pm.eq_of_pairwise (le := (· ≤ ·)) (fun a b _ _ h1 h2 => by omega) s1 (s2.imp (by omega))
theorem nodup_sub_len : ∀ {l l' : List Int}, l.Nodup → l ⊆ l' → l.length ≤ l'.length
 | [], _, _, _ => by simp
 | a :: l, l', hn, hs => by
   rw [List.nodup_cons] at hn
   have ha : a ∈ l' := hs List.mem_cons_self
   have ih := nodup_sub_len (l' := l'.erase a) hn.2 fun x hx => (List.mem_erase_of_ne (fun (e : x = a) => hn.1 (by rw [← e]; exact hx))).2 (hs (List.mem_cons_of_mem _ hx))
   rw [List.length_erase_of_mem ha] at ih
   have := List.length_pos_of_mem ha
   simp only [List.length_cons]
   omega
theorem perm_of_all {l l' : List Int} (h1 : l.Nodup) (h2 : l'.Nodup) (h3 : ∀ i ∈ l, i ∈ l') (h4 : ∀ i ∈ l', i ∈ l) : l.Perm l' := (List.perm_ext_iff_of_nodup h1 h2).2 fun i => ⟨h3 i, h4 i⟩
theorem sectors_ok (p : Nat) (d : Dk) : CallS Try.prog f_disk_Disk_sectors [.gp p 0] [DiskA p d] (fun r post => ∃ x, r = .d x ∧ post = [SlA 1 x ((opened d).map eI), DiskA p d]) := by
 refine callS_of_W fol disk_Disk_sectors_cp fun R G σ hs => ?_
 obtain ⟨cb, r, cap, m, hd⟩ := DiskP.open hs
 have hc := hd.cell
 have hmost := hd.ok.most
 simp -dsimp (disch := first | omega | (simp only [go_sem]; omega)) only [go_sem, seval, Nat.reduceEqDiff, Nat.reduceLeDiff]
 (repeat (first | with_reducible refine W.seq ?_ | with_reducible refine W.block ?_ | ((first | with_reducible refine W.reg ?_ | with_reducible refine W.skip ?_ | with_reducible refine W.exit ?_ | with_reducible refine W.ret ?_ | with_reducible refine W.ifc ?_); simp -dsimp (disch := first | omega | (simp only [go_sem]; omega)) only [go_sem, seval, Nat.reduceEqDiff, Nat.reduceLeDiff, hc])))
 refine wGn_rng hd.map fun it X hit hr => ?_
 have hq := hd.walk hit hr
 simp -dsimp (disch := first | omega | (simp only [go_sem]; omega)) only [go_sem, seval, Nat.reduceEqDiff, Nat.reduceLeDiff]
 (repeat (first | with_reducible refine W.seq ?_ | with_reducible refine W.block ?_ | ((first | with_reducible refine W.reg ?_ | with_reducible refine W.skip ?_ | with_reducible refine W.exit ?_ | with_reducible refine W.ret ?_ | with_reducible refine W.ifc ?_); simp -dsimp (disch := first | omega | (simp only [go_sem]; omega)) only [go_sem, seval, Nat.reduceEqDiff, Nat.reduceLeDiff])))
 have hml : m.length ≤ 65536 := by
  have h1 : (m.map (·.1)).Nodup := hd.map.nodup
  have h2 : (m.map (·.1)) ⊆ (List.range d.cs.length).map fun (i : Nat) => (i : Int) := by
   intro i hi
   obtain ⟨q, hq, rfl⟩ := List.mem_map.1 hi
   have := (hd.op.has q.1).1 (by rw [mget_of_mem h1 (v := q.2) hq]; rfl)
   have := opAt_in this
   exact List.mem_map.2 ⟨q.1.toNat, List.mem_range.2 (by omega), by omega⟩
  have := nodup_sub_len h1 h2
  simp at this
  omega
 refine W.loop (fun n st => ∃ (sn : List Int) (x : D) (G : Gh), n = m.length - sn.length ∧ sn.length ≤ m.length ∧ sn.Nodup ∧ (∀ i ∈ sn, i ∈ m.map (·.1)) ∧ DiskQ p d (SlA 1 x (sn.map eI) :: R) G cb r cap m it sn ∧
  st = (E [(3, .d x), (9, .d (.gp it 0))], HB [], σ, G))
  ⟨_, _, st_le (by (simp -dsimp (disch := first | omega | (simp only [go_sem]; omega)) only [go_sem, seval, Nat.reduceEqDiff, Nat.reduceLeDiff] <;> ((repeat' apply And.intro) <;> first | exact VLe.refl _ | (apply vle_int; omega) | (apply vle_int; simp; done) | exact VLe.own _ _ | exact VLe.nilown _ | exact VLe.norm _))), [], .nilS, _, rfl, by simp, by simp, by simp, ?_, rfl⟩ ?_
 · exact ⟨hq.ok, hq.op, hq.sep.cons fun _ hh => hh.cons fun _ hh => hh.cons fun _ hh => hh.cons fun _ => Sep.slNil⟩
 rintro n st ⟨sn, x, G3, rfl, hsl, hsn, hsk, hq, rfl⟩
 (repeat (first | with_reducible refine W.seq ?_ | with_reducible refine W.block ?_ | ((first | with_reducible refine W.reg ?_ | with_reducible refine W.skip ?_ | with_reducible refine W.exit ?_ | with_reducible refine W.ret ?_ | with_reducible refine W.ifc ?_); simp -dsimp (disch := first | omega | (simp only [go_sem]; omega)) only [go_sem, seval, Nat.reduceEqDiff, Nat.reduceLeDiff])))
 have hv := (Sep.f5 hq.sep).gv
 refine wGn_nxt hq.rng (fun hall => ?_) (fun a v X hav hns hr hent => ?_)
 · simp -dsimp (disch := first | omega | (simp only [go_sem]; omega)) only [go_sem, seval, Nat.reduceEqDiff, Nat.reduceLeDiff]
   (repeat (first | with_reducible refine W.seq ?_ | with_reducible refine W.block ?_ | ((first | with_reducible refine W.reg ?_ | with_reducible refine W.skip ?_ | with_reducible refine W.exit ?_ | with_reducible refine W.ret ?_ | with_reducible refine W.ifc ?_); simp -dsimp (disch := first | omega | (simp only [go_sem]; omega)) only [go_sem, seval, Nat.reduceEqDiff, Nat.reduceLeDiff])))
   have hperm : sn.Perm (m.map (·.1)) := perm_of_all hsn hq.rng.nodup hsk fun i hi => by
    obtain ⟨q, hq', rfl⟩ := List.mem_map.1 hi
    exact hall q hq'
   have hso := sorted_keys hd.op hq.rng.nodup hperm
   have h5 : Sep ([SlA 1 x (sn.map eI)] ++ (DiskA p d :: R)) G3 := (hq.done.sep.f5).cons fun G h => (DiskP.close ⟨hq.ok, hq.op, h⟩)
   (refine wC_sq (Sort_ok x sn (by omega)) (h5) (by decide) ?_ ?_; (focus (simp -dsimp (disch := first | omega | (simp only [go_sem]; omega)) only [go_sem, seval, Nat.reduceEqDiff, Nat.reduceLeDiff] <;> rfl)))
   rintro _ _ G4 rfl hs4
   simp -dsimp (disch := first | omega | (simp only [go_sem]; omega)) only [go_sem, seval, Nat.reduceEqDiff, Nat.reduceLeDiff]
   (repeat' (first | with_reducible refine W.seq ?_ | with_reducible refine W.block ?_ | ((first | with_reducible refine W.reg ?_ | with_reducible refine W.skip ?_ | with_reducible refine W.exit ?_ | with_reducible refine W.ret ?_ | with_reducible refine W.ifc ?_ | ((first | with_reducible refine wG_decE (fun _ hG => ?_) (fun _ hG => ?_) | with_reducible refine wG_decFE (fun _ hG => ?_) (fun _ hG => ?_)) <;> (try simp -dsimp only [hG, decide_true, decide_false, not_true_eq_false, not_false_eq_true]) <;> clear hG)) <;> (try simp -dsimp (disch := first | omega | (simp only [go_sem]; omega)) only [go_sem, seval, Nat.reduceEqDiff, Nat.reduceLeDiff])) | simp -dsimp (disch := first | omega | (simp only [go_sem]; omega)) only [go_sem, seval, Nat.reduceEqDiff, Nat.reduceLeDiff]))
   rw [hso] at hs4
   exact Fin.eq rfl ⟨rfl, _, ⟨x, rfl, rfl⟩, hs4⟩
 · have hq2 := hq.turn hr
   have hv2 : GV 1 (G3.setM it (some X)) x (sn.map eI) := hv.of fun b c o n k _ e => e
   have hal : a ∈ m.map (·.1) := List.mem_map.2 ⟨_, hav, rfl⟩
   have hsn' : (sn ++ [a]).Nodup := by
    rw [List.nodup_append]
    exact ⟨hsn, by simp, fun x hx y hy => by rw [List.mem_singleton] at hy; subst hy; exact fun e => hns (e ▸ hx)⟩
   have hlen' := nodup_sub_len hsn' (l' := m.map (·.1)) (fun i hi => by
    rcases List.mem_append.1 hi with hi | hi
    · exact hsk i hi
    · rw [List.mem_singleton] at hi; subst hi; exact hal)
   rw [List.length_append, List.length_map] at hlen'
   simp only [List.length_cons, List.length_nil] at hlen'
   simp -dsimp (disch := first | omega | (simp only [go_sem]; omega)) only [go_sem, seval, Nat.reduceEqDiff, Nat.reduceLeDiff]
   (repeat (first | with_reducible refine W.seq ?_ | with_reducible refine W.block ?_ | ((first | with_reducible refine W.reg ?_ | with_reducible refine W.skip ?_ | with_reducible refine W.exit ?_ | with_reducible refine W.ret ?_ | with_reducible refine W.ifc ?_); simp -dsimp (disch := first | omega | (simp only [go_sem]; omega)) only [go_sem, seval, Nat.reduceEqDiff, Nat.reduceLeDiff, hent])))
   refine appV_GV2 (es2 := [eI a]) (m := 1) hv2 (viewC_list (es := [eI a]) rfl) rfl rfl rfl (by rw [List.length_map, mostBytes_eq]; omega) fun x' G4 hv3 hto => ?_
   simp -dsimp (disch := first | omega | (simp only [go_sem]; omega)) only [go_sem, seval, Nat.reduceEqDiff, Nat.reduceLeDiff]
   (repeat (first | with_reducible refine W.seq ?_ | with_reducible refine W.block ?_ | ((first | with_reducible refine W.reg ?_ | with_reducible refine W.skip ?_ | with_reducible refine W.exit ?_ | with_reducible refine W.ret ?_ | with_reducible refine W.ifc ?_); simp -dsimp (disch := first | omega | (simp only [go_sem]; omega)) only [go_sem, seval, Nat.reduceEqDiff, Nat.reduceLeDiff])))
   have hs5 := (Sep.f5 hq2.sep).grow hto (by rw [← List.map_singleton (f := eI), ← List.map_append] at hv3; exact hv3)
   refine ⟨_, _, ?_, st_le (by (simp -dsimp (disch := first | omega | (simp only [go_sem]; omega)) only [go_sem, seval, Nat.reduceEqDiff, Nat.reduceLeDiff] <;> ((repeat' apply And.intro) <;> first | exact VLe.refl _ | (apply vle_int; omega) | (apply vle_int; simp; done) | exact VLe.own _ _ | exact VLe.nilown _ | exact VLe.norm _))), sn ++ [a], x', G4, rfl, by rw [List.length_append]; simpa using hlen', hsn', fun i hi => ?_, ⟨hq.ok, hq.op, hs5.b5⟩, rfl⟩
   · rw [List.length_append]; simp; omega
   · rcases List.mem_append.1 hi with hi | hi
     · exact hsk i hi
     · rw [List.mem_singleton] at hi; subst hi; exact hal
end Go.Proofs.Ytioojmlhmhgeeaa
