/-
 Layer 21 (disk), continued: what the statements write.
 Conditions: of each contract as it says.
-/
import Derived.Test.YtioojmlhmhgeeaaF22i
import Derived.Test.YtioojmlhmhgeeaaS22c
namespace Go.Proofs.Ytioojmlhmhgeeaa
open Go Go.E2 C22
set_option linter.unusedSimpArgs false
set_option maxHeartbeats 1000000
structure Wr where
 kind : Int
 a : Int
 b : Int
def eW (x : Wr) : D := .agg [.int .i64 x.kind, .int .i64 x.a, .int .i64 x.b]
attribute [go_sem] eW
@[go_sem] theorem eW_size (x : Wr) : sizeOk 3 (eW x) = true := rfl
@[go_sem] theorem eW_all (l : List Wr) : (l.map eW).all (sizeOk 3) = true := by rw [List.all_eq_true]; intro x hx; obtain ⟨s, _, rfl⟩ := List.mem_map.1 hx; rfl
/-! ### rows of slices -/
def rowsA (xs : List D) (os : List (List Sec)) : List As := List.zipWith (fun x o => SlA 64 x (o.map eS)) xs os
def OpsA (xs : List D) (os : List (List Sec)) : As := Star (rowsA xs os)
theorem perm_out {α : Type} {l : List α} {i : Nat} (h : i < l.length) : l.Perm (l[i] :: l.eraseIdx i) := by
 rw [List.eraseIdx_eq_take_drop_succ]
 conv => lhs; rw [← List.take_append_drop i l, List.drop_eq_getElem_cons h]
 exact List.perm_middle
theorem perm_in {α : Type} {l : List α} {i : Nat} (h : i < l.length) (a : α) : (l.set i a).Perm (a :: l.eraseIdx i) := by
 rw [List.eraseIdx_eq_take_drop_succ, List.set_eq_take_append_cons_drop, if_pos h]
 exact List.perm_middle
theorem rowsA_set (xs : List D) (os : List (List Sec)) (i : Nat) (x : D) (o : List Sec) : rowsA (xs.set i x) (os.set i o) = (rowsA xs os).set i (SlA 64 x (o.map eS)) := by
 unfold rowsA
 apply List.ext_getElem
 · simp
 · intro j h1 h2
   simp only [List.getElem_zipWith, List.getElem_set]
   split <;> rfl
theorem OpsA.out {xs : List D} {os : List (List Sec)} {R : List As} {G : Gh} {i : Nat} (hx : i < xs.length) (ho : i < os.length) (h : Sep (OpsA xs os :: R) G) : Sep (SlA 64 xs[i] (os[i].map eS) :: Star ((rowsA xs os).eraseIdx i) :: R) G := by
 have hl : i < (rowsA xs os).length := by simp only [rowsA, List.length_zipWith]; omega
 have h2 := h.app.perm ((perm_out hl).append_right R)
 have e : (rowsA xs os)[i] = SlA 64 xs[i] (os[i].map eS) := by simp [rowsA]
 rw [e] at h2
 exact h2.cons fun _ => Sep.of_app
theorem OpsA.into {xs : List D} {os : List (List Sec)} {R : List As} {G : Gh} {i : Nat} (hx : i < xs.length) (ho : i < os.length) {x : D} {o : List Sec} (h : Sep (SlA 64 x (o.map eS) :: Star ((rowsA xs os).eraseIdx i) :: R) G) : Sep (OpsA (xs.set i x) (os.set i o) :: R) G := by
 have hl : i < (rowsA xs os).length := by simp only [rowsA, List.length_zipWith]; omega
 have h2 := h.cons fun _ => Sep.app
 have h3 := h2.perm (l' := (rowsA xs os).set i (SlA 64 x (o.map eS)) ++ R) ((perm_in hl _).append_right R).symm
 rw [← rowsA_set] at h3
 exact Sep.of_app h3
theorem OpsA.ones {xs : List D} {os : List (List Sec)} {R : List As} {G : Gh} (hl : xs.length = os.length) (h : Sep (OpsA xs os :: R) G) : xs.all D.one = true := by
 rw [List.all_eq_true]
 intro x hx
 obtain ⟨i, hi, rfl⟩ := List.getElem_of_mem hx
 rcases (OpsA.out hi (by omega) h).gv.shape with e | ⟨b, n, c, e⟩ <;> rw [e] <;> rfl
def opsL (cs : List Cel) : List (List Sec) := cs.map (·.op)
def surL (cs : List Cel) : List D := cs.map fun c => eS c.s
theorem surL_ok (cs : List Cel) : (surL cs).all (sizeOk 64) = true := by rw [List.all_eq_true]; intro x hx; obtain ⟨s, _, rfl⟩ := List.mem_map.1 hx; exact eS_size _
theorem sur_len (cs : List Cel) : (flat (surL cs)).length = cs.length * 64 := by rw [flat_length (surL_ok cs)]; simp [surL]
theorem sur_set (cs : List Cel) (i : Nat) (c : Cel) (hi : i < cs.length) : List.take (i * 64) (flat (surL cs)) ++ c.s.1.map eB ++ List.drop (i * 64 + 64) (flat (surL cs)) = flat (surL (cs.set i c)) := by
 have h := flat_setO (es := surL cs) (i := i) (x := eS c.s) (surL_ok cs) (sec_len c.s) (by simpa [surL] using hi)
 have e : surL (cs.set i c) = (surL cs).set i (eS c.s) := by simp [surL, List.map_set]
 rw [e, h]
 unfold over
 rw [eS_cells, sec_len]
theorem xs_set {xs : List D} {i : Nat} (h : i < xs.length) (x : D) : List.take i xs ++ [x] ++ List.drop (i + 1) xs = xs.set i x := by
 rw [List.set_eq_take_append_cons_drop, if_pos h, List.append_assoc]; rfl
theorem ops0 {R : List As} {G : Gh} : ∀ n : Nat, Sep R G → Sep (rowsA (zr n .nilS) (List.replicate n []) ++ R) G
 | 0, h => h
 | n + 1, h => (ops0 n h).slNil
theorem sur_fresh : zr 1024 (.int .u8 0) = flat (surL (fresh 16).cs) := by
 have e : surL (fresh 16).cs = List.replicate 16 (.agg (zr 64 (.int .u8 0))) := by simp [surL, fresh, freshC, eS, zr_z0]
 rw [e, ← rep_flat]
 unfold rep zr
 rw [List.flatten_replicate_replicate]
theorem written_ok (l : List Wr) (hl : l.length ≤ 100) (sn : Int) : CallS Try.prog f_quietuslaw21_written [.list (l.map eW), .int .i64 sn] []
 (fun r post => ∃ p d xs, Wd d (2 * l.length) ∧ xs.length = 16 ∧ ((l.length : Int) = sn ∨ l = [] → ∀ c ∈ d.cs, c.op = []) ∧ r = .tup [.gp p 0, .agg (flat (surL d.cs)), .agg xs] ∧ post = [DiskA p d, OpsA xs (opsL d.cs)]) := by
 refine callS_of_W fol quietuslaw21_written_cp fun R G σ hs => ?_
 simp -dsimp (disch := first | omega | (simp only [go_sem]; omega)) only [go_sem, seval, Nat.reduceEqDiff, Nat.reduceLeDiff]
 (repeat (first | with_reducible refine W.seq ?_ | with_reducible refine W.block ?_ | ((first | with_reducible refine W.reg ?_ | with_reducible refine W.skip ?_ | with_reducible refine W.exit ?_ | with_reducible refine W.ret ?_ | with_reducible refine W.ifc ?_); simp -dsimp (disch := first | omega | (simp only [go_sem]; omega)) only [go_sem, seval, Nat.reduceEqDiff, Nat.reduceLeDiff])))
 (refine wC_sq (New_ok 16 (by omega) (by omega)) (hs) (by decide) ?_ ?_; (focus (simp -dsimp (disch := first | omega | (simp only [go_sem]; omega)) only [go_sem, seval, Nat.reduceEqDiff, Nat.reduceLeDiff] <;> rfl)))
 rintro _ _ G2 ⟨p, rfl, rfl⟩ hs2
 have hs2 : Sep (DiskA p (fresh 16) :: R) G2 := hs2
 have hxs0 : Sep (DiskA p (fresh 16) :: OpsA (zr 16 .nilS) (opsL (fresh 16).cs) :: R) G2 := hs2.cons fun _ h => Sep.of_app (ops0 16 h)
 simp -dsimp (disch := first | omega | (simp only [go_sem]; omega)) only [go_sem, seval, Nat.reduceEqDiff, Nat.reduceLeDiff]
 (repeat (first | with_reducible refine W.seq ?_ | with_reducible refine W.block ?_ | ((first | with_reducible refine W.reg ?_ | with_reducible refine W.skip ?_ | with_reducible refine W.exit ?_ | with_reducible refine W.ret ?_ | with_reducible refine W.ifc ?_); simp -dsimp (disch := first | omega | (simp only [go_sem]; omega)) only [go_sem, seval, Nat.reduceEqDiff, Nat.reduceLeDiff])))
 have hx0 : (zr 16 D.nilS).length = 16 := rfl
 have hz0 := sur_fresh
 generalize zr 16 D.nilS = x0 at hxs0 hx0 ⊢
 generalize zr 1024 (D.int .u8 0) = z5 at hz0 ⊢
 refine W.loop (fun n st => ∃ (j : Nat) (d : Dk) (xs c8 : List D) (b11 b13 : Blk) (G : Gh), c8 = flat (surL d.cs) ∧ j ≤ l.length ∧ n = l.length - j ∧ Wd d (2 * j) ∧ xs.length = 16 ∧ ((j : Int) = sn ∨ j = 0 → ∀ c ∈ d.cs, c.op = []) ∧ Sep (DiskA p d :: OpsA xs (opsL d.cs) :: R) G ∧
  st = (E [(1, .d (.int .i64 sn)), (5, .ptr 0 5 1 0), (6, .ptr 0 6 1 0), (7, .d (.gp p 0)), (8, .ptr 0 8 1 0), (9, .ptr 0 9 1 0), (17, .d (.list (l.map eW))), (18, .d (.int .i64 l.length)), (19, .d (.int .i64 j))],
   HB [(5, ⟨1, some z5⟩), (6, ⟨1, some x0⟩), (8, ⟨1, some c8⟩), (9, ⟨1, some xs⟩), (11, b11), (13, b13)], σ, G))
  ⟨_, _, st_leB (by (simp -dsimp (disch := first | omega | (simp only [go_sem]; omega)) only [go_sem, seval, Nat.reduceEqDiff, Nat.reduceLeDiff] <;> ((repeat' apply And.intro) <;> first | exact VLe.refl _ | (apply vle_int; omega) | (apply vle_int; simp; done) | exact VLe.own _ _ | exact VLe.nilown _ | exact VLe.norm _))) (HB_pad [(5, _), (6, _), (8, _), (9, _)] [11, 13] (by rfl)).symm, 0, fresh 16, x0, z5, _, _, G2, hz0, by omega, rfl, wd_fresh.mono (by omega), hx0, fun _ c hc => by obtain rfl := (List.mem_replicate.1 hc).2; rfl, hxs0, rfl⟩ ?_
 rintro n st ⟨j, d, xs, _, b11, b13, G3, rfl, hj, rfl, hw, hxl, hop, hs3, rfl⟩
 (repeat (first | with_reducible refine W.seq ?_ | with_reducible refine W.block ?_ | ((first | with_reducible refine W.reg ?_ | with_reducible refine W.skip ?_ | with_reducible refine W.exit ?_ | with_reducible refine W.ret ?_ | with_reducible refine W.ifc ?_); simp -dsimp (disch := first | omega | (simp only [go_sem]; omega)) only [go_sem, seval, Nat.reduceEqDiff, Nat.reduceLeDiff])))
 refine wG_dec (fun h1 => ?_) (fun h1 => ?_)
 · have hj' : j < l.length := by omega
   obtain ⟨k1, k2, k3, k4⟩ := wrK_lt l[j].a
   generalize hk : wrK l[j].a = k at k1 k2
   (repeat' (first | with_reducible refine W.seq ?_ | with_reducible refine W.block ?_ | ((first | with_reducible refine W.reg ?_ | with_reducible refine W.skip ?_ | with_reducible refine W.exit ?_ | with_reducible refine W.ret ?_ | with_reducible refine W.ifc ?_ | (apply wC_P (Filled_ok l[j].b); (focus (simp -dsimp (disch := first | omega | (simp only [go_sem]; omega)) only [go_sem, seval, Nat.reduceEqDiff, Nat.reduceLeDiff] <;> rfl)); rintro _ rfl) | ((first | with_reducible refine wG_decE (fun _ hG => ?_) (fun _ hG => ?_) | with_reducible refine wG_decFE (fun _ hG => ?_) (fun _ hG => ?_)) <;> (try simp -dsimp only [hG, decide_true, decide_false, not_true_eq_false, not_false_eq_true]) <;> clear hG)) <;> (try simp -dsimp (disch := first | omega | (simp only [go_sem]; omega)) only [go_sem, seval, Nat.reduceEqDiff, Nat.reduceLeDiff, k2])) | simp -dsimp (disch := first | omega | (simp only [go_sem]; omega)) only [go_sem, seval, Nat.reduceEqDiff, Nat.reduceLeDiff, k2]))
   (refine wC_sq (Write_ok p d k (filled l[j].b) (by have := hw.st; omega)) (hs3) (by decide) ?_ ?_; (focus (simp -dsimp (disch := first | omega | (simp only [go_sem]; omega)) only [go_sem, seval, Nat.reduceEqDiff, Nat.reduceLeDiff] <;> rfl)))
   rintro _ _ G4 ⟨rfl, rfl⟩ hs4
   have hwr := hw.wr k1 (filled l[j].b)
   have hw4 := hw.wr2 (by omega) k1 (filled l[j].b)
   generalize hd4 : (wr d k (filled l[j].b)).1 = d4 at hs4 hw4
   have hr4 : (wr d k (filled l[j].b)).2 = 0 := by rw [hwr]
   have hcs4 : d4.cs = d.cs.modify k fun c => { c with op := c.op ++ [filled l[j].b] } := by rw [← hd4, hwr]
   have hs4 : Sep (DiskA p d4 :: OpsA xs (opsL d.cs) :: R) G4 := hs4
   have hkx : k < xs.length := by omega
   have hkd : k < d.cs.length := by have := hw.len; omega
   have hko : k < (opsL d.cs).length := by simpa [opsL] using hkd
   have hs5 := OpsA.out hkx hko hs4.swap
   have hv := hs5.gv
   have hok := hw.ok.few d.cs[k] (List.getElem_mem hkd)
   have hst := hw.st
   have hol : (opsL d.cs)[k] = d.cs[k].op := by simp [opsL]
   rw [hol] at hv hs5
   have hlx : (List.drop (k * 1) xs).head? = some xs[k] := by rw [Nat.mul_one, List.head?_drop, List.getElem?_eq_getElem hkx]
   simp -dsimp (disch := first | omega | (simp only [go_sem]; omega)) only [go_sem, seval, Nat.reduceEqDiff, Nat.reduceLeDiff, hr4]
   (repeat' (first | with_reducible refine W.seq ?_ | with_reducible refine W.block ?_ | ((first | with_reducible refine W.reg ?_ | with_reducible refine W.skip ?_ | with_reducible refine W.exit ?_ | with_reducible refine W.ret ?_ | with_reducible refine W.ifc ?_ | ((first | with_reducible refine wG_decE (fun _ hG => ?_) (fun _ hG => ?_) | with_reducible refine wG_decFE (fun _ hG => ?_) (fun _ hG => ?_)) <;> (try simp -dsimp only [hG, decide_true, decide_false, not_true_eq_false, not_false_eq_true]) <;> clear hG)) <;> (try simp -dsimp (disch := first | omega | (simp only [go_sem]; omega)) only [go_sem, seval, Nat.reduceEqDiff, Nat.reduceLeDiff, hxl, k1, hlx])) | simp -dsimp (disch := first | omega | (simp only [go_sem]; omega)) only [go_sem, seval, Nat.reduceEqDiff, Nat.reduceLeDiff, hxl, k1, hlx]))
   refine appV_GV2 (es2 := [eS (filled l[j].b)]) (m := 1) hv (viewC_list (es := [eS (filled l[j].b)]) (eS_all [filled l[j].b])) rfl (eS_all [filled l[j].b]) (sec_len _) (by rw [List.length_map, mostBytes_eq]; omega) fun x' G5 hv5 hto => ?_
   obtain ⟨bx, capx, csx, hxe, _, _⟩ := hv5.inv (by simp)
   generalize (List.map eS d.cs[k].op ++ [eS (filled l[j].b)]).length = nx at hxe
   have k15 : k ≤ 15 := by omega
   subst hxe
   have hs6 := Sep.grow hs5 hto (es' := (d.cs[k].op ++ [filled l[j].b]).map eS) (by rw [List.map_append]; exact hv5)
   have hs7 := (OpsA.into hkx hko hs6).swap
   have e4 : (opsL d.cs).set k (d.cs[k].op ++ [filled l[j].b]) = opsL d4.cs := by
    rw [hcs4, modify_set hkd]
    unfold opsL
    rw [List.map_set]
   have e5 : surL d.cs = surL d4.cs := by
    rw [hcs4]
    exact (modify_map (g := fun c : Cel => eS c.s) (f := fun c : Cel => { c with op := c.op ++ [filled l[j].b] }) fun c => rfl).symm
   rw [e4] at hs7
   have hxs := xs_set hkx (.gs bx 0 nx capx)
   have hxl' : (xs.set k (.gs bx 0 nx capx)).length = 16 := by simpa using hxl
   generalize xs.set k (.gs bx 0 nx capx) = xs4 at hxs hs7 hxl'
   by_cases hsy : (j : Int) + 1 = sn
   · (repeat' (first | with_reducible refine W.seq ?_ | with_reducible refine W.block ?_ | ((first | with_reducible refine W.reg ?_ | with_reducible refine W.skip ?_ | with_reducible refine W.exit ?_ | with_reducible refine W.ret ?_ | with_reducible refine W.ifc ?_ | ((first | with_reducible refine wG_decE (fun _ hG => ?_) (fun _ hG => ?_) | with_reducible refine wG_decFE (fun _ hG => ?_) (fun _ hG => ?_)) <;> (try simp -dsimp only [hG, decide_true, decide_false, not_true_eq_false, not_false_eq_true]) <;> clear hG)) <;> (try simp -dsimp (disch := first | omega | (simp only [go_sem]; omega)) only [go_sem, seval, Nat.reduceEqDiff, Nat.reduceLeDiff, hxl, k1, k15, hxs, hsy, Nat.mul_one])) | simp -dsimp (disch := first | omega | (simp only [go_sem]; omega)) only [go_sem, seval, Nat.reduceEqDiff, Nat.reduceLeDiff, hxl, k1, k15, hxs, hsy, Nat.mul_one]))
     (refine wC_sq (Sync_ok p d4 (by have := hw4.st; omega)) (hs7) (by decide) ?_ ?_; (focus (simp -dsimp (disch := first | omega | (simp only [go_sem]; omega)) only [go_sem, seval, Nat.reduceEqDiff, Nat.reduceLeDiff] <;> rfl)))
     rintro _ _ G6 ⟨rfl, rfl⟩ hs8
     have hsy4 := hw4.sy
     have hw5 := hw4.sy2 (by omega)
     have hr5 : (sy d4).2 = 0 := by rw [hsy4]
     have hd5 : (sy d4).1.cs = d4.cs.map syC := by rw [hsy4]
     generalize (sy d4).1 = d5 at hs8 hw5 hd5
     have hs8 : Sep (DiskA p d5 :: OpsA xs4 (opsL d4.cs) :: R) G6 := hs8
     simp -dsimp (disch := first | omega | (simp only [go_sem]; omega)) only [go_sem, seval, Nat.reduceEqDiff, Nat.reduceLeDiff, hr5]
     (repeat' (first | with_reducible refine W.seq ?_ | with_reducible refine W.block ?_ | ((first | with_reducible refine W.reg ?_ | with_reducible refine W.skip ?_ | with_reducible refine W.exit ?_ | with_reducible refine W.ret ?_ | with_reducible refine W.ifc ?_ | ((first | with_reducible refine wG_decE (fun _ hG => ?_) (fun _ hG => ?_) | with_reducible refine wG_decFE (fun _ hG => ?_) (fun _ hG => ?_)) <;> (try simp -dsimp only [hG, decide_true, decide_false, not_true_eq_false, not_false_eq_true]) <;> clear hG)) <;> (try simp -dsimp (disch := first | omega | (simp only [go_sem]; omega)) only [go_sem, seval, Nat.reduceEqDiff, Nat.reduceLeDiff, hr5])) | simp -dsimp (disch := first | omega | (simp only [go_sem]; omega)) only [go_sem, seval, Nat.reduceEqDiff, Nat.reduceLeDiff, hr5]))
     have hl4 := hw4.len
     refine W.loop (fun n st => ∃ (t : Nat) (xs c8 : List D) (b11 b13 : Blk), c8 = flat (surL (syT d4.cs t)) ∧ t ≤ 16 ∧ n = 16 - t ∧ xs.length = 16 ∧ Sep (DiskA p d5 :: OpsA xs (opsL (syT d4.cs t)) :: R) G6 ∧
      st = (E [(1, .d (.int .i64 sn)), (5, .ptr 0 5 1 0), (6, .ptr 0 6 1 0), (7, .d (.gp p 0)), (8, .ptr 0 8 1 0), (9, .ptr 0 9 1 0), (17, .d (.list (l.map eW))), (18, .d (.int .i64 l.length)), (19, .d (.int .i64 j)), (58, .d (.int .i64 t))],
       HB [(5, ⟨1, some z5⟩), (6, ⟨1, some x0⟩), (8, ⟨1, some c8⟩), (9, ⟨1, some xs⟩), (11, b11), (13, b13)], σ, G6))
      ⟨_, _, st_le (by (simp -dsimp (disch := first | omega | (simp only [go_sem]; omega)) only [go_sem, seval, Nat.reduceEqDiff, Nat.reduceLeDiff] <;> ((repeat' apply And.intro) <;> first | exact VLe.refl _ | (apply vle_int; omega) | (apply vle_int; simp; done) | exact VLe.own _ _ | exact VLe.nilown _ | exact VLe.norm _))), 0, xs4, _, _, _, by rw [syT_zero, ← e5], by omega, rfl, hxl', by rw [syT_zero]; exact hs8, rfl⟩ ?_
     rintro n st ⟨t, xs', _, b11, b13, rfl, ht, rfl, hxl2, hs9, rfl⟩
     (repeat (first | with_reducible refine W.seq ?_ | with_reducible refine W.block ?_ | ((first | with_reducible refine W.reg ?_ | with_reducible refine W.skip ?_ | with_reducible refine W.exit ?_ | with_reducible refine W.ret ?_ | with_reducible refine W.ifc ?_); simp -dsimp (disch := first | omega | (simp only [go_sem]; omega)) only [go_sem, seval, Nat.reduceEqDiff, Nat.reduceLeDiff])))
     refine wG_dec (fun h2 => ?_) (fun h2 => ?_)
     · have ht' : t < 16 := by omega
       have htx : t < xs'.length := by omega
       have htd : t < d4.cs.length := by omega
       have hto2 : t < (opsL (syT d4.cs t)).length := by simpa [opsL, syT_len] using htd
       have hs10 := OpsA.out htx hto2 hs9.swap
       have hol2 : (opsL (syT d4.cs t))[t] = d4.cs[t].op := by simp [opsL, syT_get htd]
       rw [hol2] at hs10
       have hv2 := hs10.gv
       have hvl := hv2.len
       rw [List.length_map] at hvl
       have hlx2 : (List.drop (t * 1) xs').head? = some xs'[t] := by rw [Nat.mul_one, List.head?_drop, List.getElem?_eq_getElem htx]
       have hcl : (syT d4.cs t).length = 16 := by rw [syT_len]; exact hl4
       have hfl := sur_len (syT d4.cs t)
       rw [hcl] at hfl
       by_cases hne : d4.cs[t].op = []
       · rw [hne] at hvl
         have hsame : syT d4.cs (t + 1) = syT d4.cs t := by
          rw [syT_succ htd]
          have e6 : syC d4.cs[t] = (syT d4.cs t)[t]'(by omega) := by rw [syT_get htd]; unfold syC; rw [hne]; rfl
          rw [e6, List.set_getElem_self]
         (repeat' (first | with_reducible refine W.seq ?_ | with_reducible refine W.block ?_ | ((first | with_reducible refine W.reg ?_ | with_reducible refine W.skip ?_ | with_reducible refine W.exit ?_ | with_reducible refine W.ret ?_ | with_reducible refine W.ifc ?_ | ((first | with_reducible refine wG_decE (fun _ hG => ?_) (fun _ hG => ?_) | with_reducible refine wG_decFE (fun _ hG => ?_) (fun _ hG => ?_)) <;> (try simp -dsimp only [hG, decide_true, decide_false, not_true_eq_false, not_false_eq_true]) <;> clear hG)) <;> (try simp -dsimp (disch := first | omega | (simp only [go_sem]; omega)) only [go_sem, seval, Nat.reduceEqDiff, Nat.reduceLeDiff, hxl2, ht', hlx2, hvl])) | simp -dsimp (disch := first | omega | (simp only [go_sem]; omega)) only [go_sem, seval, Nat.reduceEqDiff, Nat.reduceLeDiff, hxl2, ht', hlx2, hvl]))
         refine ⟨_, _, ?_, st_le (by (simp -dsimp (disch := first | omega | (simp only [go_sem]; omega)) only [go_sem, seval, Nat.reduceEqDiff, Nat.reduceLeDiff] <;> ((repeat' apply And.intro) <;> first | exact VLe.refl _ | (apply vle_int; omega) | (apply vle_int; simp; done) | exact VLe.own _ _ | exact VLe.nilown _ | exact VLe.norm _))), t + 1, xs', _, _, _, by rw [hsame], by omega, rfl, hxl2, by rw [hsame]; exact hs9, rfl⟩
         omega
       · obtain ⟨b, cap', cs', hxb, hb, hla⟩ := gv_last hv2 hne
         have hl0 : 0 < d4.cs[t].op.length := List.length_pos_iff.2 hne
         have e3 : ((d4.cs[t].op.length : Int) - 1).toNat = d4.cs[t].op.length - 1 := by omega
         have hfew := hw4.ok.few d4.cs[t] (List.getElem_mem htd)
         have hst4 := hw4.st
         have hgt : (0 < (d4.cs[t].op.length : Int)) = True := eq_true (by omega)
         rw [hxb] at hlx2
         have hlx3 := hlx2
         rw [Nat.mul_one] at hlx3
         have hsc : syC d4.cs[t] = ⟨d4.cs[t].op.getLast hne, false, []⟩ := by unfold syC; rw [List.getLast?_eq_some_getLast hne]
         have hstep := syT_succ htd
         have hset := sur_set (syT d4.cs t) t (syC d4.cs[t]) (by omega)
         rw [← hstep, hsc] at hset
         have hnil := xs_set htx .nilS
         have h960 : t * 64 ≤ 960 := by omega
         have ht15 : t ≤ 15 := by omega
         (repeat' (first | with_reducible refine W.seq ?_ | with_reducible refine W.block ?_ | ((first | with_reducible refine W.reg ?_ | with_reducible refine W.skip ?_ | with_reducible refine W.exit ?_ | with_reducible refine W.ret ?_ | with_reducible refine W.ifc ?_ | ((first | with_reducible refine wG_decE (fun _ hG => ?_) (fun _ hG => ?_) | with_reducible refine wG_decFE (fun _ hG => ?_) (fun _ hG => ?_)) <;> (try simp -dsimp only [hG, decide_true, decide_false, not_true_eq_false, not_false_eq_true]) <;> clear hG)) <;> (try simp -dsimp (disch := first | omega | (simp only [go_sem]; omega)) only [go_sem, seval, Nat.reduceEqDiff, Nat.reduceLeDiff, hxl2, ht', hvl, hxb, hgt, hb, e3, hla, hfl, hset, hnil, h960, ht15, hlx3, Nat.mul_one])) | simp -dsimp (disch := first | omega | (simp only [go_sem]; omega)) only [go_sem, seval, Nat.reduceEqDiff, Nat.reduceLeDiff, hxl2, ht', hvl, hxb, hgt, hb, e3, hla, hfl, hset, hnil, h960, ht15, hlx3, Nat.mul_one]))
         have hs11 : Sep (OpsA (xs'.set t .nilS) ((opsL (syT d4.cs t)).set t []) :: DiskA p d5 :: R) G6 := OpsA.into htx hto2 (o := []) hs10.tail.slNil
         have e7 : (opsL (syT d4.cs t)).set t [] = opsL (syT d4.cs (t + 1)) := by
          rw [hstep, hsc]
          unfold opsL
          rw [List.map_set]
         rw [e7] at hs11
         refine ⟨_, _, ?_, st_le (by (simp -dsimp (disch := first | omega | (simp only [go_sem]; omega)) only [go_sem, seval, Nat.reduceEqDiff, Nat.reduceLeDiff] <;> ((repeat' apply And.intro) <;> first | exact VLe.refl _ | (apply vle_int; omega) | (apply vle_int; simp; done) | exact VLe.own _ _ | exact VLe.nilown _ | exact VLe.norm _))), t + 1, xs'.set t .nilS, _, _, _, rfl, by omega, rfl, by simpa using hxl2, hs11.swap, rfl⟩
         omega
     · obtain rfl : t = 16 := by omega
       have e16 : syT d4.cs 16 = d5.cs := by rw [hd5, ← syT_end, hl4]
       rw [e16] at hs9 ⊢
       (repeat (first | with_reducible refine W.seq ?_ | with_reducible refine W.block ?_ | ((first | with_reducible refine W.reg ?_ | with_reducible refine W.skip ?_ | with_reducible refine W.exit ?_ | with_reducible refine W.ret ?_ | with_reducible refine W.ifc ?_); simp -dsimp (disch := first | omega | (simp only [go_sem]; omega)) only [go_sem, seval, Nat.reduceEqDiff, Nat.reduceLeDiff])))
       refine ⟨_, _, ?_, st_le (by (simp -dsimp (disch := first | omega | (simp only [go_sem]; omega)) only [go_sem, seval, Nat.reduceEqDiff, Nat.reduceLeDiff] <;> ((repeat' apply And.intro) <;> first | exact VLe.refl _ | (apply vle_int; omega) | (apply vle_int; simp; done) | exact VLe.own _ _ | exact VLe.nilown _ | exact VLe.norm _))), j + 1, d5, xs', _, _, _, G6, rfl, by omega, rfl, hw5.mono (by omega), hxl2, fun _ c hc => ?_, hs9, rfl⟩
       · omega
       · rw [hd5] at hc
         obtain ⟨y, hy, rfl⟩ := List.mem_map.1 hc
         exact syC_op y
   · (repeat' (first | with_reducible refine W.seq ?_ | with_reducible refine W.block ?_ | ((first | with_reducible refine W.reg ?_ | with_reducible refine W.skip ?_ | with_reducible refine W.exit ?_ | with_reducible refine W.ret ?_ | with_reducible refine W.ifc ?_ | ((first | with_reducible refine wG_decE (fun _ hG => ?_) (fun _ hG => ?_) | with_reducible refine wG_decFE (fun _ hG => ?_) (fun _ hG => ?_)) <;> (try simp -dsimp only [hG, decide_true, decide_false, not_true_eq_false, not_false_eq_true]) <;> clear hG)) <;> (try simp -dsimp (disch := first | omega | (simp only [go_sem]; omega)) only [go_sem, seval, Nat.reduceEqDiff, Nat.reduceLeDiff, hxl, k1, k15, hxs, hsy, Nat.mul_one])) | simp -dsimp (disch := first | omega | (simp only [go_sem]; omega)) only [go_sem, seval, Nat.reduceEqDiff, Nat.reduceLeDiff, hxl, k1, k15, hxs, hsy, Nat.mul_one]))
     refine ⟨_, _, ?_, st_le (by (simp -dsimp (disch := first | omega | (simp only [go_sem]; omega)) only [go_sem, seval, Nat.reduceEqDiff, Nat.reduceLeDiff] <;> ((repeat' apply And.intro) <;> first | exact VLe.refl _ | (apply vle_int; omega) | (apply vle_int; simp; done) | exact VLe.own _ _ | exact VLe.nilown _ | exact VLe.norm _))), j + 1, d4, xs4, _, _, _, G5, e5 ▸ rfl, by omega, rfl, hw4.mono (by omega), hxl', fun h => (by omega), hs7, rfl⟩
     omega
 · obtain rfl : j = l.length := by omega
   have hfl := sur_len d.cs
   rw [hw.len] at hfl
   have hf2 : List.take 1024 (flat (surL d.cs)) = flat (surL d.cs) := List.take_of_length_le (by omega)
   have hf3 : List.take 16 xs = xs := List.take_of_length_le (by omega)
   have hzl : z5.length = 1024 := by rw [hz0, sur_len]; rfl
   have hf4 : List.drop 1024 z5 = [] := List.drop_of_length_le (by omega)
   have hf5 : List.drop 16 x0 = [] := List.drop_of_length_le (by omega)
   have hf6 := flat_one (surL_ok d.cs)
   have hf7 := OpsA.ones (by rw [hxl, opsL, List.length_map, hw.len]) hs3.swap
   (repeat (first | with_reducible refine W.seq ?_ | with_reducible refine W.block ?_ | ((first | with_reducible refine W.reg ?_ | with_reducible refine W.skip ?_ | with_reducible refine W.exit ?_ | with_reducible refine W.ret ?_ | with_reducible refine W.ifc ?_); simp -dsimp (disch := first | omega | (simp only [go_sem]; omega)) only [go_sem, seval, Nat.reduceEqDiff, Nat.reduceLeDiff, hfl, hf2, hf3, hf4, hf5, hf6, hf7, hxl, hzl, hx0])))
   (apply Fin.eq; (focus (simp -dsimp (disch := first | omega | (simp only [go_sem]; omega)) only [go_sem, seval, Nat.reduceEqDiff, Nat.reduceLeDiff, hfl, hf2, hf3, hf6, hf7, hxl] <;> rfl)))
   refine ⟨rfl, _, ⟨p, d, xs, hw, hxl, fun h => hop (h.imp id fun e => by rw [e]; rfl), rfl, rfl⟩, hs3⟩
end Go.Proofs.Ytioojmlhmhgeeaa
