/-
 Layer 37 (chunk): what its functions return.
 Conditions: of each contract as it says.
-/
import Derived.Test.YtbcnnomgfheaoaaT37
import Derived.Test.YtbcnnomgfheaoaaEN9
import Derived.Test.YtbcnnomgfheaoaaS37
namespace Go.Proofs.Ytbcnnomgfheaoaa
open Go Go.E2 C37
set_option linter.unusedSimpArgs false
def eT (c : Ct) : D := .agg [.int .i64 c.mn, .int .i64 c.mx, .int .i64 c.bits]
attribute [go_sem] eT
def eC (c : Ck) : D := .agg [.int .i64 c.id, .str c.cls, .str c.bytes, .int .i64 c.uses]
attribute [go_sem] eC
def eI (n : Int) : D := .int .i64 n
attribute [go_sem] eI
def eB (o : Ob) : D := .agg [.int .i64 o.id, .str o.cls, .list (o.chunks.map eI)]
attribute [go_sem] eB
def eL (l : Lt) : D := .agg [.int .i64 l.next, .list (l.cks.map eC), .list (l.obs.map eB)]
attribute [go_sem] eL
@[go_sem] theorem eC_all (l : List Ck) : (l.map eC).all (sizeOk 4) = true := by simp [List.all_map, Function.comp_def, eC, sizeOk, D.cells, D.one]
@[go_sem] theorem eB_all (l : List Ob) : (l.map eB).all (sizeOk 3) = true := by simp [List.all_map, Function.comp_def, eB, sizeOk, D.cells, D.one]
@[go_sem] theorem eI_all (l : List Int) : (l.map eI).all (sizeOk 1) = true := by simp [List.all_map, Function.comp_def, eI, sizeOk, D.cells, D.one]
@[go_sem] theorem eS_all (l : List Str) : (l.map D.str).all (sizeOk 1) = true := by simp [List.all_map, Function.comp_def, sizeOk, D.cells, D.one]
theorem Check_ok (c : Ct) : CallP Try.prog f_chunk_Check [eT c] (· = .d (.int .i64 (checkC c))) := by
 refine callP_of_W fol chunk_Check_cp ?_
 simp -dsimp (disch := first | omega | (simp only [go_sem]; omega)) only [go_sem, seval, Nat.reduceEqDiff, Nat.reduceLeDiff]
 (repeat' (first | with_reducible refine W.seq ?_ | with_reducible refine W.block ?_ | ((first | with_reducible refine W.reg ?_ | with_reducible refine W.skip ?_ | with_reducible refine W.exit ?_ | with_reducible refine W.ret ?_ | with_reducible refine W.ifc ?_ | ((first | with_reducible refine wG_decE (fun _ hG => ?_) (fun _ hG => ?_) | with_reducible refine wG_decFE (fun _ hG => ?_) (fun _ hG => ?_)) <;> (try simp -dsimp only [hG, decide_true, decide_false, not_true_eq_false, not_false_eq_true]) <;> clear hG)) <;> (try simp -dsimp (disch := first | omega | (simp only [go_sem]; omega)) only [go_sem, seval, Nat.reduceEqDiff, Nat.reduceLeDiff])) | simp -dsimp (disch := first | omega | (simp only [go_sem]; omega)) only [go_sem, seval, Nat.reduceEqDiff, Nat.reduceLeDiff]))
 all_goals (refine Fin.p rfl (iE ?_); first | (rw [checkC, if_pos (by unfold okC; omega)]) | (rw [checkC, if_neg (by unfold okC; omega)]))
theorem pow_le40 {k : Nat} (h : k ≤ 40) : 1 ≤ (2 : Int) ^ k ∧ (2 : Int) ^ k ≤ 1099511627776 := by
 constructor
 · exact_mod_cast Nat.one_le_two_pow
 · have := Nat.pow_le_pow_right (n := 2) (by omega) h
   rw [show (2 : Nat) ^ 40 = 1099511627776 from rfl] at this
   have h2 : ((2 ^ k : Nat) : Int) ≤ ((1099511627776 : Nat) : Int) := Int.ofNat_le.2 this
   rw [Int.natCast_pow] at h2
   exact h2
end Go.Proofs.Ytbcnnomgfheaoaa
