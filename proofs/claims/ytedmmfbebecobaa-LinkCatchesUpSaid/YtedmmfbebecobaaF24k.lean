/-
  Layer 24 (link), continued: the examples.
  Conditions: none.
-/
import Derived.Test.YtedmmfbebecobaaF24h
namespace Go.Proofs.Ytedmmfbebecobaa
open Go Go.E2 C24
set_option linter.unusedSimpArgs false
set_option maxHeartbeats 2000000
def oK (k : Nat) : Out := ⟨0, 0, [], ([[97], [98], [99]] : List (List UInt8)).take k⟩
theorem put_eq (k : Nat) (h : k < 3) : putO (oK k) [UInt8.ofNat (97 + k)] = (oK (k + 1), 0) := by
  obtain rfl | rfl | rfl : k = 0 ∨ k = 1 ∨ k = 2 := by omega
  all_goals decide
theorem putK_ok (k : Nat) (h : k < 3) : CallP Try.prog f_link_Put [eO (oK k), .str [UInt8.ofNat (97 + k)]] (· = .tup [eO (oK (k + 1)), .int .i64 0]) := by
  have := Put_ok (oK k) [UInt8.ofNat (97 + k)] (by simp [oK]; omega)
  rwa [put_eq k h] at this
theorem put_ok : CallP Try.prog f_quietuslaw24_put [] (· = .tup [eO (oK 3), .bool true]) := by
  refine callP_of_W fol quietuslaw24_put_cp ?_
  simp -dsimp (disch := first | omega | (simp only [go_sem]; omega)) only [go_sem, ↓reduceIte, Nat.reduceEqDiff, Nat.reduceAdd, Nat.reduceSub, Nat.reduceMul, Nat.reduceLeDiff, Nat.reduceLT, Nat.reduceBEq, reduceCtorEq, Int.reduceToNat, Int.reduceLT, Int.reduceLE, Int.reduceEq, Int.reduceNeg, Int.reduceAdd, Int.reduceSub]
  (repeat (first | with_reducible refine W.seq ?_ | with_reducible refine W.block ?_ | ((first | with_reducible refine W.reg ?_ | with_reducible refine W.skip ?_ | with_reducible refine W.exit ?_ | with_reducible refine W.ret ?_ | with_reducible refine W.ifc ?_); simp -dsimp (disch := first | omega | (simp only [go_sem]; omega)) only [go_sem, ↓reduceIte, Nat.reduceEqDiff, Nat.reduceAdd, Nat.reduceSub, Nat.reduceMul, Nat.reduceLeDiff, Nat.reduceLT, Nat.reduceBEq, reduceCtorEq, Int.reduceToNat, Int.reduceLT, Int.reduceLE, Int.reduceEq, Int.reduceNeg, Int.reduceAdd, Int.reduceSub])))
  refine W.loop (fun n st => ∃ (k : Nat) (b4 : Blk), k ≤ 3 ∧ n = 3 - k ∧ st = (E [(0, .ptr 0 0 1 0), (2, .ptr 0 2 1 0), (3, .d (.int .i64 k))], HB [(0, ⟨1, some [.int .i64 0, .int .i64 0, .str [], .nilS]⟩), (2, ⟨1, some [.int .i64 0, .int .i64 0, .str [], .list ((oK k).queue.map .str)]⟩), (4, b4)], [], noGh))
    ⟨_, _, st_leH (by (simp -dsimp (disch := first | omega | (simp only [go_sem]; omega)) only [go_sem, ↓reduceIte, Nat.reduceEqDiff, Nat.reduceAdd, Nat.reduceSub, Nat.reduceMul, Nat.reduceLeDiff, Nat.reduceLT, Nat.reduceBEq, reduceCtorEq, Int.reduceToNat, Int.reduceLT, Int.reduceLE, Int.reduceEq, Int.reduceNeg, Int.reduceAdd, Int.reduceSub] <;> ((repeat' apply And.intro) <;> first | exact VLe.refl _ | (apply vle_int; omega) | (apply vle_int; simp; done) | exact VLe.own _ _ | exact VLe.nilown _ | exact VLe.norm _))) (HBle.pad (h' := [_, (2, ⟨1, some [.int .i64 0, .int .i64 0, .str [], .list []]⟩)]) (HBle.same _ _ (HBle.box _ _ (DsLe.cons (.inl rfl) (DsLe.cons (.inl rfl) (DsLe.cons (.inl rfl) (DsLe.cons (.inr rfl) .nil)))) (.refl _))) [4] rfl), 0, _, by omega, rfl, rfl⟩ ?_
  rintro n st ⟨k, b4, hk, rfl, rfl⟩
  (repeat (first | with_reducible refine W.seq ?_ | with_reducible refine W.block ?_ | ((first | with_reducible refine W.reg ?_ | with_reducible refine W.skip ?_ | with_reducible refine W.exit ?_ | with_reducible refine W.ret ?_ | with_reducible refine W.ifc ?_); simp -dsimp (disch := first | omega | (simp only [go_sem]; omega)) only [go_sem, ↓reduceIte, Nat.reduceEqDiff, Nat.reduceAdd, Nat.reduceSub, Nat.reduceMul, Nat.reduceLeDiff, Nat.reduceLT, Nat.reduceBEq, reduceCtorEq, Int.reduceToNat, Int.reduceLT, Int.reduceLE, Int.reduceEq, Int.reduceNeg, Int.reduceAdd, Int.reduceSub])))
  refine wG_dec (fun h1 => ?_) (fun h1 => ?_)
  · have hk' : k < 3 := by omega
    have he : UInt8.ofNat (97 + (k : Int)).toNat = UInt8.ofNat (97 + k) := by congr 1
    (repeat (first | with_reducible refine W.seq ?_ | with_reducible refine W.block ?_ | ((first | with_reducible refine W.reg ?_ | with_reducible refine W.skip ?_ | with_reducible refine W.exit ?_ | with_reducible refine W.ret ?_ | with_reducible refine W.ifc ?_); simp -dsimp (disch := first | omega | (simp only [go_sem]; omega)) only [go_sem, ↓reduceIte, Nat.reduceEqDiff, Nat.reduceAdd, Nat.reduceSub, Nat.reduceMul, Nat.reduceLeDiff, Nat.reduceLT, Nat.reduceBEq, reduceCtorEq, Int.reduceToNat, Int.reduceLT, Int.reduceLE, Int.reduceEq, Int.reduceNeg, Int.reduceAdd, Int.reduceSub, he])))
    apply wC_p (putK_ok k hk')
    focus (simp -dsimp (disch := first | omega | (simp only [go_sem]; omega)) only [go_sem, ↓reduceIte, Nat.reduceEqDiff, Nat.reduceAdd, Nat.reduceSub, Nat.reduceMul, Nat.reduceLeDiff, Nat.reduceLT, Nat.reduceBEq, reduceCtorEq, Int.reduceToNat, Int.reduceLT, Int.reduceLE, Int.reduceEq, Int.reduceNeg, Int.reduceAdd, Int.reduceSub] <;> fail)
    focus (simp -dsimp (disch := first | omega | (simp only [go_sem]; omega)) only [go_sem, ↓reduceIte, Nat.reduceEqDiff, Nat.reduceAdd, Nat.reduceSub, Nat.reduceMul, Nat.reduceLeDiff, Nat.reduceLT, Nat.reduceBEq, reduceCtorEq, Int.reduceToNat, Int.reduceLT, Int.reduceLE, Int.reduceEq, Int.reduceNeg, Int.reduceAdd, Int.reduceSub, he, oK] <;> rfl)
    rintro _ rfl
    have ho : eO (oK (k + 1)) = .agg [.int .i64 0, .int .i64 0, .str [], .list ((oK (k + 1)).queue.map .str)] := rfl
    rw [ho]
    simp -dsimp (disch := first | omega | (simp only [go_sem]; omega)) only [go_sem, ↓reduceIte, Nat.reduceEqDiff, Nat.reduceAdd, Nat.reduceSub, Nat.reduceMul, Nat.reduceLeDiff, Nat.reduceLT, Nat.reduceBEq, reduceCtorEq, Int.reduceToNat, Int.reduceLT, Int.reduceLE, Int.reduceEq, Int.reduceNeg, Int.reduceAdd, Int.reduceSub]
    (repeat (first | with_reducible refine W.seq ?_ | with_reducible refine W.block ?_ | ((first | with_reducible refine W.reg ?_ | with_reducible refine W.skip ?_ | with_reducible refine W.exit ?_ | with_reducible refine W.ret ?_ | with_reducible refine W.ifc ?_); simp -dsimp (disch := first | omega | (simp only [go_sem]; omega)) only [go_sem, ↓reduceIte, Nat.reduceEqDiff, Nat.reduceAdd, Nat.reduceSub, Nat.reduceMul, Nat.reduceLeDiff, Nat.reduceLT, Nat.reduceBEq, reduceCtorEq, Int.reduceToNat, Int.reduceLT, Int.reduceLE, Int.reduceEq, Int.reduceNeg, Int.reduceAdd, Int.reduceSub])))
    refine ⟨_, _, ?_, st_leH (by (simp -dsimp (disch := first | omega | (simp only [go_sem]; omega)) only [go_sem, ↓reduceIte, Nat.reduceEqDiff, Nat.reduceAdd, Nat.reduceSub, Nat.reduceMul, Nat.reduceLeDiff, Nat.reduceLT, Nat.reduceBEq, reduceCtorEq, Int.reduceToNat, Int.reduceLT, Int.reduceLE, Int.reduceEq, Int.reduceNeg, Int.reduceAdd, Int.reduceSub] <;> ((repeat' apply And.intro) <;> first | exact VLe.refl _ | (apply vle_int; omega) | (apply vle_int; simp; done) | exact VLe.own _ _ | exact VLe.nilown _ | exact VLe.norm _))) (HBle.refl _), k + 1, _, by omega, rfl, rfl⟩
    omega
  · obtain rfl : k = 3 := by omega
    (repeat (first | with_reducible refine W.seq ?_ | with_reducible refine W.block ?_ | ((first | with_reducible refine W.reg ?_ | with_reducible refine W.skip ?_ | with_reducible refine W.exit ?_ | with_reducible refine W.ret ?_ | with_reducible refine W.ifc ?_); simp -dsimp (disch := first | omega | (simp only [go_sem]; omega)) only [go_sem, ↓reduceIte, Nat.reduceEqDiff, Nat.reduceAdd, Nat.reduceSub, Nat.reduceMul, Nat.reduceLeDiff, Nat.reduceLT, Nat.reduceBEq, reduceCtorEq, Int.reduceToNat, Int.reduceLT, Int.reduceLE, Int.reduceEq, Int.reduceNeg, Int.reduceAdd, Int.reduceSub])))
    exact Fin.n rfl rfl
end Go.Proofs.Ytedmmfbebecobaa
