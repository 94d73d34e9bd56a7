/-
  Operations on numbers, strings, structs, run.
  Conditions: none; laws.
-/
import Derived.Test.YtpooocblijlabaaEO1
namespace Go.E2
section
variable {P : Program} {S : Stb} {w : World}
theorem eqGuard_int (op : BinOp) (t : TypeId) (x y : Operand) (k k' : IntKind) (m n : Int) : (eqGuard op t x y (.int k m) (.int k' n)).run P w = .ok () w := by
  cases op <;> simp [eqGuard]
theorem eqGuard_str (op : BinOp) (t : TypeId) (x y : Operand) (m n : ByteArray) : (eqGuard op t x y (.string m) (.string n)).run P w = .ok () w := by
  cases op <;> simp [eqGuard]
theorem eqGuard_bool (op : BinOp) (t : TypeId) (x y : Operand) (m n : Bool) : (eqGuard op t x y (.bool m) (.bool n)).run P w = .ok () w := by
  cases op <;> simp [eqGuard]
theorem bin_int_ok {op : BinOp} {t : TypeId} {k k' : IntKind} {m n : Int} {r : D} (h : binD op (.int k m) (.int k' n) = some r) :
    ∃ v, (binOp op t (.int k m) (.int k' n)).run P w = .ok v w ∧ VRD S r v := by
  by_cases hs : op = .shl ∨ op = .shr
  · rcases hs with rfl | rfl
    · simp only [binD] at h
      split at h
      · cases h
      · rename_i hn
        cases h
        exact ⟨_, by simp [binOp, Op.shift, hn], .int _ _⟩
    · simp only [binD] at h
      split at h
      · cases h
      · rename_i hn
        cases h
        exact ⟨_, by simp [binOp, Op.shift, hn], .int _ _⟩
  · have hk : k = k' := by
      cases op <;> simp [binD] at h hs <;> first | exact h.1 | exact h.1.1
    subst hk
    cases op <;> simp [binD] at h hs
    case quo => obtain ⟨hn, rfl⟩ := h; exact ⟨_, by simp [binOp, Op.intDiv, hn], .int _ _⟩
    case rem => obtain ⟨hn, rfl⟩ := h; exact ⟨_, by simp [binOp, Op.intDiv, hn], .int _ _⟩
    all_goals subst h
    case add => exact ⟨_, by simp [binOp, Op.intArith], .int _ _⟩
    case sub => exact ⟨_, by simp [binOp, Op.intArith], .int _ _⟩
    case mul => exact ⟨_, by simp [binOp, Op.intArith], .int _ _⟩
    case and => exact ⟨_, by simp only [binOp, Op.intBits]; simp, .int _ _⟩
    case or => exact ⟨_, by simp only [binOp, Op.intBits]; simp, .int _ _⟩
    case xor => exact ⟨_, by simp only [binOp, Op.intBits]; simp, .int _ _⟩
    case andNot => exact ⟨_, by simp only [binOp, Op.intBits]; simp, .int _ _⟩
    case eql => exact ⟨_, by simp [binOp, Op.intCmp], .bool _⟩
    case neq => exact ⟨_, by simp [binOp, Op.intCmp], .bool _⟩
    case lss => exact ⟨_, by simp [binOp, Op.intCmp], .bool _⟩
    case leq => exact ⟨_, by simp [binOp, Op.intCmp], .bool _⟩
    case gtr => exact ⟨_, by simp [binOp, Op.intCmp], .bool _⟩
    case geq => exact ⟨_, by simp [binOp, Op.intCmp], .bool _⟩
theorem bin_str_ok {op : BinOp} {t : TypeId} {x y : ByteArray} {r : D} (h : binD op (.str x.data.toList) (.str y.data.toList) = some r) :
    ∃ v, (binOp op t (.string x) (.string y)).run P w = .ok v w ∧ VRD S r v := by
  have e1 : x.toList = x.data.toList := ByteArray.toList_eq x
  have e2 : y.toList = y.data.toList := ByteArray.toList_eq y
  cases op <;> simp only [binD] at h <;> (try (cases h; done))
  case add =>
    split at h
    · rename_i hl
      cases h
      have h3 : ¬ (((x.size + y.size : Nat) : Int) > IntKind.max .i64) := by
        have : x.size + y.size < 4611686018427387904 := by simpa using hl
        simp [IntKind.max, IntKind.signed, IntKind.bits]
        omega
      refine ⟨.string (x ++ y), ?_, .str _ _ (by simp)⟩
      simp only [binOp, Op.stringOp, h3, if_false]
      rfl
    · cases h
  all_goals cases h
  all_goals (refine ⟨_, by simp only [binOp, Op.stringOp, e1, e2]; rfl, .bool _⟩)
theorem bin_ok {op : BinOp} {t : TypeId} {x y r : D} {u v : Value} (hu : VRD S x u) (hv : VRD S y v) (h : binD op x y = some r) (ox oy : Operand) :
    ∃ q, (do eqGuard op t ox oy u v; binOp op t u v : Sem Value).run P w = .ok q w ∧ VRD S r q := by
  cases x with
  | int k m =>
    cases y with
    | int k' n =>
      rw [hu.int_inv, hv.int_inv]
      obtain ⟨q, hq, hr⟩ := bin_int_ok (P := P) (S := S) (w := w) (t := t) h
      exact ⟨q, by simp only [Sem.run_bind, eqGuard_int, Result.andThen_ok, hq], hr⟩
    | _ => simp [binD] at h
  | str m =>
    cases y with
    | str n =>
      obtain ⟨s, rfl, rfl⟩ := hu.str_inv
      obtain ⟨s', rfl, rfl⟩ := hv.str_inv
      obtain ⟨q, hq, hr⟩ := bin_str_ok (P := P) (S := S) (w := w) (t := t) h
      exact ⟨q, by simp only [Sem.run_bind, eqGuard_str, Result.andThen_ok, hq], hr⟩
    | _ => simp [binD] at h
  | _ => simp [binD] at h
theorem eqb_ok {neg : Bool} {op : BinOp} {t : TypeId} {m n : Bool} (ht : P.underlying t = some .bool) (hop : (op = .eql ∧ neg = false) ∨ (op = .neq ∧ neg = true)) (ox oy : Operand) :
    (do eqGuard op t ox oy (.bool m) (.bool n); binOp op t (.bool m) (.bool n) : Sem Value).run P w = .ok (.bool (if neg then !(m == n) else m == n)) w := by
  rcases hop with ⟨rfl, rfl⟩ | ⟨rfl, rfl⟩
  · simp only [Sem.run_bind, eqGuard_bool, Result.andThen_ok, binOp, Op.equal, Op.maxDepth, run_equalIn_bool' w 9999 t m n ht, Sem.run_pure]; rfl
  · simp only [Sem.run_bind, eqGuard_bool, Result.andThen_ok, binOp, Op.equal, Op.maxDepth, run_equalIn_bool' w 9999 t m n ht, Sem.run_pure]; rfl
theorem equalIn_nil (d : Nat) {t e : TypeId} (ht : P.underlying t = some (.slice e)) (b : Option Addr) (m n : Nat) : (Op.equalIn (d + 1) t (.slice b m n) (.slice none 0 0)).run P w = .ok b.isNone w := by
  cases b <;> simp [Op.equalIn, run_underlying ht]
theorem eqGuard_slice (op : BinOp) (t : TypeId) (x y : Operand) (b c : Option Addr) (m n m' n' : Nat) : (eqGuard op t x y (.slice b m n) (.slice c m' n')).run P w = .ok () w := by
  cases op <;> simp [eqGuard]
theorem isnil_ok {neg : Bool} {op : BinOp} {t e : TypeId} (ht : P.underlying t = some (.slice e)) (hop : (op = .eql ∧ neg = false) ∨ (op = .neq ∧ neg = true)) (b : Option Addr) (m n : Nat) (ox oy : Operand) :
    (do eqGuard op t ox oy (.slice b m n) (.slice none 0 0); binOp op t (.slice b m n) (.slice none 0 0) : Sem Value).run P w = .ok (.bool (if neg then !b.isNone else b.isNone)) w := by
  rcases hop with ⟨rfl, rfl⟩ | ⟨rfl, rfl⟩
  · simp only [Sem.run_bind, eqGuard_slice, Result.andThen_ok, binOp, Op.equal, Op.maxDepth, equalIn_nil (w := w) 9999 ht, Sem.run_pure]; rfl
  · simp only [Sem.run_bind, eqGuard_slice, Result.andThen_ok, binOp, Op.equal, Op.maxDepth, equalIn_nil (w := w) 9999 ht, Sem.run_pure]; rfl
theorem VRD.nilS_inv {v : Value} (h : VRD S .nilS v) : v = .slice none 0 0 := by cases h; rfl
theorem VRD.fn_inv {f : FuncId} {v : Value} (h : VRD S (.fn f) v) : v = .func (.func f) #[] #[] := by cases h; rfl
theorem unary_ok_not {b : Bool} : (Op.unary .not (.bool b)).run P w = .ok (.bool (!b)) w := rfl
theorem unary_ok_neg {k : IntKind} {n : Int} : (Op.unary .neg (.int k n)).run P w = .ok (.int k (k.wrap (0 - n))) w := rfl
end
end Go.E2
