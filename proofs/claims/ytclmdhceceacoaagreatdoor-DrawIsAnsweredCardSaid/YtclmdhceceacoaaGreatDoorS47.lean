/-
 Layer 44,plain: the order of numbers by their ranks.
 Conditions: none; laws with no program in sight.
-/
import Derived.Lib.Bytealg
namespace C44
open Go.Lib
theorem cb_self:∀ l:List UInt8,compareBytes l l=0
 | []=>rfl
 | a::l=>by rw [compareBytes,if_neg (UInt8.lt_irrefl a),if_neg (UInt8.lt_irrefl a),cb_self l]
theorem cb_vals:∀ a b:List UInt8,compareBytes a b=-1∨compareBytes a b=0∨compareBytes a b=1
 | [],[]=>.inr (.inl rfl)
 | [],_::_=>.inl rfl
 | _::_,[]=>.inr (.inr rfl)
 | a::as,b::bs=>by
   rw [compareBytes]
   split
   · exact .inl rfl
   · split
     · exact .inr (.inr rfl)
     · exact cb_vals as bs
theorem cb_eq:∀ {a b:List UInt8},compareBytes a b=0→a=b
 | [],[],_=>rfl
 | [],_::_,h=>by cases h
 | _::_,[],h=>by cases h
 | a::as,b::bs,h=>by
   rw [compareBytes] at h
   split at h
   · cases h
   · split at h
     · cases h
     · rename_i h1 h2
       have e:a=b:=UInt8.toNat_inj.1 (by rw [UInt8.lt_iff_toNat_lt] at h1 h2; omega)
       rw [e,cb_eq h]
theorem cb_neg:∀ a b:List UInt8,compareBytes b a=- compareBytes a b
 | [],[]=>rfl
 | [],_::_=>rfl
 | _::_,[]=>rfl
 | a::as,b::bs=>by
   rw [compareBytes,compareBytes]
   by_cases h1:a < b
   · have h2:¬ b < a:=by rw [UInt8.lt_iff_toNat_lt] at h1 ⊢; omega
     rw [if_neg h2,if_pos h1,if_pos h1]; rfl
   · by_cases h2:b < a
     · rw [if_pos h2,if_neg h1,if_pos h2]
     · rw [if_neg h2,if_neg h1,if_neg h1,if_neg h2,cb_neg as bs]
theorem cb_trans:∀ {a b c:List UInt8},compareBytes a b=-1→compareBytes b c=-1→compareBytes a c=-1
 | [],[],_,h,_=>by cases h
 | _,[],[],_,h=>by cases h
 | _::_,[],_::_,h,_=>by cases h
 | [],_::_,[],_,h=>by cases h
 | [],_::_,_::_,_,_=>rfl
 | _::_,_::_,[],_,h=>by cases h
 | a::as,b::bs,c::cs,h,k=>by
   rw [compareBytes] at h k ⊢
   simp only [UInt8.lt_iff_toNat_lt] at h k ⊢
   split at h
   · split at k
     · rw [if_pos (by omega)]
     · split at k
       · cases k
       · rw [if_pos (by omega)]
   · split at h
     · cases h
     · split at k
       · rw [if_pos (by omega)]
       · split at k
         · cases k
         · rw [if_neg (by omega),if_neg (by omega)]
           exact cb_trans h k
def ltR (rk:Nat→List UInt8) (x y:Nat):Prop:=compareBytes (rk x) (rk y)=-1∨compareBytes (rk x) (rk y)=0∧x < y
instance (rk:Nat→List UInt8) (x y:Nat):Decidable (ltR rk x y):=inferInstanceAs (Decidable (_∨_))
theorem ltR_irrefl (rk:Nat→List UInt8) (x:Nat):¬ ltR rk x x:=by
 unfold ltR; rw [cb_self]; omega
theorem ltR_trans {rk:Nat→List UInt8} {x y z:Nat} (h:ltR rk x y) (k:ltR rk y z):ltR rk x z:=by
 unfold ltR at *
 rcases h with h|⟨h,h'⟩<;>rcases k with k|⟨k,k'⟩
 · exact .inl (cb_trans h k)
 · exact .inl (by rw [← cb_eq k]; exact h)
 · exact .inl (by rw [cb_eq h]; exact k)
 · exact .inr ⟨by rw [cb_eq h]; exact k,by omega⟩
theorem ltR_total {rk:Nat→List UInt8} {x y:Nat} (h:¬ ltR rk x y) (k:¬ ltR rk y x):x=y:=by
 unfold ltR at *
 have e:=cb_neg (rk x) (rk y)
 rcases cb_vals (rk x) (rk y) with h1|h1|h1
 · exact absurd (.inl h1) h
 · rw [h1] at e
   by_cases a:x < y
   · exact absurd (.inr ⟨h1,a⟩) h
   · by_cases b:y < x
     · exact absurd (.inr ⟨e,b⟩) k
     · omega
 · rw [h1] at e; exact absurd (.inl e) k
def ordL (rk:Nat→List UInt8) (l:List Nat):List Nat:=l.mergeSort fun x y=>!decide (ltR rk y x)
theorem ordL_perm (rk:Nat→List UInt8) (l:List Nat):(ordL rk l).Perm l:=List.mergeSort_perm _ _
end C44
