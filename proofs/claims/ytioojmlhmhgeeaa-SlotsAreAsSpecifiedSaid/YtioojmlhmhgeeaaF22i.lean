/-
 Layer 21 (disk),continued: the reference's Filled and Same.
 Conditions: of each contract as it says.
-/
import Derived.Test.YtioojmlhmhgeeaaF22f
namespace Go.Proofs.Ytioojmlhmhgeeaa
open Go Go.E2 C22
set_option linter.unusedSimpArgs false
set_option maxHeartbeats 1000000
def byteOf (b:Int):UInt8:=UInt8.ofNat (b % 256).toNat
def filled (b:Int):Sec:=⟨List.replicate 64 (byteOf b),by simp⟩
theorem wrap_byte (b:Int):IntKind.u8.wrap b=((byteOf b).toNat:Int):=by
 have h1:0≤b % 256:=Int.emod_nonneg _ (by omega)
 have h2:b % 256 < 256:=Int.emod_lt_of_pos _ (by omega)
 have e:(byteOf b).toNat=(b % 256).toNat:=by
  unfold byteOf
  rw [UInt8.toNat_ofNat']
  exact Nat.mod_eq_of_lt (by omega)
 rw [e,Int.toNat_of_nonneg h1]
 rfl
theorem Filled_ok (b:Int):CallP Try.prog f_zz20 [.int .i64 b] (·=.d (eS (filled b))):=by
 refine callP_of_W fol zz20_cp ?_
 refine goS trivial ?_
 refine goR trivial ?_
 refine W.loop (fun n st=>∃ (k:Nat) (cs:List D),k≤64∧cs.length=64∧cs.take k=List.replicate k (.int .u8 (byteOf b).toNat)∧cs.all D.one=true∧n=64 - k ∧
  st=(E [(0,.d (.int .i64 b)),(2,.ptr 0 2 1 0),(3,.ptr 0 3 1 0),(4,.d (.int .i64 k))],HB [(2,⟨1,some (zr 64 (.int .u8 0))⟩),(3,⟨1,some cs⟩)],[],noGh))
  ⟨_,_,stle,0,zr 64 (.int .u8 0),by omega,rfl,rfl,rfl,rfl,rfl⟩ ?_
 rintro n st ⟨k,cs,hk,hl,ht,ho,rfl,rfl⟩
 refine goR trivial ?_
 refine wG_dec (fun h1=>?_) (fun h1=>?_)
 · have hk':k < 64:=by omega
   (repeat (first|(with_reducible first|refine W.seq ?_|refine W.block ?_)|((with_reducible first|refine W.reg ?_|refine W.skip ?_|refine W.exit ?_|refine W.ret ?_|refine W.ifc ?_);simp -dsimp (disch:=first|omega|(simp only [go_sem];omega)) only [go_sem,seval,Nat.reduceEqDiff,Nat.reduceLeDiff,wrap_byte,hl,Nat.mul_one])))
   refine wP_mk (by omega) ?_
   simp -dsimp (disch:=first|omega|(simp only [go_sem];omega)) only [go_sem,seval,Nat.reduceEqDiff,Nat.reduceLeDiff,Nat.mul_one]
   refine goR trivial ?_
   refine⟨_,_,?_,stle,k+1,cs.take k ++ [.int .u8 (byteOf b).toNat] ++ cs.drop (k+1),by omega,?_,?_,?_,rfl,rfl⟩
   · omega
   · rw [List.length_append,List.length_append,List.length_take,List.length_drop,hl,List.length_singleton];omega
   · rw [ht,← List.replicate_succ',List.take_append_of_le_length (by simp),List.take_of_length_le (by simp)]
   · rw [List.all_eq_true] at ho ⊢
     intro x hx
     rcases List.mem_append.1 hx with hx|hx
     · rcases List.mem_append.1 hx with hx|hx
       · exact ho x (List.mem_of_mem_take hx)
       · rw [List.mem_singleton.1 hx];rfl
     · exact ho x (List.mem_of_mem_drop hx)
 · obtain rfl:k=64:=by omega
   rw [List.take_of_length_le (by omega)] at ht
   subst ht
   (repeat (first|(with_reducible first|refine W.seq ?_|refine W.block ?_)|((with_reducible first|refine W.reg ?_|refine W.skip ?_|refine W.exit ?_|refine W.ret ?_|refine W.ifc ?_);simp -dsimp (disch:=first|omega|(simp only [go_sem];omega)) only [go_sem,seval,Nat.reduceEqDiff,Nat.reduceLeDiff,List.take_replicate,List.length_replicate,Nat.mul_one])))
   (apply Fin.eq;(focus (simp -dsimp (disch:=first|omega|(simp only [go_sem];omega)) only [go_sem,seval,Nat.reduceEqDiff,Nat.reduceLeDiff]<;>rfl)))
   exact⟨rfl,rfl,rfl⟩
theorem list_ext_up {α:Type} {a b:List α} (hlen:a.length=b.length) (h:∀ i (h1:i < a.length) (h2:i < b.length),a[i]=b[i]):a=b:=List.ext_getElem hlen h
theorem Same_ok (a b:List Int) (hl:a.length≤1000000000) (hl2:b.length≤1000000000):CallP Try.prog f_zz29 [.list (a.map eI),.list (b.map eI)] (·=.d (.bool (decide (a=b)))):=by
 refine callP_of_W fol zz29_cp ?_
 refine goS trivial ?_
 (repeat' (first|(with_reducible first|refine W.seq ?_|refine W.block ?_)|((first|(with_reducible first|refine W.reg ?_|refine W.skip ?_|refine W.exit ?_|refine W.ret ?_|refine W.ifc ?_)|((with_reducible first|refine wG_decE (fun _ hG=>?_) (fun _ hG=>?_)|refine wG_decFE (fun _ hG=>?_) (fun _ hG=>?_))<;>(try simp -dsimp only [hG,decide_true,decide_false,not_true_eq_false,not_false_eq_true])<;>clear hG))<;>(try simp -dsimp (disch:=first|omega|(simp only [go_sem];omega)) only [go_sem,seval,Nat.reduceEqDiff,Nat.reduceLeDiff]))|simp -dsimp (disch:=first|omega|(simp only [go_sem];omega)) only [go_sem,seval,Nat.reduceEqDiff,Nat.reduceLeDiff]))
 · exact Fin.p rfl (bF fun e=>by subst e;omega)
 have hlen:a.length=b.length:=by omega
 refine W.loop (fun n st=>∃ k,k≤a.length∧n=a.length - k∧(∀ j (h1:j < a.length) (h2:j < b.length),j < k→a[j]=b[j]) ∧
  st=(E [(0,.d (.list (a.map eI))),(1,.d (.list (b.map eI))),(5,.d (.int .i64 k))],HB [],[],noGh))
  ⟨_,_,stle,0,by omega,rfl,fun _ _ _ h=>by omega,rfl⟩ ?_
 rintro n st ⟨k,hk,rfl,hlo,rfl⟩
 refine goR trivial ?_
 refine wG_dec (fun h1=>?_) (fun h1=>?_)
 · have hk':k < a.length:=by omega
   have hk2:k < b.length:=by omega
   (repeat' (first|(with_reducible first|refine W.seq ?_|refine W.block ?_)|((first|(with_reducible first|refine W.reg ?_|refine W.skip ?_|refine W.exit ?_|refine W.ret ?_|refine W.ifc ?_)|((with_reducible first|refine wG_decE (fun _ hG=>?_) (fun _ hG=>?_)|refine wG_decFE (fun _ hG=>?_) (fun _ hG=>?_))<;>(try simp -dsimp only [hG,decide_true,decide_false,not_true_eq_false,not_false_eq_true])<;>clear hG))<;>(try simp -dsimp (disch:=first|omega|(simp only [go_sem];omega)) only [go_sem,seval,Nat.reduceEqDiff,Nat.reduceLeDiff,eI_all]))|simp -dsimp (disch:=first|omega|(simp only [go_sem];omega)) only [go_sem,seval,Nat.reduceEqDiff,Nat.reduceLeDiff,eI_all]))
   · refine Fin.p rfl (bF fun e=>?_)
     subst e
     simp at *
   · refine⟨_,_,?_,stle,k+1,?_,rfl,fun j hj hj2 hlt=>?_,rfl⟩
     · omega
     · omega
     · by_cases e:j=k
       · subst e;simp_all
       · exact hlo j hj hj2 (by omega)
 · obtain rfl:k=a.length:=by omega
   refine goR trivial ?_
   exact Fin.p rfl (bT (list_ext_up hlen fun j h1 h2=>hlo j h1 h2 h1))
end Go.Proofs.Ytioojmlhmhgeeaa
/-
 Layer 21 (disk),continued: sanity.
 Conditions: none.
-/
namespace Go.Proofs.Ytioojmlhmhgeeaa
open Go Go.E2 C22
set_option linter.unusedSimpArgs false
set_option maxHeartbeats 1000000
attribute [go_sem] zr_z0
theorem wA:(wr (fresh 4) 2 (filled 1)).2=0:=by decide
end Go.Proofs.Ytioojmlhmhgeeaa
/-
 Layer 21 (disk),continued: possible.
 Conditions: of each contract as it says.
-/
namespace Go.Proofs.Ytioojmlhmhgeeaa
open Go Go.E2 C22
set_option linter.unusedSimpArgs false
set_option maxHeartbeats 1000000
end Go.Proofs.Ytioojmlhmhgeeaa
