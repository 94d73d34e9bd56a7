/-
 Layer 21 (disk): the open writes of the disk of the specification.
 Conditions: of each contract as it says.
-/
import Derived.Test.YtioojmlhmhgeeaaF22ra
namespace Go.Proofs.Ytioojmlhmhgeeaa
open Go Go.E2 C22
set_option linter.unusedSimpArgs false
set_option maxHeartbeats 1000000
def openT (d:Dk) (k:Nat):List Int:=(List.range k).flatMap fun (i:Nat)=>List.replicate (opAt d (i:Int)).length (i:Int)
theorem openT_succ (d:Dk) (k:Nat):openT d (k + 1)=openT d k ++ List.replicate (opAt d (k:Int)).length (k:Int):=by
 unfold openT; rw [List.range_succ,List.flatMap_append]; simp
theorem openT_le (d:Dk):∀ {k n:Nat},k≤n→(openT d k).length≤(openT d n).length:=by
 intro k n h
 induction h with
 | refl=>exact Nat.le_refl _
 | step _ ih=>rw [openT_succ,List.length_append]; omega
theorem rOpen_ok (p:Nat) (d:Dk) (hl:(openL d).length≤1000000000):CallR Try.prog f_zz5 [.gp p 0] [RefA p d] (·=.d (.list ((openL d).map eI))):=by
 refine callR_of_W fol zz5_cp fun R G σ hs=>?_
 obtain ⟨cb,cap,hd⟩:=RefP.open hs
 have hc:=hd.cell
 have hmost:=hd.ok.most
 obtain ⟨cells,hcb,hrow⟩:=hd.row
 have hm:=mostBytes_eq
 have hLT:openL d=openT d d.cs.length:=rfl
 rw [hLT] at hl ⊢
 refine goS trivial ?_
 refine goR trivial ?_
 refine W.loop (fun m st=>∃ k,k≤d.cs.length∧m=d.cs.length - k ∧
  st=(E [(0,.d (.gp p 0)),(3,.own 1 ((openT d k).map eI)),(4,.d (eI k))],HB [],σ,G))
  ⟨_,_,stle,0,by omega,rfl,rfl⟩ ?_
 rintro m st ⟨k,hk,rfl,rfl⟩
 by_cases h1:(k:Int) < (d.cs.length:Int)
 case neg =>
  obtain rfl:k=d.cs.length:=by omega
  (repeat' (first|(with_reducible first|refine W.seq ?_|refine W.block ?_)|((first|(with_reducible first|refine W.reg ?_|refine W.skip ?_|refine W.exit ?_|refine W.ret ?_|refine W.ifc ?_)|((with_reducible first|refine wG_decE (fun _ hG=>?_) (fun _ hG=>?_)|refine wG_decFE (fun _ hG=>?_) (fun _ hG=>?_))<;>(try simp -dsimp only [hG,decide_true,decide_false,not_true_eq_false,not_false_eq_true])<;>clear hG))<;>(try simp -dsimp (disch:=first|omega|(simp only [go_sem]; omega)) only [go_sem,seval,Nat.reduceEqDiff,Nat.reduceLeDiff,hc,h1]))|simp -dsimp (disch:=first|omega|(simp only [go_sem]; omega)) only [go_sem,seval,Nat.reduceEqDiff,Nat.reduceLeDiff,hc,h1]))
  exact Fin.eq rfl ⟨rfl,rfl,rfl⟩
 have hkl:k < d.cs.length:=by omega
 obtain ⟨r1,r2,r3⟩:=rRow hrow hkl
 obtain ⟨c,hcc⟩:∃ c,c=d.cs[k]:=⟨_,rfl⟩
 have hop:opAt d k=c.op:=by rw [opAt_get hkl,hcc]
 rw [← hcc] at r1 r2 r3
 have hsu:=openT_succ d k
 rw [hop] at hsu
 have hle:=openT_le d (Nat.succ_le_of_lt hkl)
 rw [hsu,List.length_append,List.length_replicate] at hle
 (repeat' (first|(with_reducible first|refine W.seq ?_|refine W.block ?_)|((first|(with_reducible first|refine W.reg ?_|refine W.skip ?_|refine W.exit ?_|refine W.ret ?_|refine W.ifc ?_)|((with_reducible first|refine wG_decE (fun _ hG=>?_) (fun _ hG=>?_)|refine wG_decFE (fun _ hG=>?_) (fun _ hG=>?_))<;>(try simp -dsimp only [hG,decide_true,decide_false,not_true_eq_false,not_false_eq_true])<;>clear hG))<;>(try simp -dsimp (disch:=first|omega|(simp only [go_sem]; omega)) only [go_sem,seval,Nat.reduceEqDiff,Nat.reduceLeDiff,hc,h1]))|simp -dsimp (disch:=first|omega|(simp only [go_sem]; omega)) only [go_sem,seval,Nat.reduceEqDiff,Nat.reduceLeDiff,hc,h1]))
 refine W.loop (fun m st=>∃ (j:Nat) (out:List Int),j≤c.op.length∧m=c.op.length - j∧out=openT d k ++ List.replicate j (k:Int) ∧
  st=(E [(0,.d (.gp p 0)),(3,.own 1 (out.map eI)),(4,.d (eI k)),(5,.d (eI j))],HB [],σ,G))
  ⟨_,_,stle,0,openT d k,by omega,rfl,by simp,rfl⟩ ?_
 rintro m st ⟨j,out,hj,rfl,hout,rfl⟩
 have hol:out.length=(openT d k).length + j:=by rw [hout,List.length_append,List.length_replicate]
 by_cases hne:c.op=[]
 case pos =>
  have eop:eL c.op=.nilS:=by unfold eL; rw [if_pos hne]
  rw [eop] at r3
  have hj0:j=0:=by rw [hne] at hj; simpa using hj
  subst hj0
  rw [hne] at hsu
  have hsu2:openT d (k + 1)=out:=by rw [hsu,hout]; rfl
  (repeat' (first|(with_reducible first|refine W.seq ?_|refine W.block ?_)|((first|(with_reducible first|refine W.reg ?_|refine W.skip ?_|refine W.exit ?_|refine W.ret ?_|refine W.ifc ?_)|((with_reducible first|refine wG_decE (fun _ hG=>?_) (fun _ hG=>?_)|refine wG_decFE (fun _ hG=>?_) (fun _ hG=>?_))<;>(try simp -dsimp only [hG,decide_true,decide_false,not_true_eq_false,not_false_eq_true])<;>clear hG))<;>(try simp -dsimp (disch:=first|omega|(simp only [go_sem]; omega)) only [go_sem,seval,Nat.reduceEqDiff,Nat.reduceLeDiff,hc,hcb,r3,Int.toNat_natCast]))|simp -dsimp (disch:=first|omega|(simp only [go_sem]; omega)) only [go_sem,seval,Nat.reduceEqDiff,Nat.reduceLeDiff,hc,hcb,r3,Int.toNat_natCast]))
  refine ⟨_,_,?_,st_le (by (simp -dsimp (disch:=first|omega|(simp only [go_sem]; omega)) only [go_sem,seval,Nat.reduceEqDiff,Nat.reduceLeDiff,hsu2]<;>((repeat' apply And.intro)<;>first|exact VLe.refl _|(apply vle_int; omega)|(apply vle_int; simp; done)|exact VLe.own _ _|exact VLe.nilown _|exact VLe.norm _))),k + 1,by omega,rfl,rfl⟩
  omega
 have eop:eL c.op=.list (c.op.map eS):=by unfold eL; rw [if_neg hne]
 rw [eop] at r3
 by_cases h2:(j:Int) < (c.op.length:Int)
 case pos =>
  have hb:((out.map eI).length + [eI (k:Int)].length) * 8≤mostBytes:=by
   rw [List.length_map,hm]
   show (_ + 1) * 8≤_
   omega
  have hap:appendA 1 8 (.own 1 (out.map eI)) (.list [eI (k:Int)])=some (.own 1 (out.map eI ++ [eI (k:Int)])):=by
   rw [appendA_own 1 8 _ _ hb]; rfl
  (repeat' (first|(with_reducible first|refine W.seq ?_|refine W.block ?_)|((first|(with_reducible first|refine W.reg ?_|refine W.skip ?_|refine W.exit ?_|refine W.ret ?_|refine W.ifc ?_)|((with_reducible first|refine wG_decE (fun _ hG=>?_) (fun _ hG=>?_)|refine wG_decFE (fun _ hG=>?_) (fun _ hG=>?_))<;>(try simp -dsimp only [hG,decide_true,decide_false,not_true_eq_false,not_false_eq_true])<;>clear hG))<;>(try simp -dsimp (disch:=first|omega|(simp only [go_sem]; omega)) only [go_sem,seval,Nat.reduceEqDiff,Nat.reduceLeDiff,hc,hcb,r3,h2,hap,Int.toNat_natCast]))|simp -dsimp (disch:=first|omega|(simp only [go_sem]; omega)) only [go_sem,seval,Nat.reduceEqDiff,Nat.reduceLeDiff,hc,hcb,r3,h2,hap,Int.toNat_natCast]))
  refine ⟨_,_,?_,st_le (by (simp -dsimp (disch:=first|omega|(simp only [go_sem]; omega)) only [go_sem,seval,Nat.reduceEqDiff,Nat.reduceLeDiff,List.map_append,List.map_cons,List.map_nil]<;>((repeat' apply And.intro)<;>first|exact VLe.refl _|(apply vle_int; omega)|(apply vle_int; simp; done)|exact VLe.own _ _|exact VLe.nilown _|exact VLe.norm _))),j + 1,out ++ [(k:Int)],by omega,rfl,by rw [hout,List.append_assoc,List.replicate_succ'],rfl⟩
  omega
 obtain rfl:j=c.op.length:=by omega
 rw [← hsu] at hout
 subst hout
 (repeat' (first|(with_reducible first|refine W.seq ?_|refine W.block ?_)|((first|(with_reducible first|refine W.reg ?_|refine W.skip ?_|refine W.exit ?_|refine W.ret ?_|refine W.ifc ?_)|((with_reducible first|refine wG_decE (fun _ hG=>?_) (fun _ hG=>?_)|refine wG_decFE (fun _ hG=>?_) (fun _ hG=>?_))<;>(try simp -dsimp only [hG,decide_true,decide_false,not_true_eq_false,not_false_eq_true])<;>clear hG))<;>(try simp -dsimp (disch:=first|omega|(simp only [go_sem]; omega)) only [go_sem,seval,Nat.reduceEqDiff,Nat.reduceLeDiff,hc,hcb,r3,h2,Int.toNat_natCast]))|simp -dsimp (disch:=first|omega|(simp only [go_sem]; omega)) only [go_sem,seval,Nat.reduceEqDiff,Nat.reduceLeDiff,hc,hcb,r3,h2,Int.toNat_natCast]))
 refine ⟨_,_,?_,stle,k + 1,by omega,rfl,rfl⟩
 omega
end Go.Proofs.Ytioojmlhmhgeeaa
