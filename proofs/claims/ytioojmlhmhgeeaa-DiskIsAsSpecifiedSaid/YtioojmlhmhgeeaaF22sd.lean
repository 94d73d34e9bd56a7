/-
 Layer 21 (disk): the law DiskIsAsSpecified,walked.
 Conditions: none beyond what the arguments' types allow.
-/
import Derived.Test.YtioojmlhmhgeeaaF22sb
namespace Go.Proofs.Ytioojmlhmhgeeaa
open Go Go.E2 C22
set_option linter.unusedSimpArgs false
set_option maxHeartbeats 4000000
@[go_sem] theorem eOp_all (l:List Rop):(l.map eOp).all (sizeOk 3)=true:=by rw [List.all_eq_true]; intro x hx; obtain ⟨o,_,rfl⟩:=List.mem_map.1 hx; rfl
theorem New_nil (n:Int) (h:n < 1∨65536 < n):CallP Try.prog f_zz37 [.int .i64 n] (·=.d .nilP):=by
 refine callP_of_W fol zz37_cp ?_
 rcases h with h|h
 · have q1:(n < 1)=True:=eq_true h
   refine goS trivial ?_
   (repeat' (first|(with_reducible first|refine W.seq ?_|refine W.block ?_)|((first|(with_reducible first|refine W.reg ?_|refine W.skip ?_|refine W.exit ?_|refine W.ret ?_|refine W.ifc ?_)|((with_reducible first|refine wG_decE (fun _ hG=>?_) (fun _ hG=>?_)|refine wG_decFE (fun _ hG=>?_) (fun _ hG=>?_))<;>(try simp -dsimp only [hG,decide_true,decide_false,not_true_eq_false,not_false_eq_true])<;>clear hG))<;>(try simp -dsimp (disch:=first|omega|(simp only [go_sem]; omega)) only [go_sem,seval,Nat.reduceEqDiff,Nat.reduceLeDiff,q1]))|simp -dsimp (disch:=first|omega|(simp only [go_sem]; omega)) only [go_sem,seval,Nat.reduceEqDiff,Nat.reduceLeDiff,q1]))
   exact Fin.p rfl rfl
 · have q1:(n < 1)=False:=eq_false (by omega)
   have q2:(65536 < n)=True:=eq_true h
   refine goS trivial ?_
   (repeat' (first|(with_reducible first|refine W.seq ?_|refine W.block ?_)|((first|(with_reducible first|refine W.reg ?_|refine W.skip ?_|refine W.exit ?_|refine W.ret ?_|refine W.ifc ?_)|((with_reducible first|refine wG_decE (fun _ hG=>?_) (fun _ hG=>?_)|refine wG_decFE (fun _ hG=>?_) (fun _ hG=>?_))<;>(try simp -dsimp only [hG,decide_true,decide_false,not_true_eq_false,not_false_eq_true])<;>clear hG))<;>(try simp -dsimp (disch:=first|omega|(simp only [go_sem]; omega)) only [go_sem,seval,Nat.reduceEqDiff,Nat.reduceLeDiff,q1,q2]))|simp -dsimp (disch:=first|omega|(simp only [go_sem]; omega)) only [go_sem,seval,Nat.reduceEqDiff,Nat.reduceLeDiff,q1,q2]))
   exact Fin.p rfl rfl
structure Dv (d:Dk) (n k:Nat):Prop where
 ok:Okd d
 len:d.cs.length=n
 st:d.steps≤k
theorem disk_ok (n:Int) (l:List Rop) (hl:∀ o ∈ l,o.b≤9223372036854775807) :
 CallP Try.prog f_zz0 [.int .i64 n,.list (l.map eOp)] (·=.d (.bool true)):=by
 refine CallP.of_deep (callT_of_W fol zz0_cp ?_)
 have hs:Sep ([] ++ []) noGh:=trivial
 by_cases hn:n < 1∨65536 < n
 case pos =>
  have hnil:=(New_nil n hn).q noGh
  have hq:(n < 1)=True∨((n < 1)=False∧(65536 < n)=True):=by
   by_cases h:n < 1
   · exact .inl (eq_true h)
   · exact .inr ⟨eq_false h,eq_true (by omega)⟩
  rcases hq with a1|⟨a1,a2⟩
  · refine goS trivial ?_
    (repeat' (first|(with_reducible first|refine W.seq ?_|refine W.block ?_)|((first|(with_reducible first|refine W.reg ?_|refine W.skip ?_|refine W.exit ?_|refine W.ret ?_|refine W.ifc ?_)|(apply wC_Q (hnil); (focus (simp -dsimp (disch:=first|omega|(simp only [go_sem]; omega)) only [go_sem,seval,Nat.reduceEqDiff,Nat.reduceLeDiff]<;>rfl)); rintro _ rfl)|((with_reducible first|refine wG_decE (fun _ hG=>?_) (fun _ hG=>?_)|refine wG_decFE (fun _ hG=>?_) (fun _ hG=>?_))<;>(try simp -dsimp only [hG,decide_true,decide_false,not_true_eq_false,not_false_eq_true])<;>clear hG))<;>(try simp -dsimp (disch:=first|omega|(simp only [go_sem]; omega)) only [go_sem,seval,Nat.reduceEqDiff,Nat.reduceLeDiff,a1]))|simp -dsimp (disch:=first|omega|(simp only [go_sem]; omega)) only [go_sem,seval,Nat.reduceEqDiff,Nat.reduceLeDiff,a1]))
    (refine goM (sanity21_ok) (hs) ?_)
    rintro _ _ G3 ⟨rfl,rfl⟩ hs3
    refine goS trivial ?_
    (repeat' (first|(with_reducible first|refine W.seq ?_|refine W.block ?_)|((first|(with_reducible first|refine W.reg ?_|refine W.skip ?_|refine W.exit ?_|refine W.ret ?_|refine W.ifc ?_)|((with_reducible first|refine wG_decE (fun _ hG=>?_) (fun _ hG=>?_)|refine wG_decFE (fun _ hG=>?_) (fun _ hG=>?_))<;>(try simp -dsimp only [hG,decide_true,decide_false,not_true_eq_false,not_false_eq_true])<;>clear hG))<;>(try simp -dsimp (disch:=first|omega|(simp only [go_sem]; omega)) only [go_sem,seval,Nat.reduceEqDiff,Nat.reduceLeDiff]))|simp -dsimp (disch:=first|omega|(simp only [go_sem]; omega)) only [go_sem,seval,Nat.reduceEqDiff,Nat.reduceLeDiff]))
    exact Fin.eq rfl ⟨rfl,_,.refl _,rfl⟩
  · refine goS trivial ?_
    (repeat' (first|(with_reducible first|refine W.seq ?_|refine W.block ?_)|((first|(with_reducible first|refine W.reg ?_|refine W.skip ?_|refine W.exit ?_|refine W.ret ?_|refine W.ifc ?_)|(apply wC_Q (hnil); (focus (simp -dsimp (disch:=first|omega|(simp only [go_sem]; omega)) only [go_sem,seval,Nat.reduceEqDiff,Nat.reduceLeDiff]<;>rfl)); rintro _ rfl)|((with_reducible first|refine wG_decE (fun _ hG=>?_) (fun _ hG=>?_)|refine wG_decFE (fun _ hG=>?_) (fun _ hG=>?_))<;>(try simp -dsimp only [hG,decide_true,decide_false,not_true_eq_false,not_false_eq_true])<;>clear hG))<;>(try simp -dsimp (disch:=first|omega|(simp only [go_sem]; omega)) only [go_sem,seval,Nat.reduceEqDiff,Nat.reduceLeDiff,a1,a2]))|simp -dsimp (disch:=first|omega|(simp only [go_sem]; omega)) only [go_sem,seval,Nat.reduceEqDiff,Nat.reduceLeDiff,a1,a2]))
    (refine goM (sanity21_ok) (hs) ?_)
    rintro _ _ G3 ⟨rfl,rfl⟩ hs3
    refine goS trivial ?_
    (repeat' (first|(with_reducible first|refine W.seq ?_|refine W.block ?_)|((first|(with_reducible first|refine W.reg ?_|refine W.skip ?_|refine W.exit ?_|refine W.ret ?_|refine W.ifc ?_)|((with_reducible first|refine wG_decE (fun _ hG=>?_) (fun _ hG=>?_)|refine wG_decFE (fun _ hG=>?_) (fun _ hG=>?_))<;>(try simp -dsimp only [hG,decide_true,decide_false,not_true_eq_false,not_false_eq_true])<;>clear hG))<;>(try simp -dsimp (disch:=first|omega|(simp only [go_sem]; omega)) only [go_sem,seval,Nat.reduceEqDiff,Nat.reduceLeDiff]))|simp -dsimp (disch:=first|omega|(simp only [go_sem]; omega)) only [go_sem,seval,Nat.reduceEqDiff,Nat.reduceLeDiff]))
    exact Fin.eq rfl ⟨rfl,_,.refl _,rfl⟩
 obtain ⟨k,rfl⟩:∃ k:Nat,n=k:=⟨n.toNat,by omega⟩
 have a1:((k:Int) < 1)=False:=eq_false (by omega)
 have a2:((65536:Int) < (k:Int))=False:=eq_false (by omega)
 refine goS trivial ?_
 refine goR trivial ?_
 (refine goM (New_ok (k:Int) (by omega) (by omega)) (hs) ?_)
 rintro _ _ G1 ⟨p,rfl,rfl⟩ hs1
 rw [Int.toNat_natCast] at hs1
 have hs1:Sep (DiskA p (fresh k)::[]) G1:=hs1
 have hh:((200:Int) < (k:Int))=True∨(((200:Int) < (k:Int))=False∧((60:Int) < (l.length:Int))=True)∨(((200:Int) < (k:Int))=False∧((60:Int) < (l.length:Int))=False∧k≤200∧l.length≤60):=by
  by_cases b1:(200:Int) < (k:Int)
  · exact .inl (eq_true b1)
  by_cases b2:(60:Int) < (l.length:Int)
  · exact .inr (.inl ⟨eq_false b1,eq_true b2⟩)
  · exact .inr (.inr ⟨eq_false b1,eq_false b2,by omega,by omega⟩)
 rcases hh with b1|⟨b1,b2⟩|⟨b1,b2,k200,l60⟩
 · refine goS (nn a1 (nn a2 b1)) ?_
   (repeat' (first|(with_reducible first|refine W.seq ?_|refine W.block ?_)|((first|(with_reducible first|refine W.reg ?_|refine W.skip ?_|refine W.exit ?_|refine W.ret ?_|refine W.ifc ?_)|((with_reducible first|refine wG_decE (fun _ hG=>?_) (fun _ hG=>?_)|refine wG_decFE (fun _ hG=>?_) (fun _ hG=>?_))<;>(try simp -dsimp only [hG,decide_true,decide_false,not_true_eq_false,not_false_eq_true])<;>clear hG))<;>(try simp -dsimp (disch:=first|omega|(simp only [go_sem]; omega)) only [go_sem,seval,Nat.reduceEqDiff,Nat.reduceLeDiff,a1,a2,b1]))|simp -dsimp (disch:=first|omega|(simp only [go_sem]; omega)) only [go_sem,seval,Nat.reduceEqDiff,Nat.reduceLeDiff,a1,a2,b1]))
   (refine goM (sanity21_ok) ((show Sep ([] ++ (DiskA p (fresh k)::[])) G1 from hs1)) ?_)
   rintro _ _ G3 ⟨rfl,rfl⟩ hs3
   refine goS trivial ?_
   (repeat' (first|(with_reducible first|refine W.seq ?_|refine W.block ?_)|((first|(with_reducible first|refine W.reg ?_|refine W.skip ?_|refine W.exit ?_|refine W.ret ?_|refine W.ifc ?_)|((with_reducible first|refine wG_decE (fun _ hG=>?_) (fun _ hG=>?_)|refine wG_decFE (fun _ hG=>?_) (fun _ hG=>?_))<;>(try simp -dsimp only [hG,decide_true,decide_false,not_true_eq_false,not_false_eq_true])<;>clear hG))<;>(try simp -dsimp (disch:=first|omega|(simp only [go_sem]; omega)) only [go_sem,seval,Nat.reduceEqDiff,Nat.reduceLeDiff]))|simp -dsimp (disch:=first|omega|(simp only [go_sem]; omega)) only [go_sem,seval,Nat.reduceEqDiff,Nat.reduceLeDiff]))
   exact Fin.eq rfl ⟨rfl,_,.refl _,rfl⟩
 · refine goS (nn a1 (nn a2 (nn b1 b2))) ?_
   (repeat' (first|(with_reducible first|refine W.seq ?_|refine W.block ?_)|((first|(with_reducible first|refine W.reg ?_|refine W.skip ?_|refine W.exit ?_|refine W.ret ?_|refine W.ifc ?_)|((with_reducible first|refine wG_decE (fun _ hG=>?_) (fun _ hG=>?_)|refine wG_decFE (fun _ hG=>?_) (fun _ hG=>?_))<;>(try simp -dsimp only [hG,decide_true,decide_false,not_true_eq_false,not_false_eq_true])<;>clear hG))<;>(try simp -dsimp (disch:=first|omega|(simp only [go_sem]; omega)) only [go_sem,seval,Nat.reduceEqDiff,Nat.reduceLeDiff,a1,a2,b1,b2]))|simp -dsimp (disch:=first|omega|(simp only [go_sem]; omega)) only [go_sem,seval,Nat.reduceEqDiff,Nat.reduceLeDiff,a1,a2,b1,b2]))
   (refine goM (sanity21_ok) ((show Sep ([] ++ (DiskA p (fresh k)::[])) G1 from hs1)) ?_)
   rintro _ _ G3 ⟨rfl,rfl⟩ hs3
   refine goS trivial ?_
   (repeat' (first|(with_reducible first|refine W.seq ?_|refine W.block ?_)|((first|(with_reducible first|refine W.reg ?_|refine W.skip ?_|refine W.exit ?_|refine W.ret ?_|refine W.ifc ?_)|((with_reducible first|refine wG_decE (fun _ hG=>?_) (fun _ hG=>?_)|refine wG_decFE (fun _ hG=>?_) (fun _ hG=>?_))<;>(try simp -dsimp only [hG,decide_true,decide_false,not_true_eq_false,not_false_eq_true])<;>clear hG))<;>(try simp -dsimp (disch:=first|omega|(simp only [go_sem]; omega)) only [go_sem,seval,Nat.reduceEqDiff,Nat.reduceLeDiff]))|simp -dsimp (disch:=first|omega|(simp only [go_sem]; omega)) only [go_sem,seval,Nat.reduceEqDiff,Nat.reduceLeDiff]))
   exact Fin.eq rfl ⟨rfl,_,.refl _,rfl⟩
 have hm:=mostBytes_eq
 refine goS (nn a1 (nn a2 (nn b1 b2))) ?_
 (repeat' (first|(with_reducible first|refine W.seq ?_|refine W.block ?_)|((first|(with_reducible first|refine W.reg ?_|refine W.skip ?_|refine W.exit ?_|refine W.ret ?_|refine W.ifc ?_)|((with_reducible first|refine wG_decE (fun _ hG=>?_) (fun _ hG=>?_)|refine wG_decFE (fun _ hG=>?_) (fun _ hG=>?_))<;>(try simp -dsimp only [hG,decide_true,decide_false,not_true_eq_false,not_false_eq_true])<;>clear hG))<;>(try simp -dsimp (disch:=first|omega|(simp only [go_sem]; omega)) only [go_sem,seval,Nat.reduceEqDiff,Nat.reduceLeDiff,a1,a2,b1,b2]))|simp -dsimp (disch:=first|omega|(simp only [go_sem]; omega)) only [go_sem,seval,Nat.reduceEqDiff,Nat.reduceLeDiff,a1,a2,b1,b2]))
 (refine goM (rNew_ok (k:Int) (by omega) (by omega)) ((show Sep ([] ++ (DiskA p (fresh k)::[])) G1 from hs1)) ?_)
 rintro _ _ G2 ⟨m,rfl,rfl⟩ hs2
 rw [Int.toNat_natCast] at hs2
 have hs2:Sep (DiskA p (fresh k)::RefA m (fresh k)::[]) G2:=hs2.swap
 have hv:vSl3L 3 (some (.list (l.map eOp))) (.d (.int .i64 (l.length:Int))) (.d (.int .i64 (l.length:Int)))=some (.own 3 (l.map eOp)):=by
  rw [vSl3L_list 3 (l.map eOp) _ _ (by rw [List.length_map]) (by rw [List.length_map]),if_pos (eOp_all l)]
 obtain ⟨l2,hl2⟩:∃ l2,l2=l ++ [(⟨9,0,0⟩:Rop)]:=⟨_,rfl⟩
 have hl2l:l2.length=l.length + 1:=by rw [hl2,List.length_append]; rfl
 have hl2m:l.map eOp ++ [D.agg [.int .i64 9,.int .i64 0,.int .i64 0]]=l2.map eOp:=by rw [hl2,List.map_append]; rfl
 have hlb:∀ o ∈ l2,o.b≤9223372036854775807:=by
  intro o ho
  rw [hl2,List.mem_append] at ho
  rcases ho with ho|ho
  · exact hl o ho
  · rw [List.mem_singleton] at ho; subst ho; decide
 refine goS trivial ?_
 (repeat' (first|(with_reducible first|refine W.seq ?_|refine W.block ?_)|((first|(with_reducible first|refine W.reg ?_|refine W.skip ?_|refine W.exit ?_|refine W.ret ?_|refine W.ifc ?_)|((with_reducible first|refine wG_decE (fun _ hG=>?_) (fun _ hG=>?_)|refine wG_decFE (fun _ hG=>?_) (fun _ hG=>?_))<;>(try simp -dsimp only [hG,decide_true,decide_false,not_true_eq_false,not_false_eq_true])<;>clear hG))<;>(try simp -dsimp (disch:=first|omega|(simp only [go_sem]; omega)) only [go_sem,seval,Nat.reduceEqDiff,Nat.reduceLeDiff,hv]))|simp -dsimp (disch:=first|omega|(simp only [go_sem]; omega)) only [go_sem,seval,Nat.reduceEqDiff,Nat.reduceLeDiff,hv]))
 simp only [hl2m]
 have hst0:Dv (fresh k) k 0:=⟨okd_fresh (by omega) (by omega),by simp [fresh],by simp [fresh]⟩
 refine W.loop (fun z st=>∃ (j p m:Nat) (d:Dk) (b8:Blk) (G:Gh),j≤l2.length∧z=l2.length - j∧Dv d k j∧Sep (DiskA p d::RefA m d::[]) G ∧
  st=(E [(0,.d (.int .i64 (k:Int))),(5,.d (.gp p 0)),(6,.d (.gp m 0)),(47,.own 3 (l2.map eOp)),(48,.d (.int .i64 (l2.length:Int))),(49,.d (.int .i64 (j:Int)))],HB [(8,b8)],[],G))
  ⟨_,_,st_leB (by (simp -dsimp (disch:=first|omega|(simp only [go_sem]; omega)) only [go_sem,seval,Nat.reduceEqDiff,Nat.reduceLeDiff,hl2l]<;>((repeat' apply And.intro)<;>first|exact VLe.refl _|(apply vle_int; omega)|(apply vle_int; simp; done)|exact VLe.own _ _|exact VLe.nilown _|exact VLe.norm _))) (HB_pad [] [8] rfl).symm,0,p,m,fresh k,_,G2,by omega,rfl,hst0,hs2,rfl⟩ ?_
 clear hst0 hs2 hs1
 rintro z st ⟨j,p,m,d,b8,G3,hj,rfl,hdv,hs3,rfl⟩
 have hst:=hdv.st
 by_cases h1:(j:Int) < (l2.length:Int)
 case pos =>
  have hj':j < l2.length:=by omega
  have hob:=hlb l2[j] (List.getElem_mem hj')
  have hsame:=same_ok p m d l2[j] (by omega) (by rw [hdv.len]; omega) hob
  obtain ⟨aok,alen,ast⟩:=act_ok (o:=l2[j]) hdv.ok (by omega) hob
  have hoc:(eOp l2[j]).cells=[.int .i64 l2[j].kind,.int .i64 l2[j].a,.int .i64 l2[j].b]:=rfl
  (repeat' (first|(with_reducible first|refine W.seq ?_|refine W.block ?_)|((first|(with_reducible first|refine W.reg ?_|refine W.skip ?_|refine W.exit ?_|refine W.ret ?_|refine W.ifc ?_)|((with_reducible first|refine wG_decE (fun _ hG=>?_) (fun _ hG=>?_)|refine wG_decFE (fun _ hG=>?_) (fun _ hG=>?_))<;>(try simp -dsimp only [hG,decide_true,decide_false,not_true_eq_false,not_false_eq_true])<;>clear hG))<;>(try simp -dsimp (disch:=first|omega|(simp only [go_sem]; omega)) only [go_sem,seval,Nat.reduceEqDiff,Nat.reduceLeDiff,h1]))|simp -dsimp (disch:=first|omega|(simp only [go_sem]; omega)) only [go_sem,seval,Nat.reduceEqDiff,Nat.reduceLeDiff,h1]))
  (refine goM (hsame) ((show Sep ([DiskA p d,RefA m d] ++ []) G3 from hs3)) ?_)
  rintro _ _ G4 ⟨p',m',rfl,rfl⟩ hs4
  have hs4:Sep (DiskA p' (act d l2[j])::RefA m' (act d l2[j])::[]) G4:=hs4
  refine goS trivial ?_
  (repeat' (first|(with_reducible first|refine W.seq ?_|refine W.block ?_)|((first|(with_reducible first|refine W.reg ?_|refine W.skip ?_|refine W.exit ?_|refine W.ret ?_|refine W.ifc ?_)|((with_reducible first|refine wG_decE (fun _ hG=>?_) (fun _ hG=>?_)|refine wG_decFE (fun _ hG=>?_) (fun _ hG=>?_))<;>(try simp -dsimp only [hG,decide_true,decide_false,not_true_eq_false,not_false_eq_true])<;>clear hG))<;>(try simp -dsimp (disch:=first|omega|(simp only [go_sem]; omega)) only [go_sem,seval,Nat.reduceEqDiff,Nat.reduceLeDiff]))|simp -dsimp (disch:=first|omega|(simp only [go_sem]; omega)) only [go_sem,seval,Nat.reduceEqDiff,Nat.reduceLeDiff]))
  refine ⟨_,_,?_,stleB rfl,j + 1,p',m',act d l2[j],_,G4,by omega,rfl,⟨aok,by rw [alen,hdv.len],by omega⟩,hs4,rfl⟩
  omega
 obtain rfl:j=l2.length:=by omega
 (repeat' (first|(with_reducible first|refine W.seq ?_|refine W.block ?_)|((first|(with_reducible first|refine W.reg ?_|refine W.skip ?_|refine W.exit ?_|refine W.ret ?_|refine W.ifc ?_)|((with_reducible first|refine wG_decE (fun _ hG=>?_) (fun _ hG=>?_)|refine wG_decFE (fun _ hG=>?_) (fun _ hG=>?_))<;>(try simp -dsimp only [hG,decide_true,decide_false,not_true_eq_false,not_false_eq_true])<;>clear hG))<;>(try simp -dsimp (disch:=first|omega|(simp only [go_sem]; omega)) only [go_sem,seval,Nat.reduceEqDiff,Nat.reduceLeDiff,h1]))|simp -dsimp (disch:=first|omega|(simp only [go_sem]; omega)) only [go_sem,seval,Nat.reduceEqDiff,Nat.reduceLeDiff,h1]))
 refine W.loop (fun z st=>∃ (i:Nat) (b8 b11 b13:Blk),i≤k∧z=k - i ∧
  st=(E [(5,.d (.gp p 0)),(6,.d (.gp m 0)),(64,.d (.int .i64 (k:Int))),(65,.d (.int .i64 (i:Int)))],HB [(8,b8),(11,b11),(13,b13)],[],G3))
  ⟨_,_,stleB (HB_pad [(8,b8)] [11,13] rfl).symm,0,b8,_,_,by omega,rfl,rfl⟩ ?_
 rintro z st ⟨i,b8,b11,b13,hi,rfl,rfl⟩
 by_cases h2:(i:Int) < (k:Int)
 case neg =>
  (repeat' (first|(with_reducible first|refine W.seq ?_|refine W.block ?_)|((first|(with_reducible first|refine W.reg ?_|refine W.skip ?_|refine W.exit ?_|refine W.ret ?_|refine W.ifc ?_)|((with_reducible first|refine wG_decE (fun _ hG=>?_) (fun _ hG=>?_)|refine wG_decFE (fun _ hG=>?_) (fun _ hG=>?_))<;>(try simp -dsimp only [hG,decide_true,decide_false,not_true_eq_false,not_false_eq_true])<;>clear hG))<;>(try simp -dsimp (disch:=first|omega|(simp only [go_sem]; omega)) only [go_sem,seval,Nat.reduceEqDiff,Nat.reduceLeDiff,h2]))|simp -dsimp (disch:=first|omega|(simp only [go_sem]; omega)) only [go_sem,seval,Nat.reduceEqDiff,Nat.reduceLeDiff,h2]))
  (refine goM (sanity21_ok) ((show Sep ([] ++ (DiskA p d::RefA m d::[])) G3 from hs3)) ?_)
  rintro _ _ G5 ⟨rfl,rfl⟩ hs5
  refine goS trivial ?_
  (repeat' (first|(with_reducible first|refine W.seq ?_|refine W.block ?_)|((first|(with_reducible first|refine W.reg ?_|refine W.skip ?_|refine W.exit ?_|refine W.ret ?_|refine W.ifc ?_)|((with_reducible first|refine wG_decE (fun _ hG=>?_) (fun _ hG=>?_)|refine wG_decFE (fun _ hG=>?_) (fun _ hG=>?_))<;>(try simp -dsimp only [hG,decide_true,decide_false,not_true_eq_false,not_false_eq_true])<;>clear hG))<;>(try simp -dsimp (disch:=first|omega|(simp only [go_sem]; omega)) only [go_sem,seval,Nat.reduceEqDiff,Nat.reduceLeDiff]))|simp -dsimp (disch:=first|omega|(simp only [go_sem]; omega)) only [go_sem,seval,Nat.reduceEqDiff,Nat.reduceLeDiff]))
  exact Fin.eq rfl ⟨rfl,_,.refl _,rfl⟩
 have hp:=(Read_ok p d (i:Int)).q hs3
 have hq:=(rRead_ok m d (i:Int)).q hs3.swap
 obtain ⟨s,e,hse⟩:∃ s e,(s,e)=rd d (i:Int):=⟨_,_,rfl⟩
 rw [← hse] at hp hq
 unfold eGot at hq
 simp only at hp hq
 have hl:=qCel_len s (.int .i64 e)
 have h64:=qCel_64 s (.int .i64 e)
 have h00:=qCel_0 s (.int .i64 e)
 (repeat' (first|(with_reducible first|refine W.seq ?_|refine W.block ?_)|((first|(with_reducible first|refine W.reg ?_|refine W.skip ?_|refine W.exit ?_|refine W.ret ?_|refine W.ifc ?_)|(apply wC_Q (hp); (focus (simp -dsimp (disch:=first|omega|(simp only [go_sem]; omega)) only [go_sem,seval,Nat.reduceEqDiff,Nat.reduceLeDiff]<;>rfl)); rintro _ rfl)|(apply wC_Q (hq); (focus (simp -dsimp (disch:=first|omega|(simp only [go_sem]; omega)) only [go_sem,seval,Nat.reduceEqDiff,Nat.reduceLeDiff]<;>rfl)); rintro _ rfl)|((with_reducible first|refine wG_decE (fun _ hG=>?_) (fun _ hG=>?_)|refine wG_decFE (fun _ hG=>?_) (fun _ hG=>?_))<;>(try simp -dsimp only [hG,decide_true,decide_false,not_true_eq_false,not_false_eq_true])<;>clear hG))<;>(try simp -dsimp (disch:=first|omega|(simp only [go_sem]; omega)) only [go_sem,seval,Nat.reduceEqDiff,Nat.reduceLeDiff,h2,hl,h64,h00]))|simp -dsimp (disch:=first|omega|(simp only [go_sem]; omega)) only [go_sem,seval,Nat.reduceEqDiff,Nat.reduceLeDiff,h2,hl,h64,h00]))
 refine ⟨_,_,?_,stleB rfl,i + 1,_,_,_,by omega,rfl,rfl⟩
 omega
end Go.Proofs.Ytioojmlhmhgeeaa
