/-
 Layer 21 (disk): a call on both disks.
 Conditions: of each contract as it says.
-/
import Derived.Test.YtioojmlhmhgeeaaF22i
import Derived.Test.YtioojmlhmhgeeaaF22re
import Derived.Test.YtioojmlhmhgeeaaF22sc
import Derived.Test.YtioojmlhmhgeeaaS22v
namespace Go.Proofs.Ytioojmlhmhgeeaa
open Go Go.E2 C22
set_option linter.unusedSimpArgs false
set_option maxHeartbeats 4000000
theorem qCel_len (s:Sec) (x:D):(s.1.map eB ++ [x]).length=65:=by rw [List.length_append,sec_len]; rfl
theorem qCel_64 (s:Sec) (x:D):(List.drop 64 (s.1.map eB ++ [x])).head?=some x:=by rw [List.drop_left' (sec_len s)]; rfl
theorem qCel_0 (s:Sec) (x:D):List.take 64 (s.1.map eB ++ [x])=s.1.map eB:=List.take_left' (sec_len s)
structure Rop where
 kind:Int
 a:Int
 b:Int
def eOp (o:Rop):D:=.agg [.int .i64 o.kind,.int .i64 o.a,.int .i64 o.b]
attribute [go_sem] eOp
def act (d:Dk) (o:Rop):Dk :=
 if o.kind=0 then (wr d o.a (filled o.b)).1 else if o.kind=1 then (sy d).1 else if o.kind=3 then arm d o.b else if o.kind=4 then crash d [o.a,o.b] else
 if o.kind=5 then (flp d o.a o.b).1 else if o.kind=6 then (rot d o.a).1 else d
theorem act_ok {d:Dk} {o:Rop} (h:Okd d) (hn:d.steps≤1000000) (hb:o.b≤9223372036854775807):Okd (act d o)∧(act d o).cs.length=d.cs.length∧(act d o).steps≤d.steps + 1:=by
 unfold act
 split
 · exact ⟨(wr_ok h (by omega) _ _).1,wr_len _ _ _,(wr_ok h (by omega) _ _).2⟩
 split
 · exact ⟨(sy_ok h (by omega)).1,sy_len _,(sy_ok h (by omega)).2⟩
 split
 · exact ⟨arm_ok h hb,rfl,by show d.steps≤_; omega⟩
 split
 · refine ⟨(crash_ok h _).1,crash_len _ _,?_⟩
   have:=h.st
   show (0:Int)≤_; omega
 split
 · exact ⟨(flp_ok h _ _).1,flp_len _ _ _,by rw [(flp_ok h _ _).2]; omega⟩
 split
 · exact ⟨(rot_ok h _).1,rot_len _ _,by rw [(rot_ok h _).2]; omega⟩
 · exact ⟨h,rfl,by omega⟩
theorem same_ok (p q:Nat) (d:Dk) (o:Rop) (hn:d.steps≤900) (hcl:d.cs.length≤200) (hb:o.b≤9223372036854775807) :
 CallS Try.prog f_zz16 [.gp p 0,.gp q 0,eOp o] [DiskA p d,RefA q d] (fun r post=>∃ p' q',r=.tup [.gp p' 0,.gp q' 0,.bool true]∧post=[DiskA p' (act d o),RefA q' (act d o)]):=by
 refine callS_of_W fol zz16_cp fun R G σ hs=>?_
 have hok0:Okd d:=by obtain ⟨_,_,_,_,h⟩:=DiskP.open hs; exact h.ok
 obtain ⟨aok,alen,ast⟩:=act_ok (o:=o) hok0 (by omega) hb
 refine goS trivial ?_
 refine W.cut (fun st=>st=(E [(0,.d (.gp p 0)),(1,.d (.gp q 0)),(5,.ptr 0 5 1 0)],HB [(5,⟨1,some [.int .i64 o.kind,.int .i64 o.a,.int .i64 o.b]⟩)],σ,G)) ?_ ?_
 · refine goR trivial ?_
   exact ⟨_,stleB rfl,rfl⟩
 rintro _ rfl
 refine W.cut (fun st=>∃ (p' q':Nat) (G':Gh),Sep (DiskA p' (act d o)::RefA q' (act d o)::R) G'∧st=(E [(0,.d (.gp p' 0)),(1,.d (.gp q' 0))],HB [(5,⟨1,some [.int .i64 o.kind,.int .i64 o.a,.int .i64 o.b]⟩)],σ,G')) ?_ ?_
 rotate_left
 · rintro _ ⟨p',q',G',hs2,rfl⟩
   generalize act d o=d2 at *
   have hol:=open_bound aok (by omega) (by omega)
   obtain ⟨cb,cap,hr⟩:=RefP.open hs2.swap
   have hc:=hr.cell
   have hsz:=(Size_ok p' d2).q hs2
   have hst:=(Steps_ok p' d2).q hs2
   have hdn:=(Down_ok p' d2).q hs2
   (repeat' (first|(with_reducible first|refine W.seq ?_|refine W.block ?_)|((first|(with_reducible first|refine W.reg ?_|refine W.skip ?_|refine W.exit ?_|refine W.ret ?_|refine W.ifc ?_)|(apply wC_Q (hsz); (focus (simp -dsimp (disch:=first|omega|(simp only [go_sem]; omega)) only [go_sem,seval,Nat.reduceEqDiff,Nat.reduceLeDiff]<;>rfl)); rintro _ rfl)|(apply wC_Q (hst); (focus (simp -dsimp (disch:=first|omega|(simp only [go_sem]; omega)) only [go_sem,seval,Nat.reduceEqDiff,Nat.reduceLeDiff]<;>rfl)); rintro _ rfl)|(apply wC_Q (hdn); (focus (simp -dsimp (disch:=first|omega|(simp only [go_sem]; omega)) only [go_sem,seval,Nat.reduceEqDiff,Nat.reduceLeDiff]<;>rfl)); rintro _ rfl)|((with_reducible first|refine wG_decE (fun _ hG=>?_) (fun _ hG=>?_)|refine wG_decFE (fun _ hG=>?_) (fun _ hG=>?_))<;>(try simp -dsimp only [hG,decide_true,decide_false,not_true_eq_false,not_false_eq_true])<;>clear hG))<;>(try simp -dsimp (disch:=first|omega|(simp only [go_sem]; omega)) only [go_sem,seval,Nat.reduceEqDiff,Nat.reduceLeDiff,hc]))|simp -dsimp (disch:=first|omega|(simp only [go_sem]; omega)) only [go_sem,seval,Nat.reduceEqDiff,Nat.reduceLeDiff,hc]))
   refine wC_gx0 (Q:=fun r G''=>r=.d (.list ((openL d2).map eI))∧GExt G' G'') (openG_ok p' d2 (by omega) hs2) (fun _ _ h=>h.2) (by simp -dsimp (disch:=first|omega|(simp only [go_sem]; omega)) only [go_sem,seval,Nat.reduceEqDiff,Nat.reduceLeDiff]) (by simp -dsimp (disch:=first|omega|(simp only [go_sem]; omega)) only [go_sem,seval,Nat.reduceEqDiff,Nat.reduceLeDiff]) ?_
   rintro _ G3 ⟨rfl,hext⟩
   have hs3:=hs2.mono ⟨hext.1,hext.2⟩
   have hro:=(rOpen_ok q' d2 (by omega)).q hs3.swap
   have hsame:=Same_ok (openL d2) (openL d2) (by omega) (by omega)
   rw [decide_eq_true rfl] at hsame
   refine goS trivial ?_
   (repeat' (first|(with_reducible first|refine W.seq ?_|refine W.block ?_)|((first|(with_reducible first|refine W.reg ?_|refine W.skip ?_|refine W.exit ?_|refine W.ret ?_|refine W.ifc ?_)|(apply wC_Q (hro); (focus (simp -dsimp (disch:=first|omega|(simp only [go_sem]; omega)) only [go_sem,seval,Nat.reduceEqDiff,Nat.reduceLeDiff]<;>rfl)); rintro _ rfl)|(apply wC_P (hsame); (focus (simp -dsimp (disch:=first|omega|(simp only [go_sem]; omega)) only [go_sem,seval,Nat.reduceEqDiff,Nat.reduceLeDiff]<;>rfl)); rintro _ rfl)|((with_reducible first|refine wG_decE (fun _ hG=>?_) (fun _ hG=>?_)|refine wG_decFE (fun _ hG=>?_) (fun _ hG=>?_))<;>(try simp -dsimp only [hG,decide_true,decide_false,not_true_eq_false,not_false_eq_true])<;>clear hG))<;>(try simp -dsimp (disch:=first|omega|(simp only [go_sem]; omega)) only [go_sem,seval,Nat.reduceEqDiff,Nat.reduceLeDiff,eq_self]))|simp -dsimp (disch:=first|omega|(simp only [go_sem]; omega)) only [go_sem,seval,Nat.reduceEqDiff,Nat.reduceLeDiff,eq_self]))
   exact Fin.eq rfl ⟨rfl,_,⟨p',q',rfl,rfl⟩,hs3⟩
 by_cases h0:o.kind=0
 case pos =>
  have hact:act d o=(wr d o.a (filled o.b)).1:=by unfold act; rw [if_pos h0]
  (repeat' (first|(with_reducible first|refine W.seq ?_|refine W.block ?_)|((first|(with_reducible first|refine W.reg ?_|refine W.skip ?_|refine W.exit ?_|refine W.ret ?_|refine W.ifc ?_)|(apply wC_P (Filled_ok o.b); (focus (simp -dsimp (disch:=first|omega|(simp only [go_sem]; omega)) only [go_sem,seval,Nat.reduceEqDiff,Nat.reduceLeDiff]<;>rfl)); rintro _ rfl)|((with_reducible first|refine wG_decE (fun _ hG=>?_) (fun _ hG=>?_)|refine wG_decFE (fun _ hG=>?_) (fun _ hG=>?_))<;>(try simp -dsimp only [hG,decide_true,decide_false,not_true_eq_false,not_false_eq_true])<;>clear hG))<;>(try simp -dsimp (disch:=first|omega|(simp only [go_sem]; omega)) only [go_sem,seval,Nat.reduceEqDiff,Nat.reduceLeDiff,h0]))|simp -dsimp (disch:=first|omega|(simp only [go_sem]; omega)) only [go_sem,seval,Nat.reduceEqDiff,Nat.reduceLeDiff,h0]))
  (refine goM (Write_ok p d o.a (filled o.b) (by omega)) (hs) ?_)
  rintro _ _ G1 ⟨rfl,rfl⟩ hs1
  have hs1:Sep (DiskA p (wr d o.a (filled o.b)).1::RefA q d::R) G1:=hs1
  (repeat' (first|(with_reducible first|refine W.seq ?_|refine W.block ?_)|((first|(with_reducible first|refine W.reg ?_|refine W.skip ?_|refine W.exit ?_|refine W.ret ?_|refine W.ifc ?_)|(apply wC_P (Filled_ok o.b); (focus (simp -dsimp (disch:=first|omega|(simp only [go_sem]; omega)) only [go_sem,seval,Nat.reduceEqDiff,Nat.reduceLeDiff]<;>rfl)); rintro _ rfl)|((with_reducible first|refine wG_decE (fun _ hG=>?_) (fun _ hG=>?_)|refine wG_decFE (fun _ hG=>?_) (fun _ hG=>?_))<;>(try simp -dsimp only [hG,decide_true,decide_false,not_true_eq_false,not_false_eq_true])<;>clear hG))<;>(try simp -dsimp (disch:=first|omega|(simp only [go_sem]; omega)) only [go_sem,seval,Nat.reduceEqDiff,Nat.reduceLeDiff]))|simp -dsimp (disch:=first|omega|(simp only [go_sem]; omega)) only [go_sem,seval,Nat.reduceEqDiff,Nat.reduceLeDiff]))
  (refine goM (rWrite_ok q d o.a (filled o.b) (by omega)) (hs1.swap) ?_)
  rintro _ _ G2 ⟨rfl,rfl⟩ hs2
  have hs2:Sep (RefA q (wr d o.a (filled o.b)).1::DiskA p (wr d o.a (filled o.b)).1::R) G2:=hs2
  (repeat' (first|(with_reducible first|refine W.seq ?_|refine W.block ?_)|((first|(with_reducible first|refine W.reg ?_|refine W.skip ?_|refine W.exit ?_|refine W.ret ?_|refine W.ifc ?_)|((with_reducible first|refine wG_decE (fun _ hG=>?_) (fun _ hG=>?_)|refine wG_decFE (fun _ hG=>?_) (fun _ hG=>?_))<;>(try simp -dsimp only [hG,decide_true,decide_false,not_true_eq_false,not_false_eq_true])<;>clear hG))<;>(try simp -dsimp (disch:=first|omega|(simp only [go_sem]; omega)) only [go_sem,seval,Nat.reduceEqDiff,Nat.reduceLeDiff,eq_self]))|simp -dsimp (disch:=first|omega|(simp only [go_sem]; omega)) only [go_sem,seval,Nat.reduceEqDiff,Nat.reduceLeDiff,eq_self]))
  exact Fin.eq rfl ⟨rfl,_,⟨p,q,rfl,by rw [hact]⟩,hs2.swap⟩
 by_cases h1:o.kind=1
 case pos =>
  have hact:act d o=(sy d).1:=by unfold act; rw [if_neg (by omega),if_pos h1]
  (repeat' (first|(with_reducible first|refine W.seq ?_|refine W.block ?_)|((first|(with_reducible first|refine W.reg ?_|refine W.skip ?_|refine W.exit ?_|refine W.ret ?_|refine W.ifc ?_)|((with_reducible first|refine wG_decE (fun _ hG=>?_) (fun _ hG=>?_)|refine wG_decFE (fun _ hG=>?_) (fun _ hG=>?_))<;>(try simp -dsimp only [hG,decide_true,decide_false,not_true_eq_false,not_false_eq_true])<;>clear hG))<;>(try simp -dsimp (disch:=first|omega|(simp only [go_sem]; omega)) only [go_sem,seval,Nat.reduceEqDiff,Nat.reduceLeDiff,h1]))|simp -dsimp (disch:=first|omega|(simp only [go_sem]; omega)) only [go_sem,seval,Nat.reduceEqDiff,Nat.reduceLeDiff,h1]))
  (refine goM (Sync_ok p d (by omega)) (hs) ?_)
  rintro _ _ G1 ⟨rfl,rfl⟩ hs1
  have hs1:Sep (DiskA p (sy d).1::RefA q d::R) G1:=hs1
  (repeat' (first|(with_reducible first|refine W.seq ?_|refine W.block ?_)|((first|(with_reducible first|refine W.reg ?_|refine W.skip ?_|refine W.exit ?_|refine W.ret ?_|refine W.ifc ?_)|((with_reducible first|refine wG_decE (fun _ hG=>?_) (fun _ hG=>?_)|refine wG_decFE (fun _ hG=>?_) (fun _ hG=>?_))<;>(try simp -dsimp only [hG,decide_true,decide_false,not_true_eq_false,not_false_eq_true])<;>clear hG))<;>(try simp -dsimp (disch:=first|omega|(simp only [go_sem]; omega)) only [go_sem,seval,Nat.reduceEqDiff,Nat.reduceLeDiff]))|simp -dsimp (disch:=first|omega|(simp only [go_sem]; omega)) only [go_sem,seval,Nat.reduceEqDiff,Nat.reduceLeDiff]))
  (refine goM (rSync_ok q d (by omega)) (hs1.swap) ?_)
  rintro _ _ G2 ⟨rfl,rfl⟩ hs2
  have hs2:Sep (RefA q (sy d).1::DiskA p (sy d).1::R) G2:=hs2
  (repeat' (first|(with_reducible first|refine W.seq ?_|refine W.block ?_)|((first|(with_reducible first|refine W.reg ?_|refine W.skip ?_|refine W.exit ?_|refine W.ret ?_|refine W.ifc ?_)|((with_reducible first|refine wG_decE (fun _ hG=>?_) (fun _ hG=>?_)|refine wG_decFE (fun _ hG=>?_) (fun _ hG=>?_))<;>(try simp -dsimp only [hG,decide_true,decide_false,not_true_eq_false,not_false_eq_true])<;>clear hG))<;>(try simp -dsimp (disch:=first|omega|(simp only [go_sem]; omega)) only [go_sem,seval,Nat.reduceEqDiff,Nat.reduceLeDiff,eq_self]))|simp -dsimp (disch:=first|omega|(simp only [go_sem]; omega)) only [go_sem,seval,Nat.reduceEqDiff,Nat.reduceLeDiff,eq_self]))
  exact Fin.eq rfl ⟨rfl,_,⟨p,q,rfl,by rw [hact]⟩,hs2.swap⟩
 by_cases h2:o.kind=2
 case pos =>
  have hact:act d o=d:=by unfold act; rw [if_neg (by omega),if_neg (by omega),if_neg (by omega),if_neg (by omega),if_neg (by omega),if_neg (by omega)]
  have hp:=(Read_ok p d o.a).q hs
  have hq:=(rRead_ok q d o.a).q hs.swap
  obtain ⟨s,e,hse⟩:∃ s e,(s,e)=rd d o.a:=⟨_,_,rfl⟩
  rw [← hse] at hp hq
  unfold eGot at hq
  simp only at hp hq
  have hl:=qCel_len s (.int .i64 e)
  have h64:=qCel_64 s (.int .i64 e)
  have h00:=qCel_0 s (.int .i64 e)
  (repeat' (first|(with_reducible first|refine W.seq ?_|refine W.block ?_)|((first|(with_reducible first|refine W.reg ?_|refine W.skip ?_|refine W.exit ?_|refine W.ret ?_|refine W.ifc ?_)|(apply wC_Q (hp); (focus (simp -dsimp (disch:=first|omega|(simp only [go_sem]; omega)) only [go_sem,seval,Nat.reduceEqDiff,Nat.reduceLeDiff]<;>rfl)); rintro _ rfl)|(apply wC_Q (hq); (focus (simp -dsimp (disch:=first|omega|(simp only [go_sem]; omega)) only [go_sem,seval,Nat.reduceEqDiff,Nat.reduceLeDiff]<;>rfl)); rintro _ rfl)|((with_reducible first|refine wG_decE (fun _ hG=>?_) (fun _ hG=>?_)|refine wG_decFE (fun _ hG=>?_) (fun _ hG=>?_))<;>(try simp -dsimp only [hG,decide_true,decide_false,not_true_eq_false,not_false_eq_true])<;>clear hG))<;>(try simp -dsimp (disch:=first|omega|(simp only [go_sem]; omega)) only [go_sem,seval,Nat.reduceEqDiff,Nat.reduceLeDiff,h2,hl,h64,h00]))|simp -dsimp (disch:=first|omega|(simp only [go_sem]; omega)) only [go_sem,seval,Nat.reduceEqDiff,Nat.reduceLeDiff,h2,hl,h64,h00]))
  exact Fin.eq rfl ⟨rfl,_,⟨p,q,rfl,by rw [hact]⟩,hs⟩
 by_cases h5:o.kind=5
 case pos =>
  have hact:act d o=(flp d o.a o.b).1:=by unfold act; rw [if_neg (by omega),if_neg (by omega),if_neg (by omega),if_neg (by omega),if_pos h5]
  (repeat' (first|(with_reducible first|refine W.seq ?_|refine W.block ?_)|((first|(with_reducible first|refine W.reg ?_|refine W.skip ?_|refine W.exit ?_|refine W.ret ?_|refine W.ifc ?_)|((with_reducible first|refine wG_decE (fun _ hG=>?_) (fun _ hG=>?_)|refine wG_decFE (fun _ hG=>?_) (fun _ hG=>?_))<;>(try simp -dsimp only [hG,decide_true,decide_false,not_true_eq_false,not_false_eq_true])<;>clear hG))<;>(try simp -dsimp (disch:=first|omega|(simp only [go_sem]; omega)) only [go_sem,seval,Nat.reduceEqDiff,Nat.reduceLeDiff,h5]))|simp -dsimp (disch:=first|omega|(simp only [go_sem]; omega)) only [go_sem,seval,Nat.reduceEqDiff,Nat.reduceLeDiff,h5]))
  (refine goM (Flip_ok p d o.a o.b) (hs) ?_)
  rintro _ _ G1 ⟨rfl,rfl⟩ hs1
  have hs1:Sep (DiskA p (flp d o.a o.b).1::RefA q d::R) G1:=hs1
  (repeat' (first|(with_reducible first|refine W.seq ?_|refine W.block ?_)|((first|(with_reducible first|refine W.reg ?_|refine W.skip ?_|refine W.exit ?_|refine W.ret ?_|refine W.ifc ?_)|((with_reducible first|refine wG_decE (fun _ hG=>?_) (fun _ hG=>?_)|refine wG_decFE (fun _ hG=>?_) (fun _ hG=>?_))<;>(try simp -dsimp only [hG,decide_true,decide_false,not_true_eq_false,not_false_eq_true])<;>clear hG))<;>(try simp -dsimp (disch:=first|omega|(simp only [go_sem]; omega)) only [go_sem,seval,Nat.reduceEqDiff,Nat.reduceLeDiff]))|simp -dsimp (disch:=first|omega|(simp only [go_sem]; omega)) only [go_sem,seval,Nat.reduceEqDiff,Nat.reduceLeDiff]))
  (refine goM (rFlip_ok q d o.a o.b) (hs1.swap) ?_)
  rintro _ _ G2 ⟨rfl,rfl⟩ hs2
  have hs2:Sep (RefA q (flp d o.a o.b).1::DiskA p (flp d o.a o.b).1::R) G2:=hs2
  (repeat' (first|(with_reducible first|refine W.seq ?_|refine W.block ?_)|((first|(with_reducible first|refine W.reg ?_|refine W.skip ?_|refine W.exit ?_|refine W.ret ?_|refine W.ifc ?_)|((with_reducible first|refine wG_decE (fun _ hG=>?_) (fun _ hG=>?_)|refine wG_decFE (fun _ hG=>?_) (fun _ hG=>?_))<;>(try simp -dsimp only [hG,decide_true,decide_false,not_true_eq_false,not_false_eq_true])<;>clear hG))<;>(try simp -dsimp (disch:=first|omega|(simp only [go_sem]; omega)) only [go_sem,seval,Nat.reduceEqDiff,Nat.reduceLeDiff,eq_self]))|simp -dsimp (disch:=first|omega|(simp only [go_sem]; omega)) only [go_sem,seval,Nat.reduceEqDiff,Nat.reduceLeDiff,eq_self]))
  exact Fin.eq rfl ⟨rfl,_,⟨p,q,rfl,by rw [hact]⟩,hs2.swap⟩
 by_cases h6:o.kind=6
 case pos =>
  have hact:act d o=(rot d o.a).1:=by unfold act; rw [if_neg (by omega),if_neg (by omega),if_neg (by omega),if_neg (by omega),if_neg (by omega),if_pos h6]
  (repeat' (first|(with_reducible first|refine W.seq ?_|refine W.block ?_)|((first|(with_reducible first|refine W.reg ?_|refine W.skip ?_|refine W.exit ?_|refine W.ret ?_|refine W.ifc ?_)|((with_reducible first|refine wG_decE (fun _ hG=>?_) (fun _ hG=>?_)|refine wG_decFE (fun _ hG=>?_) (fun _ hG=>?_))<;>(try simp -dsimp only [hG,decide_true,decide_false,not_true_eq_false,not_false_eq_true])<;>clear hG))<;>(try simp -dsimp (disch:=first|omega|(simp only [go_sem]; omega)) only [go_sem,seval,Nat.reduceEqDiff,Nat.reduceLeDiff,h6]))|simp -dsimp (disch:=first|omega|(simp only [go_sem]; omega)) only [go_sem,seval,Nat.reduceEqDiff,Nat.reduceLeDiff,h6]))
  (refine goM (Rot_ok p d o.a) (hs) ?_)
  rintro _ _ G1 ⟨rfl,rfl⟩ hs1
  have hs1:Sep (DiskA p (rot d o.a).1::RefA q d::R) G1:=hs1
  (repeat' (first|(with_reducible first|refine W.seq ?_|refine W.block ?_)|((first|(with_reducible first|refine W.reg ?_|refine W.skip ?_|refine W.exit ?_|refine W.ret ?_|refine W.ifc ?_)|((with_reducible first|refine wG_decE (fun _ hG=>?_) (fun _ hG=>?_)|refine wG_decFE (fun _ hG=>?_) (fun _ hG=>?_))<;>(try simp -dsimp only [hG,decide_true,decide_false,not_true_eq_false,not_false_eq_true])<;>clear hG))<;>(try simp -dsimp (disch:=first|omega|(simp only [go_sem]; omega)) only [go_sem,seval,Nat.reduceEqDiff,Nat.reduceLeDiff]))|simp -dsimp (disch:=first|omega|(simp only [go_sem]; omega)) only [go_sem,seval,Nat.reduceEqDiff,Nat.reduceLeDiff]))
  (refine goM (rRot_ok q d o.a) (hs1.swap) ?_)
  rintro _ _ G2 ⟨rfl,rfl⟩ hs2
  have hs2:Sep (RefA q (rot d o.a).1::DiskA p (rot d o.a).1::R) G2:=hs2
  (repeat' (first|(with_reducible first|refine W.seq ?_|refine W.block ?_)|((first|(with_reducible first|refine W.reg ?_|refine W.skip ?_|refine W.exit ?_|refine W.ret ?_|refine W.ifc ?_)|((with_reducible first|refine wG_decE (fun _ hG=>?_) (fun _ hG=>?_)|refine wG_decFE (fun _ hG=>?_) (fun _ hG=>?_))<;>(try simp -dsimp only [hG,decide_true,decide_false,not_true_eq_false,not_false_eq_true])<;>clear hG))<;>(try simp -dsimp (disch:=first|omega|(simp only [go_sem]; omega)) only [go_sem,seval,Nat.reduceEqDiff,Nat.reduceLeDiff,eq_self]))|simp -dsimp (disch:=first|omega|(simp only [go_sem]; omega)) only [go_sem,seval,Nat.reduceEqDiff,Nat.reduceLeDiff,eq_self]))
  exact Fin.eq rfl ⟨rfl,_,⟨p,q,rfl,by rw [hact]⟩,hs2.swap⟩
 by_cases h3:o.kind=3
 case pos =>
  have hact:act d o=arm d o.b:=by unfold act; rw [if_neg (by omega),if_neg (by omega),if_pos h3]
  (repeat' (first|(with_reducible first|refine W.seq ?_|refine W.block ?_)|((first|(with_reducible first|refine W.reg ?_|refine W.skip ?_|refine W.exit ?_|refine W.ret ?_|refine W.ifc ?_)|((with_reducible first|refine wG_decE (fun _ hG=>?_) (fun _ hG=>?_)|refine wG_decFE (fun _ hG=>?_) (fun _ hG=>?_))<;>(try simp -dsimp only [hG,decide_true,decide_false,not_true_eq_false,not_false_eq_true])<;>clear hG))<;>(try simp -dsimp (disch:=first|omega|(simp only [go_sem]; omega)) only [go_sem,seval,Nat.reduceEqDiff,Nat.reduceLeDiff,h3]))|simp -dsimp (disch:=first|omega|(simp only [go_sem]; omega)) only [go_sem,seval,Nat.reduceEqDiff,Nat.reduceLeDiff,h3]))
  (refine goM (Arm_ok p d o.b hb) (hs) ?_)
  rintro _ _ G1 rfl hs1
  have hs1:Sep (DiskA p (arm d o.b)::RefA q d::R) G1:=hs1
  (repeat' (first|(with_reducible first|refine W.seq ?_|refine W.block ?_)|((first|(with_reducible first|refine W.reg ?_|refine W.skip ?_|refine W.exit ?_|refine W.ret ?_|refine W.ifc ?_)|((with_reducible first|refine wG_decE (fun _ hG=>?_) (fun _ hG=>?_)|refine wG_decFE (fun _ hG=>?_) (fun _ hG=>?_))<;>(try simp -dsimp only [hG,decide_true,decide_false,not_true_eq_false,not_false_eq_true])<;>clear hG))<;>(try simp -dsimp (disch:=first|omega|(simp only [go_sem]; omega)) only [go_sem,seval,Nat.reduceEqDiff,Nat.reduceLeDiff]))|simp -dsimp (disch:=first|omega|(simp only [go_sem]; omega)) only [go_sem,seval,Nat.reduceEqDiff,Nat.reduceLeDiff]))
  (refine goM (rArm_ok q d o.b hb) (hs1.swap) ?_)
  rintro _ _ G2 rfl hs2
  have hs2:Sep (RefA q (arm d o.b)::DiskA p (arm d o.b)::R) G2:=hs2
  refine goS trivial ?_
  (repeat' (first|(with_reducible first|refine W.seq ?_|refine W.block ?_)|((first|(with_reducible first|refine W.reg ?_|refine W.skip ?_|refine W.exit ?_|refine W.ret ?_|refine W.ifc ?_)|((with_reducible first|refine wG_decE (fun _ hG=>?_) (fun _ hG=>?_)|refine wG_decFE (fun _ hG=>?_) (fun _ hG=>?_))<;>(try simp -dsimp only [hG,decide_true,decide_false,not_true_eq_false,not_false_eq_true])<;>clear hG))<;>(try simp -dsimp (disch:=first|omega|(simp only [go_sem]; omega)) only [go_sem,seval,Nat.reduceEqDiff,Nat.reduceLeDiff]))|simp -dsimp (disch:=first|omega|(simp only [go_sem]; omega)) only [go_sem,seval,Nat.reduceEqDiff,Nat.reduceLeDiff]))
  refine ⟨_,stleB (by rw [h3]),p,q,G2,?_,rfl⟩
  rw [hact]; exact hs2.swap
 by_cases h4:o.kind=4
 case pos =>
  have hact:act d o=crash d [o.a,o.b]:=by unfold act; rw [if_neg (by omega),if_neg (by omega),if_neg (by omega),if_pos h4]
  (repeat' (first|(with_reducible first|refine W.seq ?_|refine W.block ?_)|((first|(with_reducible first|refine W.reg ?_|refine W.skip ?_|refine W.exit ?_|refine W.ret ?_|refine W.ifc ?_)|((with_reducible first|refine wG_decE (fun _ hG=>?_) (fun _ hG=>?_)|refine wG_decFE (fun _ hG=>?_) (fun _ hG=>?_))<;>(try simp -dsimp only [hG,decide_true,decide_false,not_true_eq_false,not_false_eq_true])<;>clear hG))<;>(try simp -dsimp (disch:=first|omega|(simp only [go_sem]; omega)) only [go_sem,seval,Nat.reduceEqDiff,Nat.reduceLeDiff,h4]))|simp -dsimp (disch:=first|omega|(simp only [go_sem]; omega)) only [go_sem,seval,Nat.reduceEqDiff,Nat.reduceLeDiff,h4]))
  (refine goM (Crash_ok p d [o.a,o.b] (by simp)) (hs) ?_)
  rintro _ _ G1 ⟨p',rfl,rfl⟩ hs1
  have hs1:Sep (DiskA p' (crash d [o.a,o.b])::DiskA p d::RefA q d::R) G1:=hs1
  refine goS trivial ?_
  (repeat' (first|(with_reducible first|refine W.seq ?_|refine W.block ?_)|((first|(with_reducible first|refine W.reg ?_|refine W.skip ?_|refine W.exit ?_|refine W.ret ?_|refine W.ifc ?_)|((with_reducible first|refine wG_decE (fun _ hG=>?_) (fun _ hG=>?_)|refine wG_decFE (fun _ hG=>?_) (fun _ hG=>?_))<;>(try simp -dsimp only [hG,decide_true,decide_false,not_true_eq_false,not_false_eq_true])<;>clear hG))<;>(try simp -dsimp (disch:=first|omega|(simp only [go_sem]; omega)) only [go_sem,seval,Nat.reduceEqDiff,Nat.reduceLeDiff]))|simp -dsimp (disch:=first|omega|(simp only [go_sem]; omega)) only [go_sem,seval,Nat.reduceEqDiff,Nat.reduceLeDiff]))
  (refine goM (rCrash_ok q d [o.a,o.b] (by simp)) ((hs1.f3)) ?_)
  rintro _ _ G2 ⟨q',rfl,rfl⟩ hs2
  have hs2:Sep (RefA q' (crash d [o.a,o.b])::RefA q d::DiskA p' (crash d [o.a,o.b])::DiskA p d::R) G2:=hs2
  refine goS trivial ?_
  (repeat' (first|(with_reducible first|refine W.seq ?_|refine W.block ?_)|((first|(with_reducible first|refine W.reg ?_|refine W.skip ?_|refine W.exit ?_|refine W.ret ?_|refine W.ifc ?_)|((with_reducible first|refine wG_decE (fun _ hG=>?_) (fun _ hG=>?_)|refine wG_decFE (fun _ hG=>?_) (fun _ hG=>?_))<;>(try simp -dsimp only [hG,decide_true,decide_false,not_true_eq_false,not_false_eq_true])<;>clear hG))<;>(try simp -dsimp (disch:=first|omega|(simp only [go_sem]; omega)) only [go_sem,seval,Nat.reduceEqDiff,Nat.reduceLeDiff]))|simp -dsimp (disch:=first|omega|(simp only [go_sem]; omega)) only [go_sem,seval,Nat.reduceEqDiff,Nat.reduceLeDiff]))
  refine ⟨_,stleB (by rw [h4]),p',q',G2,?_,rfl⟩
  rw [hact]
  exact (hs2.cons fun _ h=>h.tail.cons fun _ h=>h.tail).swap
 have hact:act d o=d:=by unfold act; rw [if_neg h0,if_neg h1,if_neg h3,if_neg h4,if_neg h5,if_neg h6]
 have f0:(o.kind=0)=False:=eq_false h0
 have f1:(o.kind=1)=False:=eq_false h1
 have f2:(o.kind=2)=False:=eq_false h2
 have f3:(o.kind=3)=False:=eq_false h3
 have f4:(o.kind=4)=False:=eq_false h4
 have f5:(o.kind=5)=False:=eq_false h5
 have f6:(o.kind=6)=False:=eq_false h6
 (repeat' (first|(with_reducible first|refine W.seq ?_|refine W.block ?_)|((first|(with_reducible first|refine W.reg ?_|refine W.skip ?_|refine W.exit ?_|refine W.ret ?_|refine W.ifc ?_)|((with_reducible first|refine wG_decE (fun _ hG=>?_) (fun _ hG=>?_)|refine wG_decFE (fun _ hG=>?_) (fun _ hG=>?_))<;>(try simp -dsimp only [hG,decide_true,decide_false,not_true_eq_false,not_false_eq_true])<;>clear hG))<;>(try simp -dsimp (disch:=first|omega|(simp only [go_sem]; omega)) only [go_sem,seval,Nat.reduceEqDiff,Nat.reduceLeDiff,f0,f1,f2,f3,f4,f5,f6]))|simp -dsimp (disch:=first|omega|(simp only [go_sem]; omega)) only [go_sem,seval,Nat.reduceEqDiff,Nat.reduceLeDiff,f0,f1,f2,f3,f4,f5,f6]))
 refine ⟨_,stleB rfl,p,q,G,?_,rfl⟩
 rw [hact]; exact hs
end Go.Proofs.Ytioojmlhmhgeeaa
