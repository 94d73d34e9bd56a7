/-
 Layer 39 (catalog),continued: the laws CatalogDoesAsSpecified and CatalogForgets.
 Conditions: of each contract as it says.
-/
import Derived.Test.YtgoleoihpgmcbaaF39u
import Derived.Test.YtgoleoihpgmcbaaS39c
namespace Go.Proofs.Ytgoleoihpgmcbaa
open Go Go.E2 C39
set_option linter.unusedSimpArgs false
set_option maxHeartbeats 4000000
theorem same_ok (a:Ct) (ha:smallC a):CallP Try.prog f_zz34 [eC a,eC a] (·=.d (.bool true)):=by
 have h:=Same_ok a a ha ha
 rw [decide_eq_true rfl] at h; exact h
theorem sameE_ok (a:List En) (ha:a.length≤100000):CallP Try.prog f_zz19 [.list (a.map eE),.list (a.map eE)] (·=.d (.bool true)):=by
 have h:=SameE_ok a a ha ha
 rw [decide_eq_true rfl] at h; exact h
theorem listC_len (c:Ct) (pre:Str) (hs:smallC c):(listC c pre).1.length≤1000:=by
 unfold listC
 split
 · simp
 · exact Nat.le_trans (List.length_filter_le ..) hs.1
theorem law1_ok (c:Ct) (o:Co) (name:Str) (ver:Int):CallP Try.prog f_zz11 [eC c,eO o,.str name,eI ver] (·=.d (.bool true)):=by
 refine callP_of_W fol zz11_cp ?_
 refine goS trivial ?_
 by_cases hf:fewC c
 case neg =>
  (refine goX2 hf (Few_ok c) (sanity_ok) ?_; (repeat' (with_reducible apply Br.mk<;>intro _)))
  all_goals exact Fin.p rfl rfl
 have hs:=hf.small
 have hds:=do_small hs o
 have hll:=listC_len c name hs
 (repeat' (first|(with_reducible first|refine W.seq ?_|refine W.block ?_)|((first|(with_reducible first|refine W.reg ?_|refine W.skip ?_|refine W.exit ?_|refine W.ret ?_|refine W.ifc ?_)|(apply wC_P (Few_ok c); (focus (simp -dsimp (disch:=first|omega|(simp only [go_sem]; omega)) only [go_sem,seval,Nat.reduceEqDiff,Nat.reduceLeDiff]<;>rfl)); rintro _ rfl)|(apply wC_P (sanity_ok); (focus (simp -dsimp (disch:=first|omega|(simp only [go_sem]; omega)) only [go_sem,seval,Nat.reduceEqDiff,Nat.reduceLeDiff]<;>rfl)); rintro _ rfl)|(apply wC_P (Do_ok c o hs); (focus (simp -dsimp (disch:=first|omega|(simp only [go_sem]; omega)) only [go_sem,seval,Nat.reduceEqDiff,Nat.reduceLeDiff]<;>rfl)); rintro _ rfl)|(apply wC_P (refDo_ok c o hs); (focus (simp -dsimp (disch:=first|omega|(simp only [go_sem]; omega)) only [go_sem,seval,Nat.reduceEqDiff,Nat.reduceLeDiff]<;>rfl)); rintro _ rfl)|(apply wC_P (Find_ok c name ver hs); (focus (simp -dsimp (disch:=first|omega|(simp only [go_sem]; omega)) only [go_sem,seval,Nat.reduceEqDiff,Nat.reduceLeDiff]<;>rfl)); rintro _ rfl)|(apply wC_P (refFind_ok c name ver hs); (focus (simp -dsimp (disch:=first|omega|(simp only [go_sem]; omega)) only [go_sem,seval,Nat.reduceEqDiff,Nat.reduceLeDiff]<;>rfl)); rintro _ rfl)|(apply wC_P (List_ok c name hs); (focus (simp -dsimp (disch:=first|omega|(simp only [go_sem]; omega)) only [go_sem,seval,Nat.reduceEqDiff,Nat.reduceLeDiff]<;>rfl)); rintro _ rfl)|(apply wC_P (refList_ok c name hs); (focus (simp -dsimp (disch:=first|omega|(simp only [go_sem]; omega)) only [go_sem,seval,Nat.reduceEqDiff,Nat.reduceLeDiff]<;>rfl)); rintro _ rfl)|(apply wC_P (Check_ok c hs); (focus (simp -dsimp (disch:=first|omega|(simp only [go_sem]; omega)) only [go_sem,seval,Nat.reduceEqDiff,Nat.reduceLeDiff]<;>rfl)); rintro _ rfl)|(apply wC_P (refCheck_ok c hs); (focus (simp -dsimp (disch:=first|omega|(simp only [go_sem]; omega)) only [go_sem,seval,Nat.reduceEqDiff,Nat.reduceLeDiff]<;>rfl)); rintro _ rfl)|(apply wC_P (same_ok (doC c o).1 hds); (focus (simp -dsimp (disch:=first|omega|(simp only [go_sem]; omega)) only [go_sem,seval,Nat.reduceEqDiff,Nat.reduceLeDiff]<;>rfl)); rintro _ rfl)|(apply wC_P (sameE_ok (listC c name).1 (by omega)); (focus (simp -dsimp (disch:=first|omega|(simp only [go_sem]; omega)) only [go_sem,seval,Nat.reduceEqDiff,Nat.reduceLeDiff]<;>rfl)); rintro _ rfl)|((with_reducible first|refine wG_decE (fun _ hG=>?_) (fun _ hG=>?_)|refine wG_decFE (fun _ hG=>?_) (fun _ hG=>?_))<;>(try simp -dsimp only [hG,decide_true,decide_false,not_true_eq_false,not_false_eq_true])<;>clear hG))<;>(try simp -dsimp (disch:=first|omega|(simp only [go_sem]; omega)) only [go_sem,seval,Nat.reduceEqDiff,Nat.reduceLeDiff,hf,eq_self,noEn]))|simp -dsimp (disch:=first|omega|(simp only [go_sem]; omega)) only [go_sem,seval,Nat.reduceEqDiff,Nat.reduceLeDiff,hf,eq_self,noEn]))
 all_goals first|exact Fin.p rfl rfl|trace_state
end Go.Proofs.Ytgoleoihpgmcbaa
