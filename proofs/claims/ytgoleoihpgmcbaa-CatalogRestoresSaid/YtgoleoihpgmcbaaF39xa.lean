/-
 Layer 39 (catalog),continued: the law CatalogRestores.
 Conditions: of each contract as it says.
-/
import Derived.Test.YtgoleoihpgmcbaaF39x
import Derived.Test.YtgoleoihpgmcbaaS39d
namespace Go.Proofs.Ytgoleoihpgmcbaa
open Go Go.E2 C39
set_option linter.unusedSimpArgs false
set_option maxHeartbeats 4000000
def notO (o:Int) (x:En):Bool:=decide (¬ x.obj=o)
theorem zip_app {α β γ:Type} (f:α→β→γ):∀ {a:List α} {b:List β} (y:β) (h:b.length < a.length),List.zipWith f a (b ++ [y])=List.zipWith f a b ++ [f a[b.length] y]
 | _::_,[],_,_=>by simp
 | x::a,z::b,y,h=>by
   rw [List.cons_append,List.zipWith_cons_cons,zip_app f y (by simpa using h)]; rfl
theorem law3_ok (l:List Co) (noise:Str) (o:Int) (name:Str):CallP Try.prog f_zz14 [.list (l.map eO),.str noise,eI o,.str name] (·=.d (.bool true)):=by
 refine callP_of_W fol zz14_cp ?_
 have hm:=mostBytes_eq
 refine goS trivial ?_
 by_cases hf:fewO l 30
 case neg =>
  (refine goX2 hf (sanity_ok) (few_ok l 30 (by omega)) ?_; (repeat' (with_reducible apply Br.mk<;>intro _)))
  all_goals exact Fin.p rfl rfl
 (refine goX2 hf (sanity_ok) (few_ok l 30 (by omega)) ?_; (repeat' (with_reducible apply Br.mk<;>intro _)))
 have hl:=hf.1
 refine W.loop (fun m st=>∃ (k:Nat) (d:Ct),k≤l.length∧m=l.length - k∧Valid d ∧
  st=(E [(0,.d (.list (l.map eO))),(1,.d (.str noise)),(2,.d (eI o)),(3,.d (.str name)),(10,.ptr 0 10 1 0),(11,.d (eI k))],HB [(10,⟨1,some (cC d)⟩)],[],noGh))
  ⟨_,_,st_leH (by (simp -dsimp (disch:=first|omega|(simp only [go_sem]; omega)) only [go_sem,seval,Nat.reduceEqDiff,Nat.reduceLeDiff]<;>((repeat' apply And.intro)<;>first|exact VLe.refl _|(apply vle_int; omega)|(apply vle_int; simp; done)|exact VLe.own _ _|exact VLe.nilown _|exact VLe.norm _))) (HBle.box 10 1 emptyLe (HBle.refl [])),0,⟨0,[],[]⟩,by omega,rfl,empty_valid,rfl⟩ ?_
 rintro m st ⟨k,d,hk,rfl,hd,rfl⟩
 have hds:=Valid.small hd
 refine goR trivial ?_
 refine wG_dec (fun h1=>?_) (fun h1=>?_)
 case _ =>
  have hk':k < l.length:=by omega
  have hdo:=Do_ok d l[k] hds
  (refine goX1 trivial (hdo) ?_; (repeat' (with_reducible apply Br.mk<;>intro _)))
  refine ⟨_,_,?_,stleB rfl,k + 1,_,hk',rfl,do_valid hd l[k],rfl⟩
  omega
 clear hk h1
 have hc0:=(chk_iff d).2 hd
 have hd1:=hd.ents.1
 refine goR trivial ?_
 refine W.loop (fun m st=>∃ (k:Nat) (P:List Str) (at_:Nat),k≤d.ents.length∧m=d.ents.length - k∧P.length=k∧(∀ j (h1:j < P.length) (h2:j < d.ents.length),P[j].length=d.ents[j].name.length)∧at_≤noise.length∧at_≤64 * k ∧
  st=(E [(1,.d (.str noise)),(2,.d (eI o)),(3,.d (.str name)),(10,.ptr 0 10 1 0),(12,.own 1 (P.map .str)),(13,.own 1 ((List.zipWith (maskK (notO o)) d.ents P).map .str)),(14,.own 4 (((d.ents.take k).filter (notO o)).map eE)),(15,.d (eI at_)),(16,.d (eI k))],HB [(10,⟨1,some (cC d)⟩)],[],noGh))
  ⟨_,_,st_leB (by (simp -dsimp (disch:=first|omega|(simp only [go_sem]; omega)) only [go_sem,seval,Nat.reduceEqDiff,Nat.reduceLeDiff,List.take_zero,List.filter_nil,List.map_nil,List.zipWith_nil_right]<;>((repeat' apply And.intro)<;>first|exact VLe.refl _|(apply vle_int; omega)|(apply vle_int; simp; done)|exact VLe.own _ _|exact VLe.nilown _|exact VLe.norm _))) rfl,0,[],0,by omega,rfl,rfl,fun _ h=>by simp at h,by omega,by omega,rfl⟩ ?_
 rintro m st ⟨k,P,at_,hk,rfl,hP,hp,hat,hat2,rfl⟩
 refine goR trivial ?_
 refine wG_dec (fun h1=>?_) (fun h1=>?_)
 case _ =>
  have hk':k < d.ents.length:=by omega
  have hr:=hd.ents.2.1 _ (List.getElem_mem hk')
  have hr1:=hr.1
  have hr2:=hr.2.1
  have ht:=take_filter hk' (notO o)
  have hlen:((d.ents.take k).filter (notO o)).length≤k:=Nat.le_trans (List.length_filter_le ..) (by rw [List.length_take]; omega)
  have hz:(List.zipWith (maskK (notO o)) d.ents P).length=k:=by rw [List.length_zipWith]; omega
  have hw:IntKind.i64.wrap (↑at_ + ↑d.ents[k].name.length)=((at_ + d.ents[k].name.length:Nat):Int):=by rw [wrap_i64 (by omega) (by omega)]; omega
  by_cases hfit:noise.length < at_ + d.ents[k].name.length
  case pos =>
   have g1:((noise.length:Int) < ((at_ + d.ents[k].name.length:Nat):Int))=True:=eq_true (by omega)
   (refine goX (nn hw g1) ?_; (repeat' (with_reducible apply Br.mk<;>intro _)))
   all_goals exact Fin.p rfl rfl
  have g1:((noise.length:Int) < ((at_ + d.ents[k].name.length:Nat):Int))=False:=eq_false (by omega)
  obtain ⟨pad,hpad,hpl⟩:∃ pad:Str,vStH (.d (.str noise)) (some (at_:Int)) (some ((at_ + d.ents[k].name.length:Nat):Int))=some (.d (.str pad))∧pad.length=d.ents[k].name.length:=by
   refine ⟨(noise.take (at_ + d.ents[k].name.length)).drop at_,?_,?_⟩
   · simp only [vStH]
     rw [if_pos (by omega)]; rfl
   · rw [List.length_drop,List.length_take]; omega
  have hzp:=zip_app (maskK (notO o)) (a:=d.ents) (b:=P) pad (by omega)
  have hmk:maskK (notO o) d.ents[P.length] pad=maskK (notO o) d.ents[k] pad:=by subst hP; rfl
  rw [hmk] at hzp
  have hlP:(P ++ [pad]).length=k + 1:=by rw [List.length_append,hP]; rfl
  have hp2:∀ j (h1:j < (P ++ [pad]).length) (h2:j < d.ents.length),(P ++ [pad])[j].length=d.ents[j].name.length:=by
   intro j h1 h2
   by_cases e:j < P.length
   · rw [List.getElem_append_left e]; exact hp j e h2
   · obtain rfl:j=P.length:=by omega
     rw [List.getElem_append_right (Nat.le_refl _)]
     subst hP
     simpa using hpl
  by_cases ho:d.ents[k].obj=o
  case pos =>
   have hn:¬ notO o d.ents[k]=true:=by simp [notO,ho]
   rw [maskK,if_neg hn] at hzp
   rw [if_neg hn,List.append_nil] at ht
   (repeat' (first|(with_reducible first|refine W.seq ?_|refine W.block ?_)|((first|(with_reducible first|refine W.reg ?_|refine W.skip ?_|refine W.exit ?_|refine W.ret ?_|refine W.ifc ?_)|((with_reducible first|refine wG_decE (fun _ hG=>?_) (fun _ hG=>?_)|refine wG_decFE (fun _ hG=>?_) (fun _ hG=>?_))<;>(try simp -dsimp only [hG,decide_true,decide_false,not_true_eq_false,not_false_eq_true])<;>clear hG))<;>(try simp -dsimp (disch:=first|omega|(simp only [go_sem]; omega)) only [go_sem,seval,Nat.reduceEqDiff,Nat.reduceLeDiff,hw,g1,hpad,ho,List.length_map]))|simp -dsimp (disch:=first|omega|(simp only [go_sem]; omega)) only [go_sem,seval,Nat.reduceEqDiff,Nat.reduceLeDiff,hw,g1,hpad,ho,List.length_map]))
   refine ⟨_,_,?_,st_leB (by (simp -dsimp (disch:=first|omega|(simp only [go_sem]; omega)) only [go_sem,seval,Nat.reduceEqDiff,Nat.reduceLeDiff,hzp,ht,List.map_append,List.map_cons,List.map_nil]<;>((repeat' apply And.intro)<;>first|exact VLe.refl _|(apply vle_int; omega)|(apply vle_int; simp; done)|exact VLe.own _ _|exact VLe.nilown _|exact VLe.norm _))) rfl,k + 1,P ++ [pad],at_ + d.ents[k].name.length,hk',rfl,hlP,hp2,by omega,by omega,rfl⟩
   omega
  case neg =>
   have hn:notO o d.ents[k]=true:=by simp [notO,ho]
   rw [maskK,if_pos hn] at hzp
   rw [if_pos hn] at ht
   (repeat' (first|(with_reducible first|refine W.seq ?_|refine W.block ?_)|((first|(with_reducible first|refine W.reg ?_|refine W.skip ?_|refine W.exit ?_|refine W.ret ?_|refine W.ifc ?_)|((with_reducible first|refine wG_decE (fun _ hG=>?_) (fun _ hG=>?_)|refine wG_decFE (fun _ hG=>?_) (fun _ hG=>?_))<;>(try simp -dsimp only [hG,decide_true,decide_false,not_true_eq_false,not_false_eq_true])<;>clear hG))<;>(try simp -dsimp (disch:=first|omega|(simp only [go_sem]; omega)) only [go_sem,seval,Nat.reduceEqDiff,Nat.reduceLeDiff,hw,g1,hpad,ho,List.length_map]))|simp -dsimp (disch:=first|omega|(simp only [go_sem]; omega)) only [go_sem,seval,Nat.reduceEqDiff,Nat.reduceLeDiff,hw,g1,hpad,ho,List.length_map]))
   refine ⟨_,_,?_,st_leB (by (simp -dsimp (disch:=first|omega|(simp only [go_sem]; omega)) only [go_sem,seval,Nat.reduceEqDiff,Nat.reduceLeDiff,hzp,ht,List.map_append,List.map_cons,List.map_nil]<;>((repeat' apply And.intro)<;>first|exact VLe.refl _|(apply vle_int; omega)|(apply vle_int; simp; done)|exact VLe.own _ _|exact VLe.nilown _|exact VLe.norm _))) rfl,k + 1,P ++ [pad],at_ + d.ents[k].name.length,hk',rfl,hlP,hp2,by omega,by omega,rfl⟩
   omega
 obtain rfl:k=d.ents.length:=by omega
 rw [List.take_length]
 have hexp:=Export_ok d P hds (by omega) (fun s hs=>by
  obtain ⟨j,hj,rfl⟩:=List.getElem_of_mem hs
  have:=hp j hj (by omega)
  have:=hd.ents.2.1 _ (List.getElem_mem (show j < d.ents.length by omega))
  have:=this.2.1
  omega)
 rw [exp_ok hc0 hP (fun j h h2=>hp j h2 h)] at hexp
 have hln:(List.zipWith lineOf d.ents P).length=d.ents.length:=by rw [List.length_zipWith]; omega
 have hlr:∀ j (h:j < (List.zipWith lineOf d.ents P).length) (h2:j < d.ents.length),lineR d.now (List.zipWith lineOf d.ents P)[j]∧(List.zipWith lineOf d.ents P)[j].obj=d.ents[j].obj:=by
  intro j h h2
  rw [List.getElem_zipWith]
  exact ⟨line_right hd (List.getElem_mem h2) (hp j (by omega) h2),rfl⟩
 have hcl:∀ x ∈ List.zipWith lineOf d.ents P,x.cover.length≤100000:=fun x hx=>by
  obtain ⟨j,hj,rfl⟩:=List.getElem_of_mem hx
  have:=(hlr j hj (by omega)).1.2.1
  omega
 have hsm:smallC ⟨d.now,[],[]⟩:=by unfold smallC; simp
 have hia:=Import_ok ⟨d.now,[],[]⟩ (List.zipWith lineOf d.ents P) P hsm (by omega) (by omega) hcl
 rw [import_all hd hP hp] at hia
 have his:=Import_ok ⟨d.now,[],[]⟩ (List.zipWith lineOf d.ents P) (List.zipWith (maskK (notO o)) d.ents P) hsm (by omega) (by rw [List.length_zipWith]; omega) hcl
 rw [import_some hd (notO o) hP hp] at his
 have hfl:(d.ents.filter (notO o)).length≤d.ents.length:=List.length_filter_le ..
 have hi1:∀ (x:Ln) (h:lineR d.now x) (h2:x.cover.length=name.length),CallP Try.prog f_zz38 [.agg [eI d.now,.nilS,.nilS],.agg [.list ([x].map eN)],.list ([sumS x.cover name].map .str)] (·=.tup [eC ⟨d.now,[⟨name,x.ver,x.obj,x.last⟩],[]⟩,eI 1,eI 0]):=by
  intro x h h2
  have:=h.2.1
  have hi:=Import_ok ⟨d.now,[],[]⟩ [x] [sumS x.cover name] hsm (by simp) (by simp) (fun y hy=>by obtain rfl:=List.mem_singleton.1 hy; omega)
  rw [import_one hd h h2] at hi
  exact hi.args (.cons (.inr rfl) (.cons (.inl rfl) (.cons (.inl rfl) .nil)))
 generalize List.zipWith (maskK (notO o)) d.ents P=less at his
 generalize hL:List.zipWith lineOf d.ents P=L at *
 have hia:=hia.args (xs:=[.agg [eI d.now,.nilS,.nilS],.agg [.list (L.map eN)],.list (P.map .str)]) (.cons (.inr rfl) (.cons (.inl rfl) (.cons (.inl rfl) .nil)))
 have his:=his.args (xs:=[.agg [eI d.now,.nilS,.nilS],.agg [.list (L.map eN)],.list (less.map .str)]) (.cons (.inr rfl) (.cons (.inl rfl) (.cons (.inl rfl) .nil)))
 have hse:=sameE_ok d.ents (by omega)
 have hsf:=sameE_ok (d.ents.filter (notO o)) (by omega)
 have hln2:(↑L.length:Int)=↑d.ents.length:=by omega
 (repeat' (first|(with_reducible first|refine W.seq ?_|refine W.block ?_)|((first|(with_reducible first|refine W.reg ?_|refine W.skip ?_|refine W.exit ?_|refine W.ret ?_|refine W.ifc ?_)|(apply wC_P (hexp); (focus (simp -dsimp (disch:=first|omega|(simp only [go_sem]; omega)) only [go_sem,seval,Nat.reduceEqDiff,Nat.reduceLeDiff]<;>rfl)); rintro _ rfl)|(apply wC_P (hia); (focus (simp -dsimp (disch:=first|omega|(simp only [go_sem]; omega)) only [go_sem,seval,Nat.reduceEqDiff,Nat.reduceLeDiff]<;>rfl)); rintro _ rfl)|(apply wC_P (his); (focus (simp -dsimp (disch:=first|omega|(simp only [go_sem]; omega)) only [go_sem,seval,Nat.reduceEqDiff,Nat.reduceLeDiff]<;>rfl)); rintro _ rfl)|(apply wC_P (hse); (focus (simp -dsimp (disch:=first|omega|(simp only [go_sem]; omega)) only [go_sem,seval,Nat.reduceEqDiff,Nat.reduceLeDiff]<;>rfl)); rintro _ rfl)|(apply wC_P (hsf); (focus (simp -dsimp (disch:=first|omega|(simp only [go_sem]; omega)) only [go_sem,seval,Nat.reduceEqDiff,Nat.reduceLeDiff]<;>rfl)); rintro _ rfl)|((with_reducible first|refine wG_decE (fun _ hG=>?_) (fun _ hG=>?_)|refine wG_decFE (fun _ hG=>?_) (fun _ hG=>?_))<;>(try simp -dsimp only [hG,decide_true,decide_false,not_true_eq_false,not_false_eq_true])<;>clear hG))<;>(try simp -dsimp (disch:=first|omega|(simp only [go_sem]; omega)) only [go_sem,seval,Nat.reduceEqDiff,Nat.reduceLeDiff,hln2,List.length_map,eq_self]))|simp -dsimp (disch:=first|omega|(simp only [go_sem]; omega)) only [go_sem,seval,Nat.reduceEqDiff,Nat.reduceLeDiff,hln2,List.length_map,eq_self]))
 refine W.loop (fun m st=>∃ (k:Nat) (b29 b30:Blk),k≤d.ents.length∧m=d.ents.length - k ∧
  st=(E [(3,.d (.str name)),(10,.ptr 0 10 1 0),(19,.ptr 0 19 1 0),(21,.ptr 0 21 1 0),(28,.d (eI k))],HB [(10,⟨1,some (cC d)⟩),(19,⟨1,some [.list (L.map eN)]⟩),(21,⟨1,some [eI d.now,.nilS,.nilS]⟩),(22,⟨1,some [eI d.now,.list (d.ents.map eE),.list []]⟩),(25,⟨1,some [eI d.now,.list ((d.ents.filter (notO o)).map eE),.list []]⟩),(29,b29),(30,b30)],[],noGh))
  ⟨_,_,stleB (HB_pad [(10,_),(19,_),(21,_),(22,_),(25,_)] [29,30] rfl).symm,0,_,_,by omega,rfl,rfl⟩ ?_
 rintro m st ⟨k,b29,b30,hk2,rfl,rfl⟩
 by_cases h2:(k:Int) < (L.length:Int)
 case neg =>
  (refine goX h2 ?_; (repeat' (with_reducible apply Br.mk<;>intro _)))
  all_goals exact Fin.p rfl rfl
 have hk':k < L.length:=by omega
 have hkd:k < d.ents.length:=by omega
 obtain ⟨hr,ho⟩:=hlr k hk' hkd
 have hr1:=hr.1
 have hi:=hi1 L[k] hr
 by_cases hcn:L[k].cover.length=name.length
 case neg =>
  have g1:((L[k].cover.length:Int)=(name.length:Int))=False:=eq_false (by omega)
  (refine goX (nn h2 g1) ?_; (repeat' (with_reducible apply Br.mk<;>intro _)))
  all_goals
   refine ⟨_,_,?_,stleB rfl,k + 1,_,_,hkd,rfl,rfl⟩
   omega
 have g1:(L[k].cover.length:Int)=(name.length:Int):=by omega
 have g2:((name.length:Int)=0)=False:=eq_false (by omega)
 have hsum:=Sum_ok L[k].cover name hcn (by have:=hr.2.1; omega)
 have hi:=hi hcn
 have g3:(L[k].obj=d.ents[k].obj)=True:=eq_true ho
 (refine goX2 (nn h2 (nn g1 (nn g2 (nn g3 vIaddr_c0)))) (hsum) (hi) ?_; (repeat' (with_reducible apply Br.mk<;>intro _)))
 all_goals first
  | (refine ⟨_,_,?_,stleB rfl,k + 1,_,_,hkd,rfl,rfl⟩
     omega)
  | trace_state
end Go.Proofs.Ytgoleoihpgmcbaa
