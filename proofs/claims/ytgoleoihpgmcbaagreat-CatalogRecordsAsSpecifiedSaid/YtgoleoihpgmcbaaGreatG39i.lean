/-
 Layer 39 (catalog),continued: CaTick,CaForget,CaExtend; List.
 Conditions: of each contract as it says.
-/
import Derived.Test.YtgoleoihpgmcbaaGreatG39g
namespace Go.Proofs.YtgoleoihpgmcbaaGreat
open Go Go.E2 C39
set_option linter.unusedSimpArgs false
abbrev cO (o:Co):List D:=[eI o.kind,eI o.tick,eI o.ver,eI o.obj,eI o.last,eI o.snap,.str o.name]
theorem tick1_ok (o:Co) (b:Nat) (G:Gh) (hb:G.c b=some (cO o)):PrE G (.clo f_zz71 [.gp b 0]) fun x=>decide (o.tick≤x.last):=by
 refine ⟨_,_,rfl,fun x G' hs σ=>?_⟩
 have hb:=hs.c _ _ hb
 refine callT_of_W fol zz71_cp ?_
 refine goS trivial ?_
 refine goR hb ?_
 exact Fin.eq rfl ⟨rfl,rfl,rfl⟩
theorem forget1_ok (o:Co) (b:Nat) (G:Gh) (hb:G.c b=some (cO o)):PrE G (.clo f_zz47 [.gp b 0]) fun x=>decide (x.obj ≠ o.obj):=by
 refine ⟨_,_,rfl,fun x G' hs σ=>?_⟩
 have hb:=hs.c _ _ hb
 refine callT_of_W fol zz47_cp ?_
 refine goS trivial ?_
 refine goR hb ?_
 exact Fin.eq rfl ⟨rfl,rfl,rfl⟩
theorem extend1_ok (o:Co) (b:Nat) (G:Gh) (hb:G.c b=some (cO o)):FnE G (.clo f_zz46 [.gp b 0]) fun x=>(longE o.obj o.last x,true):=by
 refine ⟨_,_,rfl,fun x G' hs σ=>?_⟩
 have hb:=hs.c _ _ hb
 refine callT_of_W fol zz46_cp ?_
 refine goS trivial ?_
 (refine goX hb ?_; (repeat' (with_reducible apply Br.mk<;>intro _)))
 · rename_i he
   exact Fin.eq rfl ⟨rfl,rfl,by show AV.tup _=AV.tup [eE (longE o.obj o.last x),_]; rw [longE,if_pos he]; rfl⟩
 · rename_i he
   exact Fin.eq rfl ⟨rfl,rfl,by show AV.tup _=AV.tup [eE (longE o.obj o.last x),_]; rw [longE,if_neg he]; rfl⟩
theorem List1_ok (pre:Str) (b:Nat) (G:Gh) (hb:G.c b=some [.str pre]):PrE G (.clo f_zz64 [.gp b 0]) fun x=>pre.isPrefixOf x.name:=by
 refine ⟨_,_,rfl,fun x G' hs σ=>?_⟩
 have hb:=hs.c _ _ hb
 refine callT_of_W fol zz64_cp ?_
 refine goS trivial ?_
 (refine goX1 hb (HasPrefix_ok x.name pre) ?_; (repeat' (with_reducible apply Br.mk<;>intro _)))
 exact Fin.eq rfl ⟨rfl,rfl,rfl⟩
theorem optF_keep (p:En→Bool):(optF fun x=>(x,p x))=keepIf p:=rfl
theorem optF_some (f:En→En):(optF fun x=>(f x,true))=fun x=>some (f x):=rfl
theorem filter_keep (p:En→Bool) (l:List En):l.filterMap (keepIf p)=l.filter p:=by
 induction l with
 | nil=>rfl
 | cons x r ih =>
  rw [List.filterMap_cons,List.filter_cons,ih]
  unfold keepIf
  by_cases h:p x=true<;>simp [h]
theorem tick_ok (c:Ct) (o:Co) (hs:smallC c):CallP Tryz.prog f_zz89 [eC c,eO o] (·=.tup [eC (tickC c o).1,eI (tickC c o).2]):=by
 refine CallP.of_deep (callT_of_W fol zz89_cp ?_)
 unfold tickC
 refine goS trivial ?_
 refine goR trivial ?_
 refine wNew_mk fun b hb=>?_
 refine goS trivial ?_
 (refine goX trivial ?_; (repeat' (with_reducible apply Br.mk<;>intro _)))
 · rename_i h
   exact Fin.eq rfl ⟨rfl,_,.refl _,by rw [if_pos h]; rfl⟩
 · rename_i h h2
   exact Fin.eq rfl ⟨rfl,_,.refl _,by rw [if_neg h,if_pos h2]; rfl⟩
 rename_i h1 h2
 rw [if_neg h1,if_neg h2]
 apply wC_n (only_ok _ _ _ (tick1_ok o b _ (by simp)))
 focus (simp -dsimp (disch:=first|omega|(simp only [go_sem]; omega)) only [go_sem,seval,Nat.reduceEqDiff,Nat.reduceLeDiff]<;>decide)
 focus (simp -dsimp (disch:=first|omega|(simp only [go_sem]; omega)) only [go_sem,seval,Nat.reduceEqDiff,Nat.reduceLeDiff]<;>rfl)
 focus (simp -dsimp (disch:=first|omega|(simp only [go_sem]; omega)) only [go_sem,seval,Nat.reduceEqDiff,Nat.reduceLeDiff]<;>rfl)
 rintro r G' ⟨hsub,fv,rfl,hfn⟩
 refine goS trivial ?_
 apply wC_n (sweep_ok { c with now:=o.tick } hs fv _ _ hfn)
 focus (simp -dsimp (disch:=first|omega|(simp only [go_sem]; omega)) only [go_sem,seval,Nat.reduceEqDiff,Nat.reduceLeDiff]<;>decide)
 focus (simp -dsimp (disch:=first|omega|(simp only [go_sem]; omega)) only [go_sem,seval,Nat.reduceEqDiff,Nat.reduceLeDiff]<;>rfl)
 focus (simp -dsimp (disch:=first|omega|(simp only [go_sem]; omega)) only [go_sem,seval,Nat.reduceEqDiff,Nat.reduceLeDiff]<;>rfl)
 rintro r G2 ⟨hsub2,rfl⟩
 rw [optF_keep]
 refine goS trivial ?_
 refine goR trivial ?_
 exact Fin.eq rfl ⟨rfl,_,.refl _,rfl⟩
theorem forget_ok (c:Ct) (o:Co) (hs:smallC c) (hl:∀ x ∈ allE c,0≤x.last):CallP Tryz.prog f_zz67 [eC c,eO o] (·=.tup [eC (forgetC c o).1,eI (forgetC c o).2]):=by
 refine CallP.of_deep (callT_of_W fol zz67_cp ?_)
 unfold forgetC
 refine goS trivial ?_
 refine goR trivial ?_
 refine wNew_mk fun b hb=>?_
 refine goS trivial ?_
 (refine goX1 trivial (object_ok c o.obj hs hl) ?_; (repeat' (with_reducible apply Br.mk<;>intro _)))
 · rename_i h
   exact Fin.eq rfl ⟨rfl,_,.refl _,by rw [if_pos h]; rfl⟩
 rename_i h1
 rw [if_neg h1]
 apply wC_n (only_ok _ _ _ (forget1_ok o b _ (by simp)))
 focus (simp -dsimp (disch:=first|omega|(simp only [go_sem]; omega)) only [go_sem,seval,Nat.reduceEqDiff,Nat.reduceLeDiff]<;>decide)
 focus (simp -dsimp (disch:=first|omega|(simp only [go_sem]; omega)) only [go_sem,seval,Nat.reduceEqDiff,Nat.reduceLeDiff]<;>rfl)
 focus (simp -dsimp (disch:=first|omega|(simp only [go_sem]; omega)) only [go_sem,seval,Nat.reduceEqDiff,Nat.reduceLeDiff]<;>rfl)
 rintro r G' ⟨hsub,fv,rfl,hfn⟩
 refine goS trivial ?_
 apply wC_n (sweep_ok c hs fv _ _ hfn)
 focus (simp -dsimp (disch:=first|omega|(simp only [go_sem]; omega)) only [go_sem,seval,Nat.reduceEqDiff,Nat.reduceLeDiff]<;>decide)
 focus (simp -dsimp (disch:=first|omega|(simp only [go_sem]; omega)) only [go_sem,seval,Nat.reduceEqDiff,Nat.reduceLeDiff]<;>rfl)
 focus (simp -dsimp (disch:=first|omega|(simp only [go_sem]; omega)) only [go_sem,seval,Nat.reduceEqDiff,Nat.reduceLeDiff]<;>rfl)
 rintro r G2 ⟨hsub2,rfl⟩
 rw [optF_keep]
 refine goS trivial ?_
 refine goR trivial ?_
 exact Fin.eq rfl ⟨rfl,_,.refl _,rfl⟩
theorem extend_ok (c:Ct) (o:Co) (hs:smallC c) (hl:∀ x ∈ allE c,0≤x.last):CallP Tryz.prog f_zz66 [eC c,eO o] (·=.tup [eC (extendC c o).1,eI (extendC c o).2]):=by
 refine CallP.of_deep (callT_of_W fol zz66_cp ?_)
 unfold extendC
 refine goS trivial ?_
 refine goR trivial ?_
 refine wNew_mk fun b hb=>?_
 refine goS trivial ?_
 (refine goX1 trivial (object_ok c o.obj hs hl) ?_; (repeat' (with_reducible apply Br.mk<;>intro _)))
 · rename_i h
   exact Fin.eq rfl ⟨rfl,_,.refl _,by rw [if_pos h]; rfl⟩
 · rename_i h h2 h3
   exact Fin.eq rfl ⟨rfl,_,.refl _,by rw [if_neg h,if_pos (.inr h3)]; rfl⟩
 rotate_left
 · rename_i h h2
   exact Fin.eq rfl ⟨rfl,_,.refl _,by rw [if_neg h,if_pos (.inl h2)]; rfl⟩
 rename_i h1 h2 h3
 rw [if_neg h1,if_neg (fun h=>h.elim h2 h3)]
 apply wC_n (sweep_ok c hs _ _ _ (extend1_ok o b _ (by simp)))
 focus (simp -dsimp (disch:=first|omega|(simp only [go_sem]; omega)) only [go_sem,seval,Nat.reduceEqDiff,Nat.reduceLeDiff]<;>decide)
 focus (simp -dsimp (disch:=first|omega|(simp only [go_sem]; omega)) only [go_sem,seval,Nat.reduceEqDiff,Nat.reduceLeDiff]<;>rfl)
 focus (simp -dsimp (disch:=first|omega|(simp only [go_sem]; omega)) only [go_sem,seval,Nat.reduceEqDiff,Nat.reduceLeDiff]<;>rfl)
 rintro r G2 ⟨hsub2,rfl⟩
 rw [optF_some]
 refine goS trivial ?_
 refine goR trivial ?_
 exact Fin.eq rfl ⟨rfl,_,.refl _,rfl⟩
theorem List_ok (c:Ct) (pre:Str) (hs:smallC c):CallP Tryz.prog f_zz84 [eC c,.str pre] (·=.tup [.list ((listC c pre).1.map eE),eI (listC c pre).2]):=by
 refine CallP.of_deep (callT_of_W fol zz84_cp ?_)
 unfold listC
 refine goS trivial ?_
 refine goR trivial ?_
 refine wNew_mk fun b hb=>?_
 refine goS trivial ?_
 (refine goX1 trivial (Check_ok c hs) ?_; (repeat' (with_reducible apply Br.mk<;>intro _)))
 · rename_i h
   refine Fin.eq rfl ⟨rfl,_,?_,by rw [if_pos h]⟩
   exact .tup _ _ (DRs.cons .nil (DRs.cons (.refl _) DRs.nil))
 rename_i h1
 rw [if_neg h1]
 apply wC_n (only_ok _ _ _ (List1_ok pre b _ (by simp)))
 focus (simp -dsimp (disch:=first|omega|(simp only [go_sem]; omega)) only [go_sem,seval,Nat.reduceEqDiff,Nat.reduceLeDiff]<;>decide)
 focus (simp -dsimp (disch:=first|omega|(simp only [go_sem]; omega)) only [go_sem,seval,Nat.reduceEqDiff,Nat.reduceLeDiff]<;>rfl)
 focus (simp -dsimp (disch:=first|omega|(simp only [go_sem]; omega)) only [go_sem,seval,Nat.reduceEqDiff,Nat.reduceLeDiff]<;>rfl)
 rintro r G' ⟨hsub,fv,rfl,hfn⟩
 have hs1:=hs.1
 have hc:=chosenE_ok c.ents (by omega) fv _ G' hfn
 rw [optF_keep,filter_keep] at hc
 refine goS trivial ?_
 (refine goQ (hc) ?_; refine goS trivial ?_)
 refine goR trivial ?_
 exact Fin.eq rfl ⟨rfl,_,.refl _,rfl⟩
end Go.Proofs.YtgoleoihpgmcbaaGreat
