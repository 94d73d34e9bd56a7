/-
 Layer 39 (catalog),continued: entries and snapshots put in,and taken out.
 Conditions: of each contract as it says.
-/
import Derived.Test.YtgoleoihpgmcbaaGreatG39k
namespace Go.Proofs.YtgoleoihpgmcbaaGreat
open Go Go.E2 C39
set_option linter.unusedSimpArgs false
set_option maxHeartbeats 1000000
theorem map_ins {α:Type} (e:α→D) (l:List α) (x:α) (i:Nat):(l.map e).take i ++ [e x] ++ (l.map e).drop i=(l.take i ++ [x] ++ l.drop i).map e:=by simp
theorem map_erase {α:Type} (e:α→D):∀ (l:List α) (i:Nat),(l.map e).eraseIdx i=(l.eraseIdx i).map e
 | [],_=>rfl
 | _::_,0=>rfl
 | y::r,i + 1=>by simp [map_erase e r i]
theorem added_ok (c:Ct) (x:En) (hs:smallC c) (ho:c.ents.Pairwise before) (hn:∀ y ∈ c.ents,¬ sameK y x):CallP Tryz.prog f_zz75 [eC c,eE x] (·=.d (eC { c with ents:=insE x c.ents })):=by
 refine CallP.of_deep (callT_of_W fol zz75_cp ?_)
 have hs1:=hs.1
 have hpl:=plc_le (bfE x) c.ents
 refine goS trivial ?_
 refine goR trivial ?_
 (refine goC (searchE_ok c.ents x (by omega) ho) ?_; refine goS trivial ?_)
 refine goR trivial ?_
 apply wC_g2 (CloneE_ok (c.ents.map eE) (eE_all _) (by rw [List.length_map]; omega) _ _)
 focus (simp -dsimp (disch:=first|omega|(simp only [go_sem]; omega)) only [go_sem,seval,Nat.reduceEqDiff,Nat.reduceLeDiff]<;>fail)
 focus (simp -dsimp (disch:=first|omega|(simp only [go_sem]; omega)) only [go_sem,seval,Nat.reduceEqDiff,Nat.reduceLeDiff]<;>rfl)
 rintro _ G1 ⟨y,rfl,hy,-⟩
 refine goS trivial ?_
 apply wC_g2 (InsertE_ok (v:=eE x) (i:=plc (bfE x) c.ents) rfl (by rw [List.length_map]; exact hpl) (by rw [List.length_map]; omega) _ hy)
 focus (simp -dsimp (disch:=first|omega|(simp only [go_sem]; omega)) only [go_sem,seval,Nat.reduceEqDiff,Nat.reduceLeDiff]<;>fail)
 focus (simp -dsimp (disch:=first|omega|(simp only [go_sem]; omega)) only [go_sem,seval,Nat.reduceEqDiff,Nat.reduceLeDiff]<;>rfl)
 rintro _ G2 ⟨y',rfl,hy',-⟩
 rw [map_ins,← insE_plc hn] at hy'
 rcases hy'.shape with rfl|⟨b',n',cap',rfl⟩
 all_goals
  refine goS trivial ?_
  refine goR trivial ?_
  exact Fin.eq rfl ⟨rfl,_,.d _ _ (DRs.agg (DRs.cons (.refl _) (DRs.cons hy'.dr (DRs.cons (.refl _) DRs.nil)))),rfl⟩
theorem drop_ok (c:Ct) (o:Co) (hs:smallC c) (ho:c.ents.Pairwise before):CallP Tryz.prog f_zz85 [eC c,eO o] (·=.tup [eC (dropC c o).1,eI (dropC c o).2]):=by
 refine CallP.of_deep (callT_of_W fol zz85_cp ?_)
 have hs1:=hs.1
 have hpl:=plc_le (bfE ⟨o.name,o.ver,0,0⟩) c.ents
 have hk:(∃ y ∈ c.ents,smE ⟨o.name,o.ver,0,0⟩ y=true)↔∃ y ∈ c.ents,y.name=o.name∧y.ver=o.ver:=exists_congr fun y=>and_congr_right fun _=>⟨fun h=>(of_decide_eq_true h:sameK y _),fun h=>decide_eq_true (show sameK y _ from h)⟩
 unfold dropC
 refine goS trivial ?_
 refine goR trivial ?_
 (refine goC (searchE_ok c.ents ⟨o.name,o.ver,0,0⟩ (by omega) ho) ?_; refine goS trivial ?_)
 (refine goX trivial ?_; (repeat' (with_reducible apply Br.mk<;>intro _)))
 · rename_i h
   have h:¬ ∃ y ∈ c.ents,y.name=o.name∧y.ver=o.ver:=fun h'=>h (hk.2 h')
   exact Fin.eq rfl ⟨rfl,_,.refl _,by rw [if_neg h]; rfl⟩
 rename_i h
 have h:∃ y ∈ c.ents,smE ⟨o.name,o.ver,0,0⟩ y=true:=Classical.not_not.1 h
 have h2:∃ y ∈ c.ents,sameK y ⟨o.name,o.ver,0,0⟩:=by
  obtain ⟨y,hy,e⟩:=h
  exact ⟨y,hy,of_decide_eq_true e⟩
 have her:=eraseE ho h2
 have hlt:plc (bfE ⟨o.name,o.ver,0,0⟩) c.ents < c.ents.length:=by
  have:=(known_plc (p:=bfE ⟨o.name,o.ver,0,0⟩) (q:=smE ⟨o.name,o.ver,0,0⟩) (l:=c.ents) (fun a b ha hb hab h=>sortE ho _ a b ha hb hab (.inr h)) (fun y hy hb=>sameK.not_before (of_decide_eq_true hy) (of_decide_eq_true hb))).1 h
  exact this.1
 rw [if_pos (hk.1 h)]
 apply wC_g (CloneE_ok (c.ents.map eE) (eE_all _) (by rw [List.length_map]; omega) _ _)
 focus (simp -dsimp (disch:=first|omega|(simp only [go_sem]; omega)) only [go_sem,seval,Nat.reduceEqDiff,Nat.reduceLeDiff]<;>fail)
 focus (simp -dsimp (disch:=first|omega|(simp only [go_sem]; omega)) only [go_sem,seval,Nat.reduceEqDiff,Nat.reduceLeDiff]<;>rfl)
 rintro _ G1 ⟨y,rfl,hy,-⟩
 rcases hy.shape with rfl|⟨b',n',cap',rfl⟩
 all_goals
  refine goS trivial ?_
  apply wC_g (DeleteE_ok (i:=plc (bfE ⟨o.name,o.ver,0,0⟩) c.ents) (by rw [List.length_map]; exact hlt) (by rw [List.length_map]; omega) _ hy)
  focus (simp -dsimp (disch:=first|omega|(simp only [go_sem]; omega)) only [go_sem,seval,Nat.reduceEqDiff,Nat.reduceLeDiff]<;>fail)
  focus (simp -dsimp (disch:=first|omega|(simp only [go_sem]; omega)) only [go_sem,seval,Nat.reduceEqDiff,Nat.reduceLeDiff]<;>rfl)
  rintro _ G2 ⟨y',rfl,hy',-⟩
  rw [map_erase,← her] at hy'
  rcases hy'.shape with rfl|⟨b',n',cap',rfl⟩
  all_goals
   refine goS trivial ?_
   refine goR trivial ?_
   exact Fin.eq rfl ⟨rfl,_,.tup _ _ (DRs.cons (DRs.agg (DRs.cons (.refl _) (DRs.cons hy'.dr (DRs.cons (.refl _) DRs.nil)))) (DRs.cons (.refl _) DRs.nil)),rfl⟩
theorem snapped_ok (c:Ct) (n:Int) (hs:smallC c) (ho:c.snaps.Pairwise fun a b=>a.snap < b.snap):CallP Tryz.prog f_zz56 [eC c,eI n] (·=.tup [eI (plc (bfS n) c.snaps),.bool (decide (∃ s ∈ c.snaps,s.snap=n))]):=by
 refine callP_of_W fol zz56_cp ?_
 have hs2:=hs.2.1
 have hk:(∃ y ∈ c.snaps,smS n y=true)↔∃ y ∈ c.snaps,y.snap=n:=by simp [smS]
 refine goS trivial ?_
 refine goR trivial ?_
 (refine goC (searchS_ok c.snaps n (by omega) ho) ?_; refine goS trivial ?_)
 refine goR trivial ?_
 refine Fin.p rfl ?_
 congr 4
 exact decide_eq_decide.2 hk
theorem unsnap_ok (c:Ct) (o:Co) (hs:smallC c) (ho:c.snaps.Pairwise fun a b=>a.snap < b.snap):CallP Tryz.prog f_zz72 [eC c,eO o] (·=.tup [eC (unsnapC c o).1,eI (unsnapC c o).2]):=by
 refine CallP.of_deep (callT_of_W fol zz72_cp ?_)
 have hs2:=hs.2.1
 unfold unsnapC
 refine goS trivial ?_
 (refine goX1 trivial (snapped_ok c o.snap hs ho) ?_; (repeat' (with_reducible apply Br.mk<;>intro _)))
 · rename_i h
   exact Fin.eq rfl ⟨rfl,_,.refl _,by rw [if_neg h]; rfl⟩
 rename_i h
 have h:∃ y ∈ c.snaps,y.snap=o.snap:=Classical.not_not.1 h
 have her:=eraseS ho h
 have hlt:plc (bfS o.snap) c.snaps < c.snaps.length:=by
  have h2:∃ y ∈ c.snaps,smS o.snap y=true:=by simpa [smS] using h
  have:=(known_plc (p:=bfS o.snap) (q:=smS o.snap) (l:=c.snaps) (fun a b ha hb hab h=>sortS ho _ a b ha hb hab (.inr h)) (fun y hy hb=>by have h1:=of_decide_eq_true hy; have h2:=of_decide_eq_true hb; omega)).1 h2
  exact this.1
 rw [if_pos h]
 apply wC_g (CloneS_ok (c.snaps.map eS) (eS_all _) (by rw [List.length_map]; omega) _ _)
 focus (simp -dsimp (disch:=first|omega|(simp only [go_sem]; omega)) only [go_sem,seval,Nat.reduceEqDiff,Nat.reduceLeDiff]<;>fail)
 focus (simp -dsimp (disch:=first|omega|(simp only [go_sem]; omega)) only [go_sem,seval,Nat.reduceEqDiff,Nat.reduceLeDiff]<;>rfl)
 rintro _ G1 ⟨y,rfl,hy,-⟩
 rcases hy.shape with rfl|⟨b',n',cap',rfl⟩
 all_goals
  refine goS trivial ?_
  apply wC_g (DeleteS_ok (i:=plc (bfS o.snap) c.snaps) (by rw [List.length_map]; exact hlt) (by rw [List.length_map]; omega) _ hy)
  focus (simp -dsimp (disch:=first|omega|(simp only [go_sem]; omega)) only [go_sem,seval,Nat.reduceEqDiff,Nat.reduceLeDiff]<;>fail)
  focus (simp -dsimp (disch:=first|omega|(simp only [go_sem]; omega)) only [go_sem,seval,Nat.reduceEqDiff,Nat.reduceLeDiff]<;>rfl)
  rintro _ G2 ⟨y',rfl,hy',-⟩
  rw [map_erase,← her] at hy'
  rcases hy'.shape with rfl|⟨b',n',cap',rfl⟩
  all_goals
   refine goS trivial ?_
   refine goR trivial ?_
   exact Fin.eq rfl ⟨rfl,_,.tup _ _ (DRs.cons (DRs.agg (DRs.cons (.refl _) (DRs.cons (.refl _) (DRs.cons hy'.dr DRs.nil)))) (DRs.cons (.refl _) DRs.nil)),rfl⟩
theorem snap_ok (c:Ct) (o:Co) (hs:smallC c) (hsl:c.snaps.length≤10) (ho:c.snaps.Pairwise fun a b=>a.snap < b.snap):CallP Tryz.prog f_zz88 [eC c,eO o] (·=.tup [eC (snapC c o.snap).1,eI (snapC c o.snap).2]):=by
 refine CallP.of_deep (callT_of_W fol zz88_cp ?_)
 have hs1:=hs.1
 have hpl:=plc_le (bfS o.snap) c.snaps
 unfold snapC
 refine goS trivial ?_
 (refine goX2 trivial (snapped_ok c o.snap hs ho) (within_ok o.snap 1099511627776) ?_; (repeat' (with_reducible apply Br.mk<;>intro _)))
 all_goals try (refine Fin.eq rfl ⟨rfl,_,.refl _,?_⟩; first|(rw [if_pos (by omega)]; rfl)|(rw [if_neg (by omega),if_pos (by assumption)]; rfl)|(rw [if_neg (by omega),if_neg (by assumption),if_pos (by omega)]; rfl))
 rename_i g1 g2 g3
 rw [if_neg (by omega),if_neg g2,if_neg (by omega)]
 have hn:∀ y ∈ c.snaps,y.snap ≠ (⟨o.snap,c.ents⟩:Sn).snap:=fun y hy e=>g2 ⟨y,hy,e⟩
 apply wC_g2 (CloneS_ok (c.snaps.map eS) (eS_all _) (by rw [List.length_map]; omega) _ _)
 focus (simp -dsimp (disch:=first|omega|(simp only [go_sem]; omega)) only [go_sem,seval,Nat.reduceEqDiff,Nat.reduceLeDiff]<;>fail)
 focus (simp -dsimp (disch:=first|omega|(simp only [go_sem]; omega)) only [go_sem,seval,Nat.reduceEqDiff,Nat.reduceLeDiff]<;>rfl)
 rintro _ G1 ⟨y,rfl,hy,-⟩
 refine goS trivial ?_
 (refine goC (ClonePlain_ok c.ents (by omega)) ?_; refine goS trivial ?_)
 refine goR trivial ?_
 apply wC_g2 (InsertS_ok (v:=eS ⟨o.snap,c.ents⟩) (i:=plc (bfS o.snap) c.snaps) rfl (by rw [List.length_map]; exact hpl) (by rw [List.length_map]; omega) _ hy)
 focus (simp -dsimp (disch:=first|omega|(simp only [go_sem]; omega)) only [go_sem,seval,Nat.reduceEqDiff,Nat.reduceLeDiff]<;>fail)
 focus (simp -dsimp (disch:=first|omega|(simp only [go_sem]; omega)) only [go_sem,seval,Nat.reduceEqDiff,Nat.reduceLeDiff]<;>rfl)
 rintro _ G2 ⟨y',rfl,hy',-⟩
 rw [map_ins,← insS_plc hn] at hy'
 rcases hy'.shape with rfl|⟨b',n',cap',rfl⟩
 all_goals
  refine goS trivial ?_
  refine goR trivial ?_
  exact Fin.eq rfl ⟨rfl,_,.tup _ _ (DRs.cons (DRs.agg (DRs.cons (.refl _) (DRs.cons (.refl _) (DRs.cons hy'.dr DRs.nil)))) (DRs.cons (.refl _) DRs.nil)),rfl⟩
end Go.Proofs.YtgoleoihpgmcbaaGreat
