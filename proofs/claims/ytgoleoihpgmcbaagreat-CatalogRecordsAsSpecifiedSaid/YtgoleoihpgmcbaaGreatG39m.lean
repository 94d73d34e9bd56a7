/-
 Layer 39 (catalog),continued: CaPut; the operations.
 Conditions: of each contract as it says.
-/
import Derived.Test.YtgoleoihpgmcbaaGreatG39l
namespace Go.Proofs.YtgoleoihpgmcbaaGreat
open Go Go.E2 C39
set_option linter.unusedSimpArgs false
set_option maxHeartbeats 1000000
def stepP (name:Str) (v:Int) (y:En):Int × Bool:=(if y.name=name then max v (y.ver + 1) else v,true)
def fP (c:Ct) (o:Co) (v:Int):List (Nat × Blk):=[(2,⟨1,some (cC c)⟩),(3,⟨1,some (cO o)⟩),(4,⟨1,some [eI 0,.nilS,.nilS]⟩),(6,⟨1,some [.str o.name,eI v,eI o.obj,eI o.last]⟩)]
theorem put_step (c:Ct) (o:Co) (σ0:List Hp) (G0:Gh):StepOk f_zz77 [(3,1),(6,1)] σ0 (fun y=>0≤y.ver∧y.ver≤1099511627776) (fun v H G=>H=HB (fP c o v)∧G=G0) (stepP o.name):=by
 rintro pre v y H G ⟨rfl,rfl⟩ ⟨hv0,hv1⟩
 refine callT_of_W fol zz77_cp ?_
 have hb3:blk (pre ++ HB (fP c o v)::σ0) pre.length 3 1=some (cO o):=by rw [blk_mid]; rfl
 have hb6:blk (pre ++ HB (fP c o v)::σ0) pre.length 6 1=some [.str o.name,eI v,eI o.obj,eI o.last]:=by rw [blk_mid]; rfl
 simp only [capsP,List.map_cons,List.map_nil]
 refine goS trivial ?_
 (refine goX (nn hb3 hb6) ?_; (repeat' (with_reducible apply Br.mk<;>intro _)))
 · rename_i he
   refine ⟨_,get_mid _ _ _,?_⟩
   rw [set_mid,upd_HB]
   refine goR trivial ?_
   exact Fin.eq rfl ⟨_,rfl,rfl,by simp only [stepP,if_pos he]; rfl,rfl⟩
 · rename_i he
   exact Fin.eq rfl ⟨_,rfl,rfl,by simp only [stepP,if_neg he],rfl⟩
theorem runs_put (name:Str):∀ (l:List En) (v:Int),runs (stepP name) v l=(l.foldl (fun v y=>if y.name=name then max v (y.ver + 1) else v) v,true)
 | [],v=>rfl
 | x::r,v=>by
   have h:(stepP name v x).2=true:=rfl
   rw [runs,if_pos h,runs_put name r]; rfl
theorem put_ok (c:Ct) (o:Co) (hs:smallC c) (hv:Valid c):CallP Tryz.prog f_zz92 [eC c,eO o] (·=.tup [eC (putC c o).1,eI (putC c o).2]):=by
 refine callP_of_W fol zz92_cp ?_
 have hl:∀ x ∈ allE c,0≤x.last:=fun x hx=>(hv.right hx).2.2.2.2.2.2.1
 have hs1:=hv.ents.1
 unfold putC
 refine goS trivial ?_
 (refine goX2 trivial (object_ok c o.obj hs hl) (right_ok ⟨o.name,1,o.obj,o.last⟩) ?_; (repeat' (with_reducible apply Br.mk<;>intro _)))
 all_goals try (refine Fin.p rfl ?_; first|(rw [if_pos (by assumption)]; rfl)|(rw [if_neg (by assumption),if_pos (by assumption)]; rfl)|(rw [if_neg (by assumption),if_neg (by assumption),if_pos (by omega)]; rfl)|(rw [if_neg (by assumption),if_neg (by assumption),if_neg (by omega),if_pos (by omega)]; rfl))
 all_goals
  have k1:rightE ⟨o.name,1,o.obj,o.last⟩:=Classical.not_not.1 (by assumption)
  have k2:¬ o.last < c.now:=by assumption
  have k3:¬ (0≤lastOf (allE c) o.obj∧lastOf (allE c) o.obj ≠ o.last):=by omega
  have k4:¬ 200≤c.ents.length:=by omega
  rw [if_neg (fun h=>h k1),if_neg k2,if_neg k3,if_neg k4]
  apply wC_cap (each_ok (put_step c o [] noGh) c hs (fun x hx=>by have h:=hv.right hx; exact ⟨by have:=h.2.2.1; omega,h.2.2.2.1⟩) [] 1 _ noGh ⟨rfl,rfl⟩)
  focus (simp -dsimp (disch:=first|omega|(simp only [go_sem]; omega)) only [go_sem,seval,Nat.reduceEqDiff,Nat.reduceLeDiff]<;>rfl)
  focus (simp -dsimp (disch:=first|omega|(simp only [go_sem]; omega)) only [go_sem,seval,Nat.reduceEqDiff,Nat.reduceLeDiff]<;>rfl)
  rintro r lv G' ⟨H',rfl,rfl,rfl,rfl⟩
  refine ⟨_,_,rfl,?_⟩
  rw [runs_put]
  have hnx:(allE c).foldl (fun v y=>if y.name=o.name then max v (y.ver + 1) else v) 1=nextVer (allE c) o.name:=rfl
  simp only [hnx]
  generalize hnv:nextVer (allE c) o.name=nv
  have hadd:=added_ok c ⟨o.name,nv,o.obj,o.last⟩ hs hv.ents.2.2 (fun y hy h=>by
   have:=nextVer_gt (l:=allE c) (mem_all.2 (.inl hy))
   have h1:=h.1; have h2:=h.2
   simp only at h1 h2
   rw [h1,hnv] at this
   omega)
  unfold fP
  refine goS trivial ?_
  (refine goX1 trivial (hadd) ?_; (repeat' (with_reducible apply Br.mk<;>intro _)))
  · rename_i g
    exact Fin.p rfl (by rw [if_pos g]; rfl)
  · rename_i g
    exact Fin.p rfl (by rw [if_neg g]; rfl)
def kinds:List (Int × FuncId):=[(1,f_zz89),(2,f_zz92),(3,f_zz85),(4,f_zz67),(5,f_zz66),(6,f_zz88),(7,f_zz72)]
theorem operations_ok (G:Gh) (σ:List Hp):CallT Tryz.prog f_zz31 ([].map .d) σ G fun r σ' G'=>σ'=σ∧GExt G G'∧∃ b,r=.d (.mref b)∧MapL [.i] eI (fun f=>D.fn f) G' b kinds:=by
 refine callT_of_W fol zz31_cp ?_
 refine goS trivial ?_
 refine goR trivial ?_
 refine wNewM_mk fun b hb=>?_
 have h0:MapL [.i] eI (fun f=>D.fn f) (G.setM b (some (.map [] 0))) b []:=MapL.new (keyE_int _)
 refine goS trivial ?_
 refine wGd_put (emb:=eI) (vf:=fun f=>D.fn f) h0 1 f_zz89 fun M h0=>?_
 rw [Gh.setM_setM] at h0
 refine goS trivial ?_
 refine wGd_put (emb:=eI) (vf:=fun f=>D.fn f) h0 2 f_zz92 fun M h0=>?_
 rw [Gh.setM_setM] at h0
 refine goS trivial ?_
 refine wGd_put (emb:=eI) (vf:=fun f=>D.fn f) h0 3 f_zz85 fun M h0=>?_
 rw [Gh.setM_setM] at h0
 refine goS trivial ?_
 refine wGd_put (emb:=eI) (vf:=fun f=>D.fn f) h0 4 f_zz67 fun M h0=>?_
 rw [Gh.setM_setM] at h0
 refine goS trivial ?_
 refine wGd_put (emb:=eI) (vf:=fun f=>D.fn f) h0 5 f_zz66 fun M h0=>?_
 rw [Gh.setM_setM] at h0
 refine goS trivial ?_
 refine wGd_put (emb:=eI) (vf:=fun f=>D.fn f) h0 6 f_zz88 fun M h0=>?_
 rw [Gh.setM_setM] at h0
 refine goS trivial ?_
 refine wGd_put (emb:=eI) (vf:=fun f=>D.fn f) h0 7 f_zz72 fun M h0=>?_
 rw [Gh.setM_setM] at h0
 refine goS trivial ?_
 refine goR trivial ?_
 exact Fin.eq rfl ⟨rfl,⟨fun _ _ h=>h,fun c o h=>by
  have:c ≠ b:=by rintro rfl; rw [hb] at h; cases h
  rw [Gh.setM_m,upd_off this]; exact h⟩,b,rfl,h0⟩
theorem Do_ok (c:Ct) (o:Co) (hs:smallC c):CallP Tryz.prog f_zz95 [eC c,eO o] (·=.tup [eC (doC c o).1,eI (doC c o).2]):=by
 refine CallP.of_deep (callT_of_W fol zz95_cp ?_)
 unfold doC
 refine goS trivial ?_
 (refine goX1 trivial (Check_ok c hs) ?_; (repeat' (with_reducible apply Br.mk<;>intro _)))
 · rename_i h
   exact Fin.eq rfl ⟨rfl,_,.refl _,by rw [if_pos h]; rfl⟩
 rename_i h
 have h0:chk c=0:=Classical.not_not.1 h
 have hv:=(chk_iff c).1 h0
 have hl:∀ x ∈ allE c,0≤x.last:=fun x hx=>(hv.right hx).2.2.2.2.2.2.1
 have hf:=hv.few
 rw [if_neg (fun h=>h h0)]
 apply wC_gx0 (fun σ=>operations_ok noGh σ) (fun r G' h=>h.1)
 focus (simp -dsimp (disch:=first|omega|(simp only [go_sem]; omega)) only [go_sem,seval,Nat.reduceEqDiff,Nat.reduceLeDiff]<;>rfl)
 focus (simp -dsimp (disch:=first|omega|(simp only [go_sem]; omega)) only [go_sem,seval,Nat.reduceEqDiff,Nat.reduceLeDiff]<;>rfl)
 rintro r G1 ⟨hx,b,rfl,hm⟩
 have hlook:=hm.look2 .nilF o.kind
 by_cases k1:o.kind=1
 · rw [if_pos k1]
   have hl1:gdD (.mlook [.i] .nilF true) [.mref b,eI o.kind] G1=some (.tup [.fn f_zz89,.bool true],G1):=by rw [hlook,k1]; rfl
   refine goS hl1 ?_
   refine goR trivial ?_
   (refine goC (tick_ok c o hs) ?_; refine goS trivial ?_)
   refine goR trivial ?_
   exact Fin.eq rfl ⟨rfl,_,.refl _,rfl⟩
 by_cases k2:o.kind=2
 · rw [if_neg k1,if_pos k2]
   have hl1:gdD (.mlook [.i] .nilF true) [.mref b,eI o.kind] G1=some (.tup [.fn f_zz92,.bool true],G1):=by rw [hlook,k2]; rfl
   refine goS hl1 ?_
   refine goR trivial ?_
   (refine goC (put_ok c o hs hv) ?_; refine goS trivial ?_)
   refine goR trivial ?_
   exact Fin.eq rfl ⟨rfl,_,.refl _,rfl⟩
 by_cases k3:o.kind=3
 · rw [if_neg k1,if_neg k2,if_pos k3]
   have hl1:gdD (.mlook [.i] .nilF true) [.mref b,eI o.kind] G1=some (.tup [.fn f_zz85,.bool true],G1):=by rw [hlook,k3]; rfl
   refine goS hl1 ?_
   refine goR trivial ?_
   (refine goC (drop_ok c o hs hv.ents.2.2) ?_; refine goS trivial ?_)
   refine goR trivial ?_
   exact Fin.eq rfl ⟨rfl,_,.refl _,rfl⟩
 by_cases k4:o.kind=4
 · rw [if_neg k1,if_neg k2,if_neg k3,if_pos k4]
   have hl1:gdD (.mlook [.i] .nilF true) [.mref b,eI o.kind] G1=some (.tup [.fn f_zz67,.bool true],G1):=by rw [hlook,k4]; rfl
   refine goS hl1 ?_
   refine goR trivial ?_
   (refine goC (forget_ok c o hs hl) ?_; refine goS trivial ?_)
   refine goR trivial ?_
   exact Fin.eq rfl ⟨rfl,_,.refl _,rfl⟩
 by_cases k5:o.kind=5
 · rw [if_neg k1,if_neg k2,if_neg k3,if_neg k4,if_pos k5]
   have hl1:gdD (.mlook [.i] .nilF true) [.mref b,eI o.kind] G1=some (.tup [.fn f_zz66,.bool true],G1):=by rw [hlook,k5]; rfl
   refine goS hl1 ?_
   refine goR trivial ?_
   (refine goC (extend_ok c o hs hl) ?_; refine goS trivial ?_)
   refine goR trivial ?_
   exact Fin.eq rfl ⟨rfl,_,.refl _,rfl⟩
 by_cases k6:o.kind=6
 · rw [if_neg k1,if_neg k2,if_neg k3,if_neg k4,if_neg k5,if_pos k6]
   have hl1:gdD (.mlook [.i] .nilF true) [.mref b,eI o.kind] G1=some (.tup [.fn f_zz88,.bool true],G1):=by rw [hlook,k6]; rfl
   refine goS hl1 ?_
   refine goR trivial ?_
   (refine goC (snap_ok c o hs hf hv.order) ?_; refine goS trivial ?_)
   refine goR trivial ?_
   exact Fin.eq rfl ⟨rfl,_,.refl _,rfl⟩
 by_cases k7:o.kind=7
 · rw [if_neg k1,if_neg k2,if_neg k3,if_neg k4,if_neg k5,if_neg k6,if_pos k7]
   have hl1:gdD (.mlook [.i] .nilF true) [.mref b,eI o.kind] G1=some (.tup [.fn f_zz72,.bool true],G1):=by rw [hlook,k7]; rfl
   refine goS hl1 ?_
   refine goR trivial ?_
   (refine goC (unsnap_ok c o hs hv.order) ?_; refine goS trivial ?_)
   refine goR trivial ?_
   exact Fin.eq rfl ⟨rfl,_,.refl _,rfl⟩
 rw [if_neg k1,if_neg k2,if_neg k3,if_neg k4,if_neg k5,if_neg k6,if_neg k7]
 have hl1:gdD (.mlook [.i] .nilF true) [.mref b,eI o.kind] G1=some (.tup [.nilF,.bool false],G1):=by
  have:mget kinds o.kind=none:=by
   rw [mget_none]
   simp only [kinds,List.map_cons,List.map_nil,List.mem_cons,List.not_mem_nil,or_false]
   omega
  rw [hlook,this]; rfl
 refine goS hl1 ?_
 refine goR trivial ?_
 exact Fin.eq rfl ⟨rfl,_,.refl _,rfl⟩
end Go.Proofs.YtgoleoihpgmcbaaGreat
