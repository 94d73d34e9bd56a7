/-
 Layer 39 (catalog),continued: the specification's lists.
 Conditions: of each contract as it says.
-/
import Derived.Test.YtgoleoihpgmcbaaGreatG39m
namespace Go.Proofs.YtgoleoihpgmcbaaGreat
open Go Go.E2 C39
set_option linter.unusedSimpArgs false
set_option maxHeartbeats 1000000
def pSome (t w:Int) (x:En):Bool:=decide (t≤x.last∧x.obj ≠ w)
theorem take_filter {α:Type} {l:List α} {k:Nat} (h:k < l.length) (p:α→Bool):(l.take (k + 1)).filter p=(l.take k).filter p ++ (if p l[k]=true then [l[k]] else []):=by
 rw [List.take_succ_eq_append_getElem h,List.filter_append]
 congr 1
 by_cases hb:p l[k]=true<;>simp [hb]
theorem take_map {α β:Type} {l:List α} {k:Nat} (h:k < l.length) (f:α→β):(l.take (k + 1)).map f=(l.take k).map f ++ [f l[k]]:=by
 rw [List.take_succ_eq_append_getElem h,List.map_append]; rfl
theorem some_ok (l:List En) (hl:l.length≤100000) (t w:Int):CallP Tryz.prog f_zz43 [.list (l.map eE),eI t,eI w] (·=.d (.list ((l.filter (pSome t w)).map eE))):=by
 refine callP_of_W fol zz43_cp ?_
 have hm:=mostBytes_eq
 refine goS trivial ?_
 refine goR trivial ?_
 refine W.loop (fun m st=>∃ k,k≤l.length∧m=l.length - k ∧
  st=(E [(0,.d (.list (l.map eE))),(1,.d (eI t)),(2,.d (eI w)),(7,.own 4 (((l.take k).filter (pSome t w)).map eE)),(8,.d (eI k))],HB [],[],noGh))
  ⟨_,_,st_le (by (simp -dsimp (disch:=first|omega|(simp only [go_sem]; omega)) only [go_sem,seval,Nat.reduceEqDiff,Nat.reduceLeDiff,List.take_zero,List.filter_nil,List.map_nil]<;>((repeat' apply And.intro)<;>first|exact VLe.refl _|(apply vle_int; omega)|(apply vle_int; simp; done)|exact VLe.own _ _|exact VLe.nilown _|exact VLe.norm _))),0,by omega,rfl,rfl⟩ ?_
 rintro m st ⟨k,hk,rfl,rfl⟩
 refine goR trivial ?_
 refine wG_dec (fun h1=>?_) (fun h1=>?_)
 · have hk':k < l.length:=by omega
   have ht:=take_filter hk' (pSome t w)
   have hlen:((l.take k).filter (pSome t w)).length≤k:=Nat.le_trans (List.length_filter_le ..) (by rw [List.length_take]; omega)
   (repeat' (first|(with_reducible first|refine W.seq ?_|refine W.block ?_|refine W.scope ?_)|((first|(with_reducible first|refine W.reg ?_|refine W.skip ?_|refine W.exit ?_|refine W.ret ?_|refine W.ifc ?_)|((with_reducible first|refine wG_decE (fun _ hG=>?_) (fun _ hG=>?_)|refine wG_decFE (fun _ hG=>?_) (fun _ hG=>?_))<;>(try simp -dsimp only [hG,decide_true,decide_false,not_true_eq_false,not_false_eq_true])<;>clear hG))<;>(try simp -dsimp (disch:=first|omega|(simp only [go_sem]; omega)) only [go_sem,seval,Nat.reduceEqDiff,Nat.reduceLeDiff,List.length_map]))|simp -dsimp (disch:=first|omega|(simp only [go_sem]; omega)) only [go_sem,seval,Nat.reduceEqDiff,Nat.reduceLeDiff,List.length_map]))
   · have hp:pSome t w l[k]=true:=decide_eq_true ⟨by omega,by simp_all⟩
     rw [if_pos hp] at ht
     refine ⟨_,_,?_,st_le (by (simp -dsimp (disch:=first|omega|(simp only [go_sem]; omega)) only [go_sem,seval,Nat.reduceEqDiff,Nat.reduceLeDiff,ht,List.map_append,List.map_cons,List.map_nil]<;>((repeat' apply And.intro)<;>first|exact VLe.refl _|(apply vle_int; omega)|(apply vle_int; simp; done)|exact VLe.own _ _|exact VLe.nilown _|exact VLe.norm _))),k + 1,hk',rfl,rfl⟩
     omega
   · have hp:¬ pSome t w l[k]=true:=fun h=>by have:=of_decide_eq_true h; simp_all
     rw [if_neg hp,List.append_nil] at ht
     refine ⟨_,_,?_,st_le (by (simp -dsimp (disch:=first|omega|(simp only [go_sem]; omega)) only [go_sem,seval,Nat.reduceEqDiff,Nat.reduceLeDiff,ht]<;>((repeat' apply And.intro)<;>first|exact VLe.refl _|(apply vle_int; omega)|(apply vle_int; simp; done)|exact VLe.own _ _|exact VLe.nilown _|exact VLe.norm _))),k + 1,hk',rfl,rfl⟩
     omega
   · have hp:¬ pSome t w l[k]=true:=fun h=>by have:=of_decide_eq_true h; omega
     rw [if_neg hp,List.append_nil] at ht
     refine ⟨_,_,?_,st_le (by (simp -dsimp (disch:=first|omega|(simp only [go_sem]; omega)) only [go_sem,seval,Nat.reduceEqDiff,Nat.reduceLeDiff,ht]<;>((repeat' apply And.intro)<;>first|exact VLe.refl _|(apply vle_int; omega)|(apply vle_int; simp; done)|exact VLe.own _ _|exact VLe.nilown _|exact VLe.norm _))),k + 1,hk',rfl,rfl⟩
     omega
 · obtain rfl:k=l.length:=by omega
   refine goR trivial ?_
   exact Fin.p rfl (by rw [List.take_length])
theorem longer_ok (l:List En) (hl:l.length≤100000) (n t:Int):CallP Tryz.prog f_zz30 [.list (l.map eE),eI n,eI t] (·=.d (.list ((l.map (longE n t)).map eE))):=by
 refine callP_of_W fol zz30_cp ?_
 have hm:=mostBytes_eq
 refine goS trivial ?_
 refine goR trivial ?_
 refine W.loop (fun m st=>∃ k b9,k≤l.length∧m=l.length - k ∧
  st=(E [(0,.d (.list (l.map eE))),(1,.d (eI n)),(2,.d (eI t)),(7,.own 4 (((l.take k).map (longE n t)).map eE)),(8,.d (eI k))],HB [(9,b9)],[],noGh))
  ⟨_,_,st_leB (by (simp -dsimp (disch:=first|omega|(simp only [go_sem]; omega)) only [go_sem,seval,Nat.reduceEqDiff,Nat.reduceLeDiff,List.take_zero,List.map_nil]<;>((repeat' apply And.intro)<;>first|exact VLe.refl _|(apply vle_int; omega)|(apply vle_int; simp; done)|exact VLe.own _ _|exact VLe.nilown _|exact VLe.norm _))) (HB_pad [] [9] rfl).symm,0,_,by omega,rfl,rfl⟩ ?_
 rintro m st ⟨k,b9,hk,rfl,rfl⟩
 refine goR trivial ?_
 refine wG_dec (fun h1=>?_) (fun h1=>?_)
 · have hk':k < l.length:=by omega
   have ht:=take_map hk' (longE n t)
   have hlen:((l.take k).map (longE n t)).length≤k:=by rw [List.length_map,List.length_take]; omega
   (repeat' (first|(with_reducible first|refine W.seq ?_|refine W.block ?_|refine W.scope ?_)|((first|(with_reducible first|refine W.reg ?_|refine W.skip ?_|refine W.exit ?_|refine W.ret ?_|refine W.ifc ?_)|((with_reducible first|refine wG_decE (fun _ hG=>?_) (fun _ hG=>?_)|refine wG_decFE (fun _ hG=>?_) (fun _ hG=>?_))<;>(try simp -dsimp only [hG,decide_true,decide_false,not_true_eq_false,not_false_eq_true])<;>clear hG))<;>(try simp -dsimp (disch:=first|omega|(simp only [go_sem]; omega)) only [go_sem,seval,Nat.reduceEqDiff,Nat.reduceLeDiff,List.length_map]))|simp -dsimp (disch:=first|omega|(simp only [go_sem]; omega)) only [go_sem,seval,Nat.reduceEqDiff,Nat.reduceLeDiff,List.length_map]))
   · rename_i he
     rw [longE,if_pos he] at ht
     refine ⟨_,_,?_,st_leB (by (simp -dsimp (disch:=first|omega|(simp only [go_sem]; omega)) only [go_sem,seval,Nat.reduceEqDiff,Nat.reduceLeDiff,ht,List.map_append,List.map_cons,List.map_nil]<;>((repeat' apply And.intro)<;>first|exact VLe.refl _|(apply vle_int; omega)|(apply vle_int; simp; done)|exact VLe.own _ _|exact VLe.nilown _|exact VLe.norm _))) rfl,k + 1,_,hk',rfl,rfl⟩
     omega
   · rename_i he
     rw [longE,if_neg he] at ht
     refine ⟨_,_,?_,st_leB (by (simp -dsimp (disch:=first|omega|(simp only [go_sem]; omega)) only [go_sem,seval,Nat.reduceEqDiff,Nat.reduceLeDiff,ht,List.map_append,List.map_cons,List.map_nil]<;>((repeat' apply And.intro)<;>first|exact VLe.refl _|(apply vle_int; omega)|(apply vle_int; simp; done)|exact VLe.own _ _|exact VLe.nilown _|exact VLe.norm _))) rfl,k + 1,_,hk',rfl,rfl⟩
     omega
 · obtain rfl:k=l.length:=by omega
   refine goR trivial ?_
   exact Fin.p rfl (by rw [List.take_length])
theorem insE_cons {x y:En} {r:List En}:insE x (y::r)=if before x y then x::y::r else y::insE x r:=rfl
theorem with_ok (l:List En) (x:En) (hl:l.length≤100000):CallP Tryz.prog f_zz44 [.list (l.map eE),eE x] (·=.d (.list ((insE x l).map eE))):=by
 refine callP_of_W fol zz44_cp ?_
 have hm:=mostBytes_eq
 refine goS trivial ?_
 refine goR trivial ?_
 refine W.loop (fun m st=>∃ (k:Nat) (out:List En) (dn:Bool),k≤l.length∧m=l.length - k∧out.length≤k + dn.toNat∧(dn=true→insE x l=out ++ l.drop k)∧(dn=false→insE x l=out ++ insE x (l.drop k)) ∧
  st=(E [(0,.d (.list (l.map eE))),(3,.ptr 0 3 1 0),(5,.own 4 (out.map eE)),(6,.d (.bool dn)),(7,.d (eI k))],HB [(3,⟨1,some [.str x.name,eI x.ver,eI x.obj,eI x.last]⟩)],[],noGh))
  ⟨_,_,st_le (by (simp -dsimp (disch:=first|omega|(simp only [go_sem]; omega)) only [go_sem,seval,Nat.reduceEqDiff,Nat.reduceLeDiff,List.map_nil]<;>((repeat' apply And.intro)<;>first|exact VLe.refl _|(apply vle_int; omega)|(apply vle_int; simp; done)|exact VLe.own _ _|exact VLe.nilown _|exact VLe.norm _))),0,[],false,by omega,rfl,by simp,fun h=>(by cases h),fun _=>rfl,rfl⟩ ?_
 rintro m st ⟨k,out,dn,hk,rfl,hol,hd1,hd2,rfl⟩
 have hdn:dn.toNat≤1:=by cases dn<;>simp
 refine goR trivial ?_
 refine wG_dec (fun h1=>?_) (fun h1=>?_)
 · have hk':k < l.length:=by omega
   rw [drop_at hk'] at hd1 hd2
   cases dn with
   | true =>
    have hd:=hd1 rfl
    (repeat' (first|(with_reducible first|refine W.seq ?_|refine W.block ?_|refine W.scope ?_)|((first|(with_reducible first|refine W.reg ?_|refine W.skip ?_|refine W.exit ?_|refine W.ret ?_|refine W.ifc ?_)|(apply wC_P (before_ok x l[k]); (focus (simp -dsimp (disch:=first|omega|(simp only [go_sem]; omega)) only [go_sem,seval,Nat.reduceEqDiff,Nat.reduceLeDiff]<;>rfl)); rintro _ rfl)|((with_reducible first|refine wG_decE (fun _ hG=>?_) (fun _ hG=>?_)|refine wG_decFE (fun _ hG=>?_) (fun _ hG=>?_))<;>(try simp -dsimp only [hG,decide_true,decide_false,not_true_eq_false,not_false_eq_true])<;>clear hG))<;>(try simp -dsimp (disch:=first|omega|(simp only [go_sem]; omega)) only [go_sem,seval,Nat.reduceEqDiff,Nat.reduceLeDiff,List.length_map]))|simp -dsimp (disch:=first|omega|(simp only [go_sem]; omega)) only [go_sem,seval,Nat.reduceEqDiff,Nat.reduceLeDiff,List.length_map]))
    refine ⟨_,_,?_,st_le (by (simp -dsimp (disch:=first|omega|(simp only [go_sem]; omega)) only [go_sem,seval,Nat.reduceEqDiff,Nat.reduceLeDiff,List.map_append,List.map_cons,List.map_nil]<;>((repeat' apply And.intro)<;>first|exact VLe.refl _|(apply vle_int; omega)|(apply vle_int; simp; done)|exact VLe.own _ _|exact VLe.nilown _|exact VLe.norm _))),k + 1,out ++ [l[k]],true,hk',rfl,by simp at *; omega,fun _=>by rw [hd]; simp,fun h=>(by cases h),rfl⟩
    omega
   | false =>
    have hd:=hd2 rfl
    rw [insE_cons] at hd
    (repeat' (first|(with_reducible first|refine W.seq ?_|refine W.block ?_|refine W.scope ?_)|((first|(with_reducible first|refine W.reg ?_|refine W.skip ?_|refine W.exit ?_|refine W.ret ?_|refine W.ifc ?_)|(apply wC_P (before_ok x l[k]); (focus (simp -dsimp (disch:=first|omega|(simp only [go_sem]; omega)) only [go_sem,seval,Nat.reduceEqDiff,Nat.reduceLeDiff]<;>rfl)); rintro _ rfl)|((with_reducible first|refine wG_decE (fun _ hG=>?_) (fun _ hG=>?_)|refine wG_decFE (fun _ hG=>?_) (fun _ hG=>?_))<;>(try simp -dsimp only [hG,decide_true,decide_false,not_true_eq_false,not_false_eq_true])<;>clear hG))<;>(try simp -dsimp (disch:=first|omega|(simp only [go_sem]; omega)) only [go_sem,seval,Nat.reduceEqDiff,Nat.reduceLeDiff,List.length_map,List.length_append,List.length_cons,List.length_nil]))|simp -dsimp (disch:=first|omega|(simp only [go_sem]; omega)) only [go_sem,seval,Nat.reduceEqDiff,Nat.reduceLeDiff,List.length_map,List.length_append,List.length_cons,List.length_nil]))
    · rename_i hb
      rw [if_pos hb] at hd
      refine ⟨_,_,?_,st_le (by (simp -dsimp (disch:=first|omega|(simp only [go_sem]; omega)) only [go_sem,seval,Nat.reduceEqDiff,Nat.reduceLeDiff,List.map_append,List.map_cons,List.map_nil]<;>((repeat' apply And.intro)<;>first|exact VLe.refl _|(apply vle_int; omega)|(apply vle_int; simp; done)|exact VLe.own _ _|exact VLe.nilown _|exact VLe.norm _))),k + 1,out ++ [x] ++ [l[k]],true,hk',rfl,?_,fun _=>by rw [hd]; simp,fun h=>(by cases h),rfl⟩
      · omega
      · simp at *; omega
    · rename_i hb
      rw [if_neg hb] at hd
      refine ⟨_,_,?_,st_le (by (simp -dsimp (disch:=first|omega|(simp only [go_sem]; omega)) only [go_sem,seval,Nat.reduceEqDiff,Nat.reduceLeDiff,List.map_append,List.map_cons,List.map_nil]<;>((repeat' apply And.intro)<;>first|exact VLe.refl _|(apply vle_int; omega)|(apply vle_int; simp; done)|exact VLe.own _ _|exact VLe.nilown _|exact VLe.norm _))),k + 1,out ++ [l[k]],false,hk',rfl,by simp at *; omega,fun h=>(by cases h),fun _=>by rw [hd]; simp,rfl⟩
      omega
 · obtain rfl:k=l.length:=by omega
   rw [drop_end] at hd1 hd2
   cases dn with
   | true =>
    have hd:=hd1 rfl
    refine goR trivial ?_
    exact Fin.p rfl (by rw [hd,List.append_nil])
   | false =>
    have hd:=hd2 rfl
    (repeat (first|(with_reducible first|refine W.seq ?_|refine W.block ?_|refine W.scope ?_)|((with_reducible first|refine W.reg ?_|refine W.skip ?_|refine W.exit ?_|refine W.ret ?_|refine W.ifc ?_); simp -dsimp (disch:=first|omega|(simp only [go_sem]; omega)) only [go_sem,seval,Nat.reduceEqDiff,Nat.reduceLeDiff,List.length_map])))
    exact Fin.p rfl (by rw [hd,List.map_append]; rfl)
def swp (p:En→Bool) (s:Sn):Sn:={ s with ents:=s.ents.filter p }
theorem swept_ok (c:Ct) (hs:smallC c) (t w:Int):CallP Tryz.prog f_zz36 [eC c,eI t,eI w] (·=.d (eC { c with ents:=c.ents.filter (pSome t w),snaps:=c.snaps.map (swp (pSome t w)) })):=by
 refine CallP.of_deep (callT_of_W fol zz36_cp ?_)
 obtain ⟨s1,s2,s3⟩:=hs
 have hm:=mostBytes_eq
 refine goS trivial ?_
 refine goR trivial ?_
 (refine goC (some_ok c.ents (by omega) t w) ?_; refine goS trivial ?_)
 refine goR trivial ?_
 refine W.loop (fun m st=>∃ k x G,k≤c.snaps.length∧m=c.snaps.length - k∧GV 2 G x (((c.snaps.take k).map (swp (pSome t w))).map eS) ∧
  st=(E [(1,.d (eI t)),(2,.d (eI w)),(3,.ptr 0 3 1 0),(6,.ptr 0 6 1 0),(7,.ptr 0 7 1 0),(8,.d (eI k))],HB [(3,⟨1,some (cC c)⟩),(6,⟨1,some [eI 0,.nilS,.nilS]⟩),(7,⟨1,some [eI c.now,.list ((c.ents.filter (pSome t w)).map eE),x]⟩)],[],G))
  ⟨_,_,stle,0,.nilS,noGh,by omega,rfl,by rw [List.take_zero]; exact .nil,rfl⟩ ?_
 rintro m st ⟨k,x,G,hk,rfl,hx,rfl⟩
 refine goR trivial ?_
 refine wG_dec (fun h1=>?_) (fun h1=>?_)
 · have hk':k < c.snaps.length:=by omega
   have ht:=take_map hk' (swp (pSome t w))
   have hlk:=s3 _ (List.getElem_mem hk')
   have hc:=some_ok c.snaps[k].ents (by omega) t w
   rcases hx.shape with rfl|⟨b0,n0,c0,rfl⟩
   all_goals
    refine goR trivial ?_
    (refine goC (hc) ?_; refine goS trivial ?_)
    refine goR trivial ?_
    refine appV_GV2 hx (viewC_list (es:=[eS (swp (pSome t w) c.snaps[k])]) rfl) rfl rfl rfl (by rw [List.length_map,List.length_map,List.length_take,mostBytes_eq]; show (_ + 1) * 32≤_; omega) fun y' G2 hg hto=>?_
    have hg:GV 2 G2 y' (((c.snaps.take (k + 1)).map (swp (pSome t w))).map eS):=by rw [ht,List.map_append]; exact hg
    rcases hg.shape with rfl|⟨b',n',cap',rfl⟩
    all_goals
     refine goS trivial ?_
     refine goR trivial ?_
     refine ⟨_,_,?_,stleB rfl,k + 1,_,G2,hk',rfl,hg,rfl⟩
     omega
 · obtain rfl:k=c.snaps.length:=by omega
   rw [List.take_length] at hx
   rcases hx.shape with rfl|⟨b',n',cap',rfl⟩
   all_goals
    refine goR trivial ?_
    exact Fin.eq rfl ⟨rfl,_,.d _ _ (DRs.agg (DRs.cons (.refl _) (DRs.cons (.refl _) (DRs.cons hx.dr DRs.nil)))),rfl⟩
end Go.Proofs.YtgoleoihpgmcbaaGreat
/-
 Layer 39 (catalog),continued: what the specification's Do does.
 Conditions: of each contract as it says.
-/
namespace Go.Proofs.YtgoleoihpgmcbaaGreat
open Go Go.E2 C39
set_option linter.unusedSimpArgs false
set_option maxHeartbeats 1000000
def eM (c:Ct) (n e:Int):D:=.agg [.int .i64 c.now,.list (c.ents.map eE),.list (c.snaps.map eS),.int .i64 n,.int .i64 e]
attribute [go_sem] eM
def stV (name:Str) (v:Int) (y:En):Int:=if y.name=name then max v (y.ver + 1) else v
theorem stV_le {name:Str} {l:List En} (h:∀ y ∈ l,y.ver≤1099511627776):∀ v:Int,v≤1099511627777→l.foldl (stV name) v≤1099511627777:=by
 induction l with
 | nil=>intro v hv; exact hv
 | cons y r ih =>
  intro v hv
  rw [List.foldl_cons]
  refine ih (fun z hz=>h z (by simp [hz])) _ ?_
  have:=h y (by simp)
  unfold stV
  split
  · omega
  · exact hv
theorem refPut_ok (c:Ct) (o:Co) (hs:smallC c) (hv:Valid c):CallP Tryz.prog f_zz53 [eC c,eO o] (·=.d (eM (putC c o).1 0 (putC c o).2)):=by
 refine callP_of_W fol zz53_cp ?_
 have hs1:=hv.ents.1
 have hall:=all_len hs
 unfold putC
 refine goS trivial ?_
 (refine goX3 trivial (refRight_ok ⟨o.name,1,o.obj,o.last⟩) (All_ok c hs) (Last_ok (allE c) o.obj (by omega)) ?_; (repeat' (with_reducible apply Br.mk<;>intro _)))
 all_goals try (refine Fin.p rfl ?_; first|(rw [if_pos (by assumption)]; rfl)|(rw [if_neg (by assumption),if_pos (by assumption)]; rfl)|(rw [if_neg (by assumption),if_neg (by assumption),if_pos (by omega)]; rfl)|(rw [if_neg (by assumption),if_neg (by assumption),if_neg (by omega),if_pos (by omega)]; rfl))
 all_goals
  have k1:rightE ⟨o.name,1,o.obj,o.last⟩:=Classical.not_not.1 (by assumption)
  have k2:¬ o.last < c.now:=by assumption
  have k3:¬ (0≤lastOf (allE c) o.obj∧lastOf (allE c) o.obj ≠ o.last):=by omega
  have k4:¬ 200≤c.ents.length:=by omega
  rw [if_neg (fun h=>h k1),if_neg k2,if_neg k3,if_neg k4]
  refine W.loop (fun m st=>∃ k:Nat,k≤(allE c).length∧m=(allE c).length - k ∧
   st=(E [(2,.ptr 0 2 1 0),(3,.ptr 0 3 1 0),(4,.ptr 0 4 1 0),(5,.ptr 0 5 1 0),(7,.d (.list ((allE c).map eE))),(9,.d (eI k))],HB [(2,⟨1,some (cC c)⟩),(3,⟨1,some (cO o)⟩),(4,⟨1,some [eI 0,.nilS,.nilS,eI 0,eI 0]⟩),(5,⟨1,some [.str o.name,eI (((allE c).take k).foldl (stV o.name) 1),eI o.obj,eI o.last]⟩)],[],noGh))
   ⟨_,_,stle,0,by omega,rfl,rfl⟩ ?_
  rintro m st ⟨k,hk,rfl,rfl⟩
  have hle:=stV_le (name:=o.name) (l:=(allE c).take k) (fun y hy=>(hv.right (List.mem_of_mem_take hy)).2.2.2.1) 1 (by decide)
  refine goR trivial ?_
  refine wG_dec (fun h1=>?_) (fun h1=>?_)
  · have hk':k < (allE c).length:=by omega
    have hy:=hv.right (List.getElem_mem hk')
    have ht:((allE c).take (k + 1)).foldl (stV o.name) 1=stV o.name (((allE c).take k).foldl (stV o.name) 1) (allE c)[k]:=by
     rw [List.take_succ_eq_append_getElem hk',List.foldl_append]; rfl
    generalize ((allE c).take k).foldl (stV o.name) 1=v at ht hle
    have hy1:=hy.2.2.1
    have hy2:=hy.2.2.2.1
    (refine goX trivial ?_; (repeat' (with_reducible apply Br.mk<;>intro _)))
    · rename_i ha hb
      have e:stV o.name v (allE c)[k]=(allE c)[k].ver + 1:=by rw [stV,if_pos ha]; omega
      rw [e] at ht
      refine ⟨_,_,?_,stleB (by rw [ht]),k + 1,hk',rfl,rfl⟩
      omega
    all_goals
     have e:stV o.name v (allE c)[k]=v:=by first|(rw [stV,if_neg (by assumption)]; done)|(rw [stV,if_pos (by assumption)]; omega)
     rw [e] at ht
     refine ⟨_,_,?_,stleB (by rw [ht]),k + 1,hk',rfl,rfl⟩
     omega
  · obtain rfl:k=(allE c).length:=by omega
    rw [List.take_length] at hle
    have hnx:(allE c).foldl (stV o.name) 1=nextVer (allE c) o.name:=rfl
    rw [List.take_length,hnx]
    (refine goX1 trivial (with_ok c.ents ⟨o.name,nextVer (allE c) o.name,o.obj,o.last⟩ (by omega)) ?_; (repeat' (with_reducible apply Br.mk<;>intro _)))
    · rename_i g
      exact Fin.p rfl (by rw [if_pos g]; rfl)
    · rename_i g
      exact Fin.p rfl (by rw [if_neg g]; rfl)
theorem insS_cons {x y:Sn} {r:List Sn}:insS x (y::r)=if x.snap < y.snap then x::y::r else y::insS x r:=rfl
theorem refSnap_ok (c:Ct) (n:Int) (hs:smallC c):CallP Tryz.prog f_zz42 [eC c,eI n] (·=.d (eM (snapC c n).1 0 (snapC c n).2)):=by
 refine callP_of_W fol zz42_cp ?_
 obtain ⟨s1,s2,s3⟩:=hs
 have hm:=mostBytes_eq
 unfold snapC
 refine goS trivial ?_
 (refine goX trivial ?_; (repeat' (with_reducible apply Br.mk<;>intro _)))
 all_goals try (refine Fin.p rfl ?_; rw [if_pos (by omega)]; rfl)
 rw [if_neg (by omega)]
 refine W.loop (fun m st=>∃ (k:Nat) (out:List Sn) (dn:Bool),k≤c.snaps.length∧m=c.snaps.length - k∧out.length≤k + dn.toNat∧(∀ j (h:j < c.snaps.length),j < k→c.snaps[j].snap ≠ n)∧(dn=true→insS ⟨n,c.ents⟩ c.snaps=out ++ c.snaps.drop k)∧(dn=false→insS ⟨n,c.ents⟩ c.snaps=out ++ insS ⟨n,c.ents⟩ (c.snaps.drop k)) ∧
  st=(E [(1,.d (eI n)),(2,.ptr 0 2 1 0),(4,.ptr 0 4 1 0),(5,.own 2 (out.map eS)),(6,.d (.bool dn)),(7,.d (eI k))],HB [(2,⟨1,some (cC c)⟩),(4,⟨1,some [eI 0,.nilS,.nilS,eI 0,eI 0]⟩)],[],noGh))
  ⟨_,_,st_le (by (simp -dsimp (disch:=first|omega|(simp only [go_sem]; omega)) only [go_sem,seval,Nat.reduceEqDiff,Nat.reduceLeDiff,List.map_nil]<;>((repeat' apply And.intro)<;>first|exact VLe.refl _|(apply vle_int; omega)|(apply vle_int; simp; done)|exact VLe.own _ _|exact VLe.nilown _|exact VLe.norm _))),0,[],false,by omega,rfl,by simp,fun _ _ h=>(by omega),fun h=>(by cases h),fun _=>rfl,rfl⟩ ?_
 rintro m st ⟨k,out,dn,hk,rfl,hol,hlo,hd1,hd2,rfl⟩
 have hdn:dn.toNat≤1:=by cases dn<;>simp
 refine goR trivial ?_
 refine wG_dec (fun h1=>?_) (fun h1=>?_)
 · have hk':k < c.snaps.length:=by omega
   have hlo':¬ c.snaps[k].snap=n→∀ j (h:j < c.snaps.length),j < k + 1→c.snaps[j].snap ≠ n:=fun hne j hj hlt=>by
    by_cases e:j=k
    · subst e; exact hne
    · exact hlo j hj (by omega)
   rw [drop_at hk'] at hd1 hd2
   cases dn with
   | true =>
    have hd:=hd1 rfl
    (repeat' (first|(with_reducible first|refine W.seq ?_|refine W.block ?_|refine W.scope ?_)|((first|(with_reducible first|refine W.reg ?_|refine W.skip ?_|refine W.exit ?_|refine W.ret ?_|refine W.ifc ?_)|((with_reducible first|refine wG_decE (fun _ hG=>?_) (fun _ hG=>?_)|refine wG_decFE (fun _ hG=>?_) (fun _ hG=>?_))<;>(try simp -dsimp only [hG,decide_true,decide_false,not_true_eq_false,not_false_eq_true])<;>clear hG))<;>(try simp -dsimp (disch:=first|omega|(simp only [go_sem]; omega)) only [go_sem,seval,Nat.reduceEqDiff,Nat.reduceLeDiff,List.length_map]))|simp -dsimp (disch:=first|omega|(simp only [go_sem]; omega)) only [go_sem,seval,Nat.reduceEqDiff,Nat.reduceLeDiff,List.length_map]))
    · rename_i he
      exact Fin.p rfl (by rw [if_pos ⟨_,List.getElem_mem hk',he⟩]; rfl)
    · rename_i he
      refine ⟨_,_,?_,st_le (by (simp -dsimp (disch:=first|omega|(simp only [go_sem]; omega)) only [go_sem,seval,Nat.reduceEqDiff,Nat.reduceLeDiff,List.map_append,List.map_cons,List.map_nil]<;>((repeat' apply And.intro)<;>first|exact VLe.refl _|(apply vle_int; omega)|(apply vle_int; simp; done)|exact VLe.own _ _|exact VLe.nilown _|exact VLe.norm _))),k + 1,out ++ [c.snaps[k]],true,hk',rfl,by simp at *; omega,hlo' he,fun _=>by rw [hd]; simp,fun h=>(by cases h),rfl⟩
      omega
   | false =>
    have hd:=hd2 rfl
    rw [insS_cons] at hd
    (repeat' (first|(with_reducible first|refine W.seq ?_|refine W.block ?_|refine W.scope ?_)|((first|(with_reducible first|refine W.reg ?_|refine W.skip ?_|refine W.exit ?_|refine W.ret ?_|refine W.ifc ?_)|((with_reducible first|refine wG_decE (fun _ hG=>?_) (fun _ hG=>?_)|refine wG_decFE (fun _ hG=>?_) (fun _ hG=>?_))<;>(try simp -dsimp only [hG,decide_true,decide_false,not_true_eq_false,not_false_eq_true])<;>clear hG))<;>(try simp -dsimp (disch:=first|omega|(simp only [go_sem]; omega)) only [go_sem,seval,Nat.reduceEqDiff,Nat.reduceLeDiff,List.length_map,List.length_append,List.length_cons,List.length_nil]))|simp -dsimp (disch:=first|omega|(simp only [go_sem]; omega)) only [go_sem,seval,Nat.reduceEqDiff,Nat.reduceLeDiff,List.length_map,List.length_append,List.length_cons,List.length_nil]))
    · rename_i he
      exact Fin.p rfl (by rw [if_pos ⟨_,List.getElem_mem hk',he⟩]; rfl)
    · rename_i he hb
      rw [if_pos hb] at hd
      refine ⟨_,_,?_,st_le (by (simp -dsimp (disch:=first|omega|(simp only [go_sem]; omega)) only [go_sem,seval,Nat.reduceEqDiff,Nat.reduceLeDiff,List.map_append,List.map_cons,List.map_nil]<;>((repeat' apply And.intro)<;>first|exact VLe.refl _|(apply vle_int; omega)|(apply vle_int; simp; done)|exact VLe.own _ _|exact VLe.nilown _|exact VLe.norm _))),k + 1,out ++ [⟨n,c.ents⟩] ++ [c.snaps[k]],true,hk',rfl,?_,hlo' he,fun _=>by rw [hd]; simp,fun h=>(by cases h),rfl⟩
      · omega
      · simp at *; omega
    · rename_i he hb
      rw [if_neg hb] at hd
      refine ⟨_,_,?_,st_le (by (simp -dsimp (disch:=first|omega|(simp only [go_sem]; omega)) only [go_sem,seval,Nat.reduceEqDiff,Nat.reduceLeDiff,List.map_append,List.map_cons,List.map_nil]<;>((repeat' apply And.intro)<;>first|exact VLe.refl _|(apply vle_int; omega)|(apply vle_int; simp; done)|exact VLe.own _ _|exact VLe.nilown _|exact VLe.norm _))),k + 1,out ++ [c.snaps[k]],false,hk',rfl,by simp at *; omega,hlo' he,fun h=>(by cases h),fun _=>by rw [hd]; simp,rfl⟩
      omega
 · obtain rfl:k=c.snaps.length:=by omega
   have hn:¬ ∃ s ∈ c.snaps,s.snap=n:=by
    rintro ⟨s,hs,e⟩
    obtain ⟨j,hj,rfl⟩:=List.getElem_of_mem hs
    exact hlo j hj hj e
   rw [drop_end] at hd1 hd2
   rw [if_neg hn]
   cases dn with
   | true =>
    have hd:=hd1 rfl
    rw [List.append_nil] at hd
    rw [hd]
    (repeat' (first|(with_reducible first|refine W.seq ?_|refine W.block ?_|refine W.scope ?_)|((first|(with_reducible first|refine W.reg ?_|refine W.skip ?_|refine W.exit ?_|refine W.ret ?_|refine W.ifc ?_)|((with_reducible first|refine wG_decE (fun _ hG=>?_) (fun _ hG=>?_)|refine wG_decFE (fun _ hG=>?_) (fun _ hG=>?_))<;>(try simp -dsimp only [hG,decide_true,decide_false,not_true_eq_false,not_false_eq_true])<;>clear hG))<;>(try simp -dsimp (disch:=first|omega|(simp only [go_sem]; omega)) only [go_sem,seval,Nat.reduceEqDiff,Nat.reduceLeDiff,List.length_map]))|simp -dsimp (disch:=first|omega|(simp only [go_sem]; omega)) only [go_sem,seval,Nat.reduceEqDiff,Nat.reduceLeDiff,List.length_map]))
    · rename_i h
      exact Fin.p rfl (by rw [if_pos (by omega)]; rfl)
    · rename_i h
      exact Fin.p rfl (by rw [if_neg (by omega)]; rfl)
   | false =>
    have hd:=hd2 rfl
    have e0:insS ⟨n,c.ents⟩ []=[⟨n,c.ents⟩]:=rfl
    rw [e0] at hd
    rw [hd]
    (repeat' (first|(with_reducible first|refine W.seq ?_|refine W.block ?_|refine W.scope ?_)|((first|(with_reducible first|refine W.reg ?_|refine W.skip ?_|refine W.exit ?_|refine W.ret ?_|refine W.ifc ?_)|((with_reducible first|refine wG_decE (fun _ hG=>?_) (fun _ hG=>?_)|refine wG_decFE (fun _ hG=>?_) (fun _ hG=>?_))<;>(try simp -dsimp only [hG,decide_true,decide_false,not_true_eq_false,not_false_eq_true])<;>clear hG))<;>(try simp -dsimp (disch:=first|omega|(simp only [go_sem]; omega)) only [go_sem,seval,Nat.reduceEqDiff,Nat.reduceLeDiff,List.length_map,List.length_append,List.length_cons,List.length_nil]))|simp -dsimp (disch:=first|omega|(simp only [go_sem]; omega)) only [go_sem,seval,Nat.reduceEqDiff,Nat.reduceLeDiff,List.length_map,List.length_append,List.length_cons,List.length_nil]))
    · rename_i h
      exact Fin.p rfl (by rw [if_pos (by omega)]; rfl)
    · rename_i h
      exact Fin.p rfl (by rw [if_neg (by omega)]; simp only [eM,List.map_append]; rfl)
end Go.Proofs.YtgoleoihpgmcbaaGreat
