/-
 Layer 39 (catalog),continued: the specification's Do.
 Conditions: of each contract as it says.
-/
import Derived.Test.YtgoleoihpgmcbaaGreatG39n
namespace Go.Proofs.YtgoleoihpgmcbaaGreat
open Go Go.E2 C39
set_option linter.unusedSimpArgs false
set_option maxHeartbeats 1000000
theorem swept_keep {c:Ct} {t w:Int} {p:En→Bool} (h:∀ x ∈ allE c,pSome t w x=p x):({ c with ents:=c.ents.filter (pSome t w),snaps:=c.snaps.map (swp (pSome t w)) }:Ct)=sweepC (keepIf p) c:=by
 unfold sweepC
 congr 1
 · rw [filter_keep]
   exact List.filter_congr fun x hx=>h x (mem_all.2 (.inl hx))
 · refine List.map_congr_left fun s hs=>?_
   unfold swp
   rw [filter_keep]
   congr 1
   exact List.filter_congr fun x hx=>h x (mem_all.2 (.inr ⟨s,hs,hx⟩))
theorem filter_len {α:Type} {p:α→Bool} {l:List α}:(l.filter (fun y=>! p y)).length=l.length↔¬ ∃ y ∈ l,p y=true:=by
 rw [List.length_filter_eq_length_iff]
 constructor
 · rintro h ⟨y,hy,e⟩
   have:=h y hy
   rw [e] at this; cases this
 · intro h y hy
   cases e:p y with
   | false=>rfl
   | true=>exact (h ⟨y,hy,e⟩).elim
def qDrop (o:Co) (x:En):Bool:=decide (x.name=o.name∧x.ver=o.ver)
def qSnap (n:Int) (s:Sn):Bool:=decide (s.snap=n)
theorem refDo_ok (c:Ct) (o:Co) (hs:smallC c):CallP Tryz.prog f_zz59 [eC c,eO o] (·=.d (eM (doC c o).1 0 (doC c o).2)):=by
 refine CallP.of_deep (callT_of_W fol zz59_cp ?_)
 have hall:=all_len hs
 have hm:=mostBytes_eq
 obtain ⟨s1,s2,s3⟩:=id hs
 unfold doC
 refine goS trivial ?_
 by_cases h0:chk c=0
 case neg =>
  (refine goX1 h0 (refCheck_ok c hs) ?_; (repeat' (with_reducible apply Br.mk<;>intro _)))
  exact Fin.eq rfl ⟨rfl,_,.refl _,by rw [if_pos h0]; rfl⟩
 have hv:=(chk_iff c).1 h0
 rw [if_neg (fun h=>h h0)]
 by_cases k1:o.kind=1
 · rw [if_pos k1]
   have hsw:=swept_ok { c with now:=o.tick } hs o.tick (-1)
   rw [swept_keep (p:=fun x=>decide (o.tick≤x.last)) (fun x hx=>by
    have:=(hv.right (show x ∈ allE c from hx)).2.2.2.2.1
    refine decide_eq_decide.2 ⟨fun h=>h.1,fun h=>⟨h,by omega⟩⟩)] at hsw
   unfold tickC
   (refine goX4 (nn h0 k1) (refCheck_ok c hs) (All_ok c hs) (Last_ok (allE c) o.obj (by omega)) (hsw) ?_; (repeat' (with_reducible apply Br.mk<;>intro _)))
   all_goals (refine Fin.eq rfl ⟨rfl,_,.refl _,?_⟩; first|(rw [if_pos (by assumption)]; rfl)|(rw [if_neg (by assumption),if_pos (by assumption)]; rfl)|(rw [if_neg (by assumption),if_neg (by assumption)]; rfl))
 have e1:=eq_false k1
 by_cases k2:o.kind=2
 · have e2:=eq_true k2
   rw [if_neg k1,if_pos k2]
   (refine goX4 (nn h0 (nn e1 e2)) (refCheck_ok c hs) (All_ok c hs) (Last_ok (allE c) o.obj (by omega)) (refPut_ok c o hs hv) ?_; (repeat' (with_reducible apply Br.mk<;>intro _)))
   exact Fin.eq rfl ⟨rfl,_,.refl _,rfl⟩
 have e2:=eq_false k2
 by_cases k3:o.kind=3
 · have e3:=eq_true k3
   rw [if_neg k1,if_neg k2,if_pos k3]
   (refine goX3 (nn h0 (nn e1 (nn e2 e3))) (refCheck_ok c hs) (All_ok c hs) (Last_ok (allE c) o.obj (by omega)) ?_; (repeat' (with_reducible apply Br.mk<;>intro _)))
   refine W.loop (fun m st=>∃ k x G,k≤c.ents.length∧m=c.ents.length - k∧GV 4 G x (((c.ents.take k).filter fun y=>! qDrop o y).map eE) ∧
    st=(E [(2,.ptr 0 2 1 0),(3,.ptr 0 3 1 0),(4,.ptr 0 4 1 0),(7,.ptr 0 7 1 0),(8,.d (eI k))],HB [(2,⟨1,some (cC c)⟩),(3,⟨1,some (cO o)⟩),(4,⟨1,some [eI 0,.nilS,.nilS,eI 0,eI 0]⟩),(7,⟨1,some [eI c.now,x,.list (c.snaps.map eS)]⟩)],[],G))
    ⟨_,_,stle,0,.nilS,noGh,by omega,rfl,by rw [List.take_zero]; exact .nil,rfl⟩ ?_
   rintro m st ⟨k,x,G,hk,rfl,hx,rfl⟩
   refine goR trivial ?_
   refine wG_dec (fun h1=>?_) (fun h1=>?_)
   · have hk':k < c.ents.length:=by omega
     have ht:=take_filter hk' (fun y=>! qDrop o y)
     have hln:((c.ents.take k).filter fun y=>! qDrop o y).length≤k:=Nat.le_trans (List.length_filter_le ..) (by rw [List.length_take]; omega)
     have keep:¬ (c.ents[k].name=o.name∧c.ents[k].ver=o.ver)→(c.ents.take (k + 1)).filter (fun y=>! qDrop o y)=(c.ents.take k).filter (fun y=>! qDrop o y) ++ [c.ents[k]]:=fun h=>by
      have:qDrop o c.ents[k]=false:=decide_eq_false h
      rw [ht,this]; rfl
     rcases hx.shape with rfl|⟨b0,n0,c0,rfl⟩
     all_goals
      (refine goX trivial ?_; (repeat' (with_reducible apply Br.mk<;>intro _)))
      all_goals first
       | (refine appV_GV2 hx (viewC_list (es:=[eE c.ents[k]]) rfl) rfl rfl rfl (by rw [List.length_map,mostBytes_eq]; show (_ + 1) * 40≤_; omega) fun y' G2 hg hto=>?_
          have hg:GV 4 G2 y' (((c.ents.take (k + 1)).filter fun y=>! qDrop o y).map eE):=by rw [keep (by simp_all),List.map_append]; exact hg
          rcases hg.shape with rfl|⟨b',n',cap',rfl⟩
          all_goals
           refine goS trivial ?_
           refine goR trivial ?_
           refine ⟨_,_,?_,stleB rfl,k + 1,_,G2,hk',rfl,hg,rfl⟩
           omega)
       | (have hq:qDrop o c.ents[k]=true:=decide_eq_true (by simp_all)
          rw [hq] at ht
          refine ⟨_,_,?_,stleB rfl,k + 1,_,G,hk',rfl,by rw [ht]; simpa using hx,rfl⟩
          omega)
   · obtain rfl:k=c.ents.length:=by omega
     rw [List.take_length] at hx
     have hfl:=filter_len (p:=qDrop o) (l:=c.ents)
     have hkn:(∃ y ∈ c.ents,qDrop o y=true)↔∃ y ∈ c.ents,y.name=o.name∧y.ver=o.ver:=exists_congr fun y=>and_congr_right fun _=>⟨fun h=>of_decide_eq_true h,fun h=>decide_eq_true h⟩
     have hlen:=hx.len
     unfold dropC
     rcases hx.shape with rfl|⟨b0,n0,c0,rfl⟩
     all_goals
      (repeat' (first|(with_reducible first|refine W.seq ?_|refine W.block ?_|refine W.scope ?_)|((first|(with_reducible first|refine W.reg ?_|refine W.skip ?_|refine W.exit ?_|refine W.ret ?_|refine W.ifc ?_)|((with_reducible first|refine wG_decE (fun _ hG=>?_) (fun _ hG=>?_)|refine wG_decFE (fun _ hG=>?_) (fun _ hG=>?_))<;>(try simp -dsimp only [hG,decide_true,decide_false,not_true_eq_false,not_false_eq_true])<;>clear hG))<;>(try simp -dsimp (disch:=first|omega|(simp only [go_sem]; omega)) only [go_sem,seval,Nat.reduceEqDiff,Nat.reduceLeDiff,hlen,List.length_map]))|simp -dsimp (disch:=first|omega|(simp only [go_sem]; omega)) only [go_sem,seval,Nat.reduceEqDiff,Nat.reduceLeDiff,hlen,List.length_map]))
      · rename_i he
        have hno:¬ ∃ y ∈ c.ents,qDrop o y=true:=hfl.1 (by omega)
        exact Fin.eq rfl ⟨rfl,_,.refl _,by rw [if_neg (fun h=>hno (hkn.2 h))]; rfl⟩
      · rename_i he
        have hno:∃ y ∈ c.ents,qDrop o y=true:=Classical.byContradiction fun h=>he (by have:=hfl.2 h; omega)
        exact Fin.eq rfl ⟨rfl,_,.d _ _ (DRs.agg (DRs.cons (.refl _) (DRs.cons hx.dr (DRs.cons (.refl _) (DRs.cons (.refl _) (DRs.cons (.refl _) DRs.nil)))))),by rw [if_pos (hkn.1 hno)]; rfl⟩
 have e3:=eq_false k3
 by_cases k4:o.kind=4
 · have e4:=eq_true k4
   rw [if_neg k1,if_neg k2,if_neg k3,if_pos k4]
   have hsw:=swept_ok c hs 0 o.obj
   rw [swept_keep (p:=fun x=>decide (x.obj ≠ o.obj)) (fun x hx=>by
    have:=(hv.right hx).2.2.2.2.2.2.1
    exact decide_eq_decide.2 ⟨fun h=>h.2,fun h=>⟨by omega,h⟩⟩)] at hsw
   unfold forgetC
   (refine goX4 (nn h0 (nn e1 (nn e2 (nn e3 e4)))) (refCheck_ok c hs) (All_ok c hs) (Last_ok (allE c) o.obj (by omega)) (hsw) ?_; (repeat' (with_reducible apply Br.mk<;>intro _)))
   all_goals (refine Fin.eq rfl ⟨rfl,_,.refl _,?_⟩; first|(rw [if_pos (by assumption)]; rfl)|(rw [if_neg (by assumption)]; rfl))
 have e4:=eq_false k4
 by_cases k5:o.kind=5
 · have e5:=eq_true k5
   rw [if_neg k1,if_neg k2,if_neg k3,if_neg k4,if_pos k5]
   unfold extendC
   (refine goX4 (nn h0 (nn e1 (nn e2 (nn e3 (nn e4 e5))))) (refCheck_ok c hs) (All_ok c hs) (Last_ok (allE c) o.obj (by omega)) (longer_ok c.ents (by omega) o.obj o.last) ?_; (repeat' (with_reducible apply Br.mk<;>intro _)))
   all_goals try (refine Fin.eq rfl ⟨rfl,_,.refl _,?_⟩; first|(rw [if_pos (by assumption)]; rfl)|(rw [if_neg (by assumption),if_pos (by omega)]; rfl))
   rw [if_neg (by assumption),if_neg (by omega)]
   refine W.loop (fun m st=>∃ k x G,k≤c.snaps.length∧m=c.snaps.length - k∧GV 2 G x (((c.snaps.take k).map fun s=>{ s with ents:=s.ents.map (longE o.obj o.last) }).map eS) ∧
    st=(E [(2,.ptr 0 2 1 0),(3,.ptr 0 3 1 0),(4,.ptr 0 4 1 0),(9,.ptr 0 9 1 0),(10,.d (eI k))],HB [(2,⟨1,some (cC c)⟩),(3,⟨1,some (cO o)⟩),(4,⟨1,some [eI 0,.nilS,.nilS,eI 0,eI 0]⟩),(9,⟨1,some [eI c.now,.list ((c.ents.map (longE o.obj o.last)).map eE),x]⟩)],[],G))
    ⟨_,_,stle,0,.nilS,noGh,by omega,rfl,by rw [List.take_zero]; exact .nil,rfl⟩ ?_
   rintro m st ⟨k,x,G,hk,rfl,hx,rfl⟩
   refine goR trivial ?_
   refine wG_dec (fun h1=>?_) (fun h1=>?_)
   · have hk':k < c.snaps.length:=by omega
     have ht:=take_map hk' (fun s:Sn=>({ s with ents:=s.ents.map (longE o.obj o.last) }:Sn))
     have hlk:=s3 _ (List.getElem_mem hk')
     have hc:=longer_ok c.snaps[k].ents (by omega) o.obj o.last
     rcases hx.shape with rfl|⟨b0,n0,c0,rfl⟩
     all_goals
      refine goR trivial ?_
      (refine goC (hc) ?_; refine goS trivial ?_)
      refine goR trivial ?_
      refine appV_GV2 hx (viewC_list (es:=[eS { c.snaps[k] with ents:=c.snaps[k].ents.map (longE o.obj o.last) }]) rfl) rfl rfl rfl (by rw [List.length_map,List.length_map,List.length_take,mostBytes_eq]; show (_ + 1) * 32≤_; omega) fun y' G2 hg hto=>?_
      have hg:GV 2 G2 y' (((c.snaps.take (k + 1)).map fun s:Sn=>({ s with ents:=s.ents.map (longE o.obj o.last) }:Sn)).map eS):=by rw [ht,List.map_append]; exact hg
      rcases hg.shape with rfl|⟨b',n',cap',rfl⟩
      all_goals
       refine goS trivial ?_
       refine goR trivial ?_
       refine ⟨_,_,?_,stleB rfl,k + 1,_,G2,hk',rfl,hg,rfl⟩
       omega
   · obtain rfl:k=c.snaps.length:=by omega
     rw [List.take_length] at hx
     have hsw:sweepC (fun x=>some (longE o.obj o.last x)) c={ c with ents:=c.ents.map (longE o.obj o.last),snaps:=c.snaps.map fun s=>{ s with ents:=s.ents.map (longE o.obj o.last) } }:=by
      unfold sweepC
      simp only [List.filterMap_eq_map']
     rw [hsw]
     rcases hx.shape with rfl|⟨b',n',cap',rfl⟩
     all_goals
      refine goR trivial ?_
      exact Fin.eq rfl ⟨rfl,_,.d _ _ (DRs.agg (DRs.cons (.refl _) (DRs.cons (.refl _) (DRs.cons hx.dr (DRs.cons (.refl _) (DRs.cons (.refl _) DRs.nil)))))),rfl⟩
 have e5:=eq_false k5
 by_cases k6:o.kind=6
 · have e6:=eq_true k6
   rw [if_neg k1,if_neg k2,if_neg k3,if_neg k4,if_neg k5,if_pos k6]
   (refine goX4 (nn h0 (nn e1 (nn e2 (nn e3 (nn e4 (nn e5 e6)))))) (refCheck_ok c hs) (All_ok c hs) (Last_ok (allE c) o.obj (by omega)) (refSnap_ok c o.snap hs) ?_; (repeat' (with_reducible apply Br.mk<;>intro _)))
   exact Fin.eq rfl ⟨rfl,_,.refl _,rfl⟩
 have e6:=eq_false k6
 by_cases k7:o.kind=7
 · have e7:=eq_true k7
   rw [if_neg k1,if_neg k2,if_neg k3,if_neg k4,if_neg k5,if_neg k6,if_pos k7]
   (refine goX3 (nn h0 (nn e1 (nn e2 (nn e3 (nn e4 (nn e5 (nn e6 e7))))))) (refCheck_ok c hs) (All_ok c hs) (Last_ok (allE c) o.obj (by omega)) ?_; (repeat' (with_reducible apply Br.mk<;>intro _)))
   refine W.loop (fun m st=>∃ k x G,k≤c.snaps.length∧m=c.snaps.length - k∧GV 2 G x (((c.snaps.take k).filter fun y=>! qSnap o.snap y).map eS) ∧
    st=(E [(2,.ptr 0 2 1 0),(3,.ptr 0 3 1 0),(4,.ptr 0 4 1 0),(11,.ptr 0 11 1 0),(12,.d (eI k))],HB [(2,⟨1,some (cC c)⟩),(3,⟨1,some (cO o)⟩),(4,⟨1,some [eI 0,.nilS,.nilS,eI 0,eI 0]⟩),(11,⟨1,some [eI c.now,.list (c.ents.map eE),x]⟩)],[],G))
    ⟨_,_,stle,0,.nilS,noGh,by omega,rfl,by rw [List.take_zero]; exact .nil,rfl⟩ ?_
   rintro m st ⟨k,x,G,hk,rfl,hx,rfl⟩
   refine goR trivial ?_
   refine wG_dec (fun h1=>?_) (fun h1=>?_)
   · have hk':k < c.snaps.length:=by omega
     have ht:=take_filter hk' (fun y=>! qSnap o.snap y)
     have hln:((c.snaps.take k).filter fun y=>! qSnap o.snap y).length≤k:=Nat.le_trans (List.length_filter_le ..) (by rw [List.length_take]; omega)
     rcases hx.shape with rfl|⟨b0,n0,c0,rfl⟩
     all_goals
      (refine goX trivial ?_; (repeat' (with_reducible apply Br.mk<;>intro _)))
      all_goals first
       | (refine appV_GV2 hx (viewC_list (es:=[eS c.snaps[k]]) rfl) rfl rfl rfl (by rw [List.length_map,mostBytes_eq]; show (_ + 1) * 32≤_; omega) fun y' G2 hg hto=>?_
          have hq:qSnap o.snap c.snaps[k]=false:=decide_eq_false (by assumption)
          have hg:GV 2 G2 y' (((c.snaps.take (k + 1)).filter fun y=>! qSnap o.snap y).map eS):=by rw [ht,hq,List.map_append]; exact hg
          rcases hg.shape with rfl|⟨b',n',cap',rfl⟩
          all_goals
           refine goS trivial ?_
           refine goR trivial ?_
           refine ⟨_,_,?_,stleB rfl,k + 1,_,G2,hk',rfl,hg,rfl⟩
           omega)
       | (have hq:qSnap o.snap c.snaps[k]=true:=decide_eq_true (Classical.not_not.1 (by assumption))
          rw [hq] at ht
          refine ⟨_,_,?_,stleB rfl,k + 1,_,G,hk',rfl,by rw [ht]; simpa using hx,rfl⟩
          omega)
   · obtain rfl:k=c.snaps.length:=by omega
     rw [List.take_length] at hx
     have hfl:=filter_len (p:=qSnap o.snap) (l:=c.snaps)
     have hkn:(∃ y ∈ c.snaps,qSnap o.snap y=true)↔∃ y ∈ c.snaps,y.snap=o.snap:=exists_congr fun y=>and_congr_right fun _=>⟨fun h=>of_decide_eq_true h,fun h=>decide_eq_true h⟩
     have hlen:=hx.len
     unfold unsnapC
     rcases hx.shape with rfl|⟨b0,n0,c0,rfl⟩
     all_goals
      (repeat' (first|(with_reducible first|refine W.seq ?_|refine W.block ?_|refine W.scope ?_)|((first|(with_reducible first|refine W.reg ?_|refine W.skip ?_|refine W.exit ?_|refine W.ret ?_|refine W.ifc ?_)|((with_reducible first|refine wG_decE (fun _ hG=>?_) (fun _ hG=>?_)|refine wG_decFE (fun _ hG=>?_) (fun _ hG=>?_))<;>(try simp -dsimp only [hG,decide_true,decide_false,not_true_eq_false,not_false_eq_true])<;>clear hG))<;>(try simp -dsimp (disch:=first|omega|(simp only [go_sem]; omega)) only [go_sem,seval,Nat.reduceEqDiff,Nat.reduceLeDiff,hlen,List.length_map]))|simp -dsimp (disch:=first|omega|(simp only [go_sem]; omega)) only [go_sem,seval,Nat.reduceEqDiff,Nat.reduceLeDiff,hlen,List.length_map]))
      · rename_i he
        have hno:¬ ∃ y ∈ c.snaps,qSnap o.snap y=true:=hfl.1 (by omega)
        exact Fin.eq rfl ⟨rfl,_,.refl _,by rw [if_neg (fun h=>hno (hkn.2 h))]; rfl⟩
      · rename_i he
        have hno:∃ y ∈ c.snaps,qSnap o.snap y=true:=Classical.byContradiction fun h=>he (by have:=hfl.2 h; omega)
        exact Fin.eq rfl ⟨rfl,_,.d _ _ (DRs.agg (DRs.cons (.refl _) (DRs.cons (.refl _) (DRs.cons hx.dr (DRs.cons (.refl _) (DRs.cons (.refl _) DRs.nil)))))),by rw [if_pos (hkn.1 hno)]; rfl⟩
 have e7:=eq_false k7
 rw [if_neg k1,if_neg k2,if_neg k3,if_neg k4,if_neg k5,if_neg k6,if_neg k7]
 (refine goX3 (nn h0 (nn e1 (nn e2 (nn e3 (nn e4 (nn e5 (nn e6 e7))))))) (refCheck_ok c hs) (All_ok c hs) (Last_ok (allE c) o.obj (by omega)) ?_; (repeat' (with_reducible apply Br.mk<;>intro _)))
 exact Fin.eq rfl ⟨rfl,_,.refl _,rfl⟩
end Go.Proofs.YtgoleoihpgmcbaaGreat
/-
 Layer 39 (catalog),continued: Find and List of the specification; Find of the program.
 Conditions: of each contract as it says.
-/
namespace Go.Proofs.YtgoleoihpgmcbaaGreat
open Go Go.E2 C39
set_option linter.unusedSimpArgs false
set_option maxHeartbeats 1000000
def eF (x:En) (l:D) (e:Int):D:=.agg [.str x.name,.int .i64 x.ver,.int .i64 x.obj,.int .i64 x.last,l,.int .i64 e]
attribute [go_sem] eF
def pFind (name:Str) (ver:Int) (x:En):Bool:=decide (x.name=name∧(ver=0∨x.ver=ver))
def resF (o:Option En):En × Int:=match o with|some x=>(x,0)|none=>(noEn,8)
theorem findC_eq {c:Ct} {name:Str} {ver:Int} (h:chk c=0):findC c name ver=resF (c.ents.reverse.find? (pFind name ver)):=by
 unfold findC resF
 rw [if_neg (fun h'=>h' h)]; rfl
theorem backward1_ok (l:List En) (hl:l.length≤100000) (b lo:Nat) (J:Nat→Gh→Prop) (Stop:Gh→Prop) (hJ:∀ k G,J k G→G.c b=some [.list (l.map eE)])
 (hstep:∀ i (h:i < l.length) G σ,J (i + 1) G→CallY Tryz.prog lo [eI i,eE l[i]] σ G fun r σ' G'=>σ'=σ∧((r=.d (.bool true)∧J i G')∨(r=.d (.bool false)∧Stop G')))
 (σ:List Hp) (G:Gh) (h0:J l.length G):CallT Tryz.prog f_zz2 ([.yld lo,.gp b 0].map .d) σ G fun _ σ' G'=>σ'=σ∧(J 0 G'∨Stop G'):=by
 refine callT_of_W fol zz2_cp ?_
 have hb:=hJ _ _ h0
 refine goS trivial ?_
 refine goR hb ?_
 refine W.loop (fun m st=>∃ k G,k≤l.length∧m=k∧J k G∧st=(E [(0,.d (.yld lo)),(1,.d (.gp b 0)),(3,.d (eI ((k:Int) - 1)))],HB [],σ,G))
  ⟨_,_,stle,l.length,G,Nat.le_refl _,rfl,h0,rfl⟩ ?_
 clear hb h0 G
 rintro m st ⟨k,G,hk,rfl,hj,rfl⟩
 have hb:=hJ _ _ hj
 refine goR trivial ?_
 refine wG_dec (fun h1=>?_) (fun h1=>?_)
 · obtain ⟨i,rfl⟩:∃ i,m=i + 1:=⟨m - 1,by omega⟩
   have hi:i < l.length:=by omega
   have e1:(((i + 1:Nat):Int) - 1)=(i:Int):=by omega
   rw [e1]
   (repeat (first|(with_reducible first|refine W.seq ?_|refine W.block ?_|refine W.scope ?_)|((with_reducible first|refine W.reg ?_|refine W.skip ?_|refine W.exit ?_|refine W.ret ?_|refine W.ifc ?_); simp -dsimp (disch:=first|omega|(simp only [go_sem]; omega)) only [go_sem,seval,Nat.reduceEqDiff,Nat.reduceLeDiff,hb,Int.toNat_natCast])))
   apply wC_y (hstep i hi G _ hj)
   focus (simp -dsimp (disch:=first|omega|(simp only [go_sem]; omega)) only [go_sem,seval,Nat.reduceEqDiff,Nat.reduceLeDiff]<;>fail)
   focus (simp -dsimp (disch:=first|omega|(simp only [go_sem]; omega)) only [go_sem,seval,Nat.reduceEqDiff,Nat.reduceLeDiff]<;>rfl)
   rintro r G' (⟨rfl,hj'⟩|⟨rfl,hst⟩)
   · refine goS trivial ?_
     refine goR trivial ?_
     refine ⟨_,_,?_,stle,i,G',by omega,rfl,hj',rfl⟩
     omega
   · refine goS trivial ?_
     refine goR trivial ?_
     exact Fin.eq rfl ⟨rfl,.inr hst⟩
 · obtain rfl:m=0:=by omega
   refine goR trivial ?_
   exact Fin.eq rfl ⟨rfl,.inl hj⟩
end Go.Proofs.YtgoleoihpgmcbaaGreat
