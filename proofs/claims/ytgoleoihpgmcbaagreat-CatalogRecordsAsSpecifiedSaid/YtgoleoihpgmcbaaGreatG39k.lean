/-
 Layer 39 (catalog),continued: rows of entries,and of snapshots,that may change.
 Conditions: of each contract as it says.
-/
import Derived.Test.YtgoleoihpgmcbaaGreatG39j
namespace Go.Proofs.YtgoleoihpgmcbaaGreat
open Go Go.E2 C39
set_option linter.unusedSimpArgs false
set_option maxHeartbeats 1000000
theorem gset_same (G:Gh) (b:Nat) (v:Option (List D)):(G.set b v).c b=v:=by simp
theorem Row.behind {sz n cap:Nat} {es cs vs:List D} {off:Nat} (h:Row sz n cap es cs) (hn:n * sz≤off) (hv:off + vs.length≤cs.length):Row sz n cap es (over cs vs off) :=
 ⟨h.len,h.all,h.fit,by rw [over_length hv]; exact h.room,by
   rw [← h.eq]; unfold over
   rw [List.append_assoc,List.take_append_of_le_length (by rw [List.length_take]; omega),List.take_take,Nat.min_eq_left hn]⟩
theorem CloneE_ok (es:List D) (hs:es.all (sizeOk 4)=true) (hl:es.length≤100000) (σ:List Hp) (G:Gh) :
 CallT Tryz.prog f_zz8 ([.list es].map .d) σ G fun r σ' G'=>σ'=σ∧∃ x,r=.d x∧GV 4 G' x es∧GTo .nilS x G G':=by
 refine callT_of_W fol zz8_cp ?_
 refine goS trivial ?_
 refine goR hs ?_
 refine wI_list fun t ht=>?_
 refine goS trivial ?_
 refine goR trivial ?_
 refine wG_t (fun h=>?_) (fun h=>?_)
 · refine goR trivial ?_
   have he:es=[]:=by
    refine Classical.byContradiction fun hn=>?_
    rw [ht hn] at h; cases h
   subst he
   exact Fin.eq rfl ⟨rfl,_,rfl,.nil,GTo.refl _ _⟩
 · refine goR trivial ?_
   refine wNew_mk fun b hb=>?_
   refine goS trivial ?_
   refine goR trivial ?_
   have h0:GV 4 (G.set b (some [])) (.gs b 0 0 0) []:=.row b 0 [] [] (by simp [upd]) ⟨rfl,rfl,Nat.le_refl _,by simp,rfl⟩
   refine appV_GV2 h0 (viewC_list hs) rfl hs rfl (by show (0 + es.length) * 40≤mostBytes; rw [mostBytes_eq]; omega) fun x' G' hg hfr=>?_
   rw [List.nil_append] at hg
   refine goS trivial ?_
   refine goR trivial ?_
   have hne:∀ c v,G.c c=some v→c ≠ b:=fun c v hc e=>by subst e; rw [hb] at hc; cases hc
   have hset:∀ c v,G.c c=some v→(G.set b (some [])).c c=some v:=fun c v hc=>by rw [Gh.set_c,upd_off (hne c v hc)]; exact hc
   refine Fin.eq rfl ⟨rfl,_,rfl,hg,⟨fun c v hc _=>hfr.fr c v (hset c v hc) ?_,fun c v hc _=>hfr.sep c v (hset c v hc) ?_,hfr.m⟩⟩
   · rintro o n k e; cases e; exact hne _ _ hc rfl
   · rintro o n k e; cases e; exact hne _ _ hc rfl
theorem overlapsE_ok (es:List D) (hs:es.all (sizeOk 4)=true) {b off n cap:Nat} {cs:List D} {σ:List Hp} {G:Gh} (hG:G b=some cs) :
 CallT Tryz.prog f_zz15 ([.list es,.gs b off n cap].map .d) σ G fun r σ' G'=>σ'=σ∧G'=G∧r=.d (.bool false) :=
 overlaps_ok (fn:=(Tryz.prog.funcs[f_zz15]?).get (by kernel_rfl)) (((Tryz.prog.funcs[f_zz15]?).get (by kernel_rfl)).params.getD 0 0) (((Tryz.prog.funcs[f_zz15]?).get (by kernel_rfl)).resultTypes.getD 0 0)
  (match Tryz.prog.underlying (((Tryz.prog.funcs[f_zz15]?).get (by kernel_rfl)).params.getD 0 0) with|some (.slice e)=>e|_=>0) (by kernel_rfl) (by kernel_rfl) (by kernel_rfl) (by kernel_rfl) (by kernel_rfl) (by kernel_rfl) (by kernel_rfl) (by decide) hs hG
theorem InsertE_ok {x:D} {es:List D} {i:Nat} {v:D} (hs:sizeOk 4 v=true) (hi:i≤es.length) (hl:es.length≤100000) (σ:List Hp) {G:Gh} (hx:GV 4 G x es) :
 CallT Tryz.prog f_zz6 ([x,.int .i64 i,.list [v]].map .d) σ G fun r σ' G'=>σ'=σ∧∃ x',r=.d x'∧GV 4 G' x' (es.take i ++ [v] ++ es.drop i)∧GTo x x' G G':=by
 refine callT_of_W fol zz6_cp ?_
 have hv:[v].all (sizeOk 4)=true:=by simp [hs]
 cases hx with
 | nil =>
  obtain rfl:i=0:=by simpa using hi
  refine goS trivial ?_
  refine goR trivial ?_
  refine appV_GV2 .nil (viewC_list hv) rfl hv (by rfl) (by show 1 * 40≤mostBytes; decide) fun x' G' hg hto=>?_
  refine goS trivial ?_
  refine goR trivial ?_
  exact Fin.eq rfl ⟨rfl,_,rfl,by simpa using hg,hto⟩
 | row b cap es cs hb hr =>
  have hcap:=hr.fit
  refine goS trivial ?_
  refine goR trivial ?_
  refine wG_dec (fun h1=>?_) (fun h1=>?_)
  · obtain rfl:i=es.length:=by omega
    refine goR trivial ?_
    refine appV_GV2 (.row b cap es cs hb hr) (viewC_list hv) rfl hv (by rfl) (by show (es.length + 1) * 40≤mostBytes; rw [mostBytes_eq]; omega) fun x' G' hg hto=>?_
    refine goS trivial ?_
    refine goR trivial ?_
    exact Fin.eq rfl ⟨rfl,_,rfl,by simpa using hg,hto⟩
  · have hi':i < es.length:=by omega
    refine goR trivial ?_
    refine wG_dec (fun h2=>?_) (fun h2=>?_)
    · have e2:((es.length:Int) + 1 - i).toNat=es.length + 1 - i:=by omega
      have e3:i + (es.length + 1 - i)=es.length + 1:=by omega
      (repeat (first|(with_reducible first|refine W.seq ?_|refine W.block ?_|refine W.scope ?_)|((with_reducible first|refine W.reg ?_|refine W.skip ?_|refine W.exit ?_|refine W.ret ?_|refine W.ifc ?_); simp -dsimp (disch:=first|omega|(simp only [go_sem]; omega)) only [go_sem,seval,Nat.reduceEqDiff,Nat.reduceLeDiff,ite_self,Nat.sub_zero])))
      have hbn:∀ b',G b'=none→b ≠ b':=fun b' h e=>by subst e; rw [hb] at h; cases h
      refine appN_mk (by omega) (by rw [e2,mostBytes_eq]; omega) ?_
      rw [e2,rep_flat]
      refine appW_row hb (hr.take (m:=i) (c:=cap) (by omega) (by omega) (Nat.le_refl _)) rfl (by rw [List.length_replicate]) (by simp [sizeOk,D.cells,D.one]) (by rw [e3,mostBytes_eq]; omega) (fun cs' hc=>absurd hc (by omega)) fun b' cap' cs' _ hb' hr'=>?_
      rw [e3] at hr' ⊢
      have hcap':=hr'.fit
      have e4:((i:Int) + 1).toNat=i + 1:=by omega
      have e5:es.length + 1 - (i + 1)=es.length - i:=by omega
      have e6:(cap=i)=False:=by simp; omega
      have e7:(cap'=i)=False:=by simp; omega
      have e8:(cap'=i + 1)=False:=by simp; omega
      refine goS trivial ?_
      (repeat (first|(with_reducible first|refine W.seq ?_|refine W.block ?_|refine W.scope ?_)|((with_reducible first|refine W.reg ?_|refine W.skip ?_|refine W.exit ?_|refine W.ret ?_|refine W.ifc ?_); simp -dsimp (disch:=first|omega|(simp only [go_sem]; omega)) only [go_sem,seval,Nat.reduceEqDiff,Nat.reduceLeDiff,ite_self,Nat.sub_zero,Int.toNat_natCast,e4,e5,e6,e7,e8])))
      have hr2:=hr'.copyv (i:=i) (m:=1) (len:=es.length + 1 - i) hv rfl (by omega) (by omega)
      have hlt:(es.take i).length=i:=List.length_take_of_le hi
      rw [(take_two _ _ _ i rfl hlt).1] at hr2
      refine wCp_mk (gset_same _ _ _) (viewC_list hv) (by have:=hr'.ncs; omega) ?_
      revert hr2
      generalize over cs' _ _=cs2
      generalize hX:List.drop (i + 1) _=X
      intro hr2
      refine goS trivial ?_
      (repeat (first|(with_reducible first|refine W.seq ?_|refine W.block ?_|refine W.scope ?_)|((with_reducible first|refine W.reg ?_|refine W.skip ?_|refine W.exit ?_|refine W.ret ?_|refine W.ifc ?_); simp -dsimp (disch:=first|omega|(simp only [go_sem]; omega)) only [go_sem,seval,Nat.reduceEqDiff,Nat.reduceLeDiff,ite_self,Nat.sub_zero,Int.toNat_natCast,e4,e5,e6,e7,e8])))
      have hb2:∀ (c:Option (List D)) (G:Gh),G b=some cs→(G.set b' c).c b=some cs:=fun c G h=>by rw [Gh.set_c,upd_off (hbn b' hb')]; exact h
      refine wCp_mk (gset_same _ _ _) (hr.viewT (hb2 _ _ hb) hi) (by have:=hr2.ncs; omega) ?_
      have hr3:=hr2.copyv (i:=i + 1) (m:=es.length - i) (len:=es.length - i) (ys:=es.drop i) (all_drop hr.all i) (by simp) (by omega) (by omega)
      have hl2:(es.take i ++ [v] ++ X).length=es.length + 1:=hr2.len
      have hdn:(es.take i ++ [v] ++ X).drop (i + 1 + (es.length - i))=[]:=List.drop_of_length_le (by rw [hl2]; omega)
      rw [(take_two _ _ _ (i + 1) rfl (by simp [hlt])).1,hdn,List.append_nil] at hr3
      revert hr3
      generalize over cs2 _ _=cs3
      intro hr3
      have hl3:(es.take i ++ [v] ++ es.drop i).length=es.length + 1:=hr3.len
      refine goS trivial ?_
      (repeat (first|(with_reducible first|refine W.seq ?_|refine W.block ?_|refine W.scope ?_)|((with_reducible first|refine W.reg ?_|refine W.skip ?_|refine W.exit ?_|refine W.ret ?_|refine W.ifc ?_); simp -dsimp (disch:=first|omega|(simp only [go_sem]; omega)) only [go_sem,seval,Nat.reduceEqDiff,Nat.reduceLeDiff,ite_self,Nat.sub_zero,Int.toNat_natCast])))
      refine Fin.eq rfl ⟨rfl,_,rfl,?_,.mk_new hb' (fun c hc=>by simp only [set_off hc]) rfl⟩
      rw [← hl3]
      exact .row _ _ _ _ (gset_same _ _ _) (by rw [hl3]; exact hr3)
    · have e1:((i:Int) + 1).toNat=i + 1:=by omega
      have e2:((es.length:Int) + 1).toNat=es.length + 1:=by omega
      have e5:es.length + 1 - (i + 1)=es.length - i:=by omega
      have e6:(cap=i)=False:=by simp; omega
      have e8:(cap=i + 1)=False:=by simp; omega
      (repeat (first|(with_reducible first|refine W.seq ?_|refine W.block ?_|refine W.scope ?_)|((with_reducible first|refine W.reg ?_|refine W.skip ?_|refine W.exit ?_|refine W.ret ?_|refine W.ifc ?_); simp -dsimp (disch:=first|omega|(simp only [go_sem]; omega)) only [go_sem,seval,Nat.reduceEqDiff,Nat.reduceLeDiff,ite_self,Nat.sub_zero,e1,e2])))
      apply wC_g (overlapsE_ok [v] hv hb)
      focus (simp -dsimp (disch:=first|omega|(simp only [go_sem]; omega)) only [go_sem,seval,Nat.reduceEqDiff,Nat.reduceLeDiff]<;>fail)
      focus (simp -dsimp (disch:=first|omega|(simp only [go_sem]; omega)) only [go_sem,seval,Nat.reduceEqDiff,Nat.reduceLeDiff]<;>rfl)
      rintro _ G' ⟨rfl,rfl⟩
      refine goS trivial ?_
      (repeat (first|(with_reducible first|refine W.seq ?_|refine W.block ?_|refine W.scope ?_)|((with_reducible first|refine W.reg ?_|refine W.skip ?_|refine W.exit ?_|refine W.ret ?_|refine W.ifc ?_); simp -dsimp (disch:=first|omega|(simp only [go_sem]; omega)) only [go_sem,seval,Nat.reduceEqDiff,Nat.reduceLeDiff,ite_self,Nat.sub_zero,e1,e2,e5,e6,e8,Int.toNat_natCast])))
      have hcap2:(es.length + 1) * 4≤cs.length:=by have:=hr.room; omega
      have hvw:viewC G' 4 (.gs b (i * 4) (es.length + 1 - i) (cap - i))=some (es.length + 1 - i,(cs.drop (i * 4)).take ((es.length + 1 - i) * 4)):=by
       have h0:i * 4 + (es.length + 1 - i) * 4≤cs.length:=by omega
       simp only [viewC,hb,h0,if_true]
      refine wCp_mk hb hvw (by omega) ?_
      have hys:((cs.drop (i * 4)).take ((es.length + 1 - i) * 4)).take (min (es.length - i) (es.length + 1 - i) * 4)=flat (es.drop i):=by
       rw [List.take_take,flat_drop i hr.all,← hr.eq,List.drop_take]
       congr 1
       omega
      rw [hys]
      have hri:=hr.ins (i:=i) hi hv (m:=1) rfl (by omega)
      have hlo:(over cs (flat (es.drop i)) ((i + 1) * 4)).length=cs.length:=over_length (by rw [flat_length (all_drop hr.all i),List.length_drop]; omega)
      revert hri hlo
      generalize over cs _ _=cs2
      intro hri hlo
      refine goS trivial ?_
      (repeat (first|(with_reducible first|refine W.seq ?_|refine W.block ?_|refine W.scope ?_)|((with_reducible first|refine W.reg ?_|refine W.skip ?_|refine W.exit ?_|refine W.ret ?_|refine W.ifc ?_); simp -dsimp (disch:=first|omega|(simp only [go_sem]; omega)) only [go_sem,seval,Nat.reduceEqDiff,Nat.reduceLeDiff,ite_self,Nat.sub_zero,e1,e2,e5,e6,e8,Int.toNat_natCast])))
      refine wCp_mk (gset_same _ _ _) (viewC_list hv) (by omega) ?_
      have hfv:(flat [v]).take (min (es.length + 1 - i) [v].length * 4)=flat [v]:=List.take_of_length_le (by rw [flat_length hv,Nat.min_eq_right (by show 1≤_; omega)]; exact Nat.le_refl _)
      rw [hfv]
      revert hri
      generalize over cs2 _ _=cs3
      intro hri
      have hl3:(es.take i ++ [v] ++ es.drop i).length=es.length + 1:=hri.len
      refine goS trivial ?_
      (repeat (first|(with_reducible first|refine W.seq ?_|refine W.block ?_|refine W.scope ?_)|((with_reducible first|refine W.reg ?_|refine W.skip ?_|refine W.exit ?_|refine W.ret ?_|refine W.ifc ?_); simp -dsimp (disch:=first|omega|(simp only [go_sem]; omega)) only [go_sem,seval,Nat.reduceEqDiff,Nat.reduceLeDiff,ite_self,Nat.sub_zero])))
      refine Fin.eq rfl ⟨rfl,_,rfl,?_,.mk_in (fun c hc=>by simp only [set_off hc]) rfl⟩
      rw [← hl3]
      exact .row _ _ _ _ (gset_same _ _ _) (by rw [hl3]; exact hri)
theorem DeleteE_ok {x:D} {es:List D} {i:Nat} (hi:i < es.length) (hl:es.length≤100000) (σ:List Hp) {G:Gh} (hx:GV 4 G x es) :
 CallT Tryz.prog f_zz5 ([x,.int .i64 i,.int .i64 (i + 1)].map .d) σ G fun r σ' G'=>σ'=σ∧∃ x',r=.d x'∧GV 4 G' x' (es.eraseIdx i)∧GTo x x' G G':=by
 refine callT_of_W fol zz5_cp ?_
 obtain ⟨b,cap,cs,rfl,hb,hr⟩:=hx.inv (by rintro rfl; simp at hi)
 have hcap:=hr.fit
 have e1:((i:Int) + 1).toNat=i + 1:=by omega
 have e2:(((i:Int) + 1)=(i:Int))=False:=by simp; omega
 refine goS trivial ?_
 (repeat' (first|(with_reducible first|refine W.seq ?_|refine W.block ?_|refine W.scope ?_)|((first|(with_reducible first|refine W.reg ?_|refine W.skip ?_|refine W.exit ?_|refine W.ret ?_|refine W.ifc ?_)|((with_reducible first|refine wG_decE (fun _ hG=>?_) (fun _ hG=>?_)|refine wG_decFE (fun _ hG=>?_) (fun _ hG=>?_))<;>(try simp -dsimp only [hG,decide_true,decide_false,not_true_eq_false,not_false_eq_true])<;>clear hG))<;>(try simp -dsimp (disch:=first|omega|(simp only [go_sem]; omega)) only [go_sem,seval,Nat.reduceEqDiff,Nat.reduceLeDiff,ite_self,Nat.sub_zero,e1,Int.toNat_natCast]))|simp -dsimp (disch:=first|omega|(simp only [go_sem]; omega)) only [go_sem,seval,Nat.reduceEqDiff,Nat.reduceLeDiff,ite_self,Nat.sub_zero,e1,Int.toNat_natCast]))
 · exfalso; omega
 have hra:=hr.take (m:=i) (c:=cap) (by omega) (by omega) (Nat.le_refl _)
 have hvw:viewC G 4 (.gs b (if cap=i + 1 then 0 else (i + 1) * 4) (es.length - (i + 1)) (cap - (i + 1)))=some (es.length - (i + 1),flat (es.drop (i + 1))):=by
  by_cases hlast:cap=i + 1
  · have h0:es.length - (i + 1)=0:=by omega
    have h1:es.drop (i + 1)=[]:=List.drop_of_length_le (by omega)
    simp [viewC,hb,hlast,h0,h1,flat]
  · rw [if_neg hlast]
    exact hr.viewT hb (by omega)
 refine appV_view hvw ?_
 refine appW_row hb hra rfl (by rw [List.length_drop]) (all_drop hr.all (i + 1)) (by rw [mostBytes_eq]; omega) (fun cs' hc hr'=>?_) (fun b' cap' cs' hc=>absurd hc (by omega))
 have e4:i + (es.length - (i + 1))=es.length - 1:=by omega
 rw [e4] at hr' ⊢
 have hr2:Row 4 (es.length - 1) cap (es.eraseIdx i) cs':=by
  rw [List.eraseIdx_eq_take_drop_succ]; exact hr'
 have e5:((es.length - 1:Nat):Int)=(es.length:Int) - 1:=by omega
 have e6:(cap=es.length - 1)=False:=eq_false (by omega)
 have e7:es.length - (es.length - 1)=1:=by omega
 have e8:((es.length:Int) - 1).toNat=es.length - 1:=by omega
 refine goS trivial ?_
 (repeat (first|(with_reducible first|refine W.seq ?_|refine W.block ?_|refine W.scope ?_)|((with_reducible first|refine W.reg ?_|refine W.skip ?_|refine W.exit ?_|refine W.ret ?_|refine W.ifc ?_); simp -dsimp (disch:=first|omega|(simp only [go_sem]; omega)) only [go_sem,seval,Nat.reduceEqDiff,Nat.reduceLeDiff,e5,e6,e7,e8,Int.toNat_natCast])))
 have hroom:(es.length - 1) * 4 + 4≤cs'.length:=by have:=hr2.room; omega
 refine wGd_mk (gdD_clr (gset_same _ _ _) hroom (by omega)) ?_
 refine goS trivial ?_
 refine goR trivial ?_
 refine Fin.eq rfl ⟨rfl,_,rfl,?_,.mk_in (fun c hc=>by simp only [set_off hc]) rfl⟩
 exact GV.mk (gset_same _ _ _) (Row.behind hr2 (Nat.le_refl _) (by simpa using hroom))
theorem CloneS_ok (es:List D) (hs:es.all (sizeOk 2)=true) (hl:es.length≤100000) (σ:List Hp) (G:Gh) :
 CallT Tryz.prog f_zz11 ([.list es].map .d) σ G fun r σ' G'=>σ'=σ∧∃ x,r=.d x∧GV 2 G' x es∧GTo .nilS x G G':=by
 refine callT_of_W fol zz11_cp ?_
 refine goS trivial ?_
 refine goR hs ?_
 refine wI_list fun t ht=>?_
 refine goS trivial ?_
 refine goR trivial ?_
 refine wG_t (fun h=>?_) (fun h=>?_)
 · refine goR trivial ?_
   have he:es=[]:=by
    refine Classical.byContradiction fun hn=>?_
    rw [ht hn] at h; cases h
   subst he
   exact Fin.eq rfl ⟨rfl,_,rfl,.nil,GTo.refl _ _⟩
 · refine goR trivial ?_
   refine wNew_mk fun b hb=>?_
   refine goS trivial ?_
   refine goR trivial ?_
   have h0:GV 2 (G.set b (some [])) (.gs b 0 0 0) []:=.row b 0 [] [] (by simp [upd]) ⟨rfl,rfl,Nat.le_refl _,by simp,rfl⟩
   refine appV_GV2 h0 (viewC_list hs) rfl hs rfl (by show (0 + es.length) * 32≤mostBytes; rw [mostBytes_eq]; omega) fun x' G' hg hfr=>?_
   rw [List.nil_append] at hg
   refine goS trivial ?_
   refine goR trivial ?_
   have hne:∀ c v,G.c c=some v→c ≠ b:=fun c v hc e=>by subst e; rw [hb] at hc; cases hc
   have hset:∀ c v,G.c c=some v→(G.set b (some [])).c c=some v:=fun c v hc=>by rw [Gh.set_c,upd_off (hne c v hc)]; exact hc
   refine Fin.eq rfl ⟨rfl,_,rfl,hg,⟨fun c v hc _=>hfr.fr c v (hset c v hc) ?_,fun c v hc _=>hfr.sep c v (hset c v hc) ?_,hfr.m⟩⟩
   · rintro o n k e; cases e; exact hne _ _ hc rfl
   · rintro o n k e; cases e; exact hne _ _ hc rfl
theorem overlapsS_ok (es:List D) (hs:es.all (sizeOk 2)=true) {b off n cap:Nat} {cs:List D} {σ:List Hp} {G:Gh} (hG:G b=some cs) :
 CallT Tryz.prog f_zz17 ([.list es,.gs b off n cap].map .d) σ G fun r σ' G'=>σ'=σ∧G'=G∧r=.d (.bool false) :=
 overlaps_ok (fn:=(Tryz.prog.funcs[f_zz17]?).get (by kernel_rfl)) (((Tryz.prog.funcs[f_zz17]?).get (by kernel_rfl)).params.getD 0 0) (((Tryz.prog.funcs[f_zz17]?).get (by kernel_rfl)).resultTypes.getD 0 0)
  (match Tryz.prog.underlying (((Tryz.prog.funcs[f_zz17]?).get (by kernel_rfl)).params.getD 0 0) with|some (.slice e)=>e|_=>0) (by kernel_rfl) (by kernel_rfl) (by kernel_rfl) (by kernel_rfl) (by kernel_rfl) (by kernel_rfl) (by kernel_rfl) (by decide) hs hG
theorem InsertS_ok {x:D} {es:List D} {i:Nat} {v:D} (hs:sizeOk 2 v=true) (hi:i≤es.length) (hl:es.length≤100000) (σ:List Hp) {G:Gh} (hx:GV 2 G x es) :
 CallT Tryz.prog f_zz10 ([x,.int .i64 i,.list [v]].map .d) σ G fun r σ' G'=>σ'=σ∧∃ x',r=.d x'∧GV 2 G' x' (es.take i ++ [v] ++ es.drop i)∧GTo x x' G G':=by
 refine callT_of_W fol zz10_cp ?_
 have hv:[v].all (sizeOk 2)=true:=by simp [hs]
 cases hx with
 | nil =>
  obtain rfl:i=0:=by simpa using hi
  refine goS trivial ?_
  refine goR trivial ?_
  refine appV_GV2 .nil (viewC_list hv) rfl hv (by rfl) (by show 1 * 32≤mostBytes; decide) fun x' G' hg hto=>?_
  refine goS trivial ?_
  refine goR trivial ?_
  exact Fin.eq rfl ⟨rfl,_,rfl,by simpa using hg,hto⟩
 | row b cap es cs hb hr =>
  have hcap:=hr.fit
  refine goS trivial ?_
  refine goR trivial ?_
  refine wG_dec (fun h1=>?_) (fun h1=>?_)
  · obtain rfl:i=es.length:=by omega
    refine goR trivial ?_
    refine appV_GV2 (.row b cap es cs hb hr) (viewC_list hv) rfl hv (by rfl) (by show (es.length + 1) * 32≤mostBytes; rw [mostBytes_eq]; omega) fun x' G' hg hto=>?_
    refine goS trivial ?_
    refine goR trivial ?_
    exact Fin.eq rfl ⟨rfl,_,rfl,by simpa using hg,hto⟩
  · have hi':i < es.length:=by omega
    refine goR trivial ?_
    refine wG_dec (fun h2=>?_) (fun h2=>?_)
    · have e2:((es.length:Int) + 1 - i).toNat=es.length + 1 - i:=by omega
      have e3:i + (es.length + 1 - i)=es.length + 1:=by omega
      (repeat (first|(with_reducible first|refine W.seq ?_|refine W.block ?_|refine W.scope ?_)|((with_reducible first|refine W.reg ?_|refine W.skip ?_|refine W.exit ?_|refine W.ret ?_|refine W.ifc ?_); simp -dsimp (disch:=first|omega|(simp only [go_sem]; omega)) only [go_sem,seval,Nat.reduceEqDiff,Nat.reduceLeDiff,ite_self,Nat.sub_zero])))
      have hbn:∀ b',G b'=none→b ≠ b':=fun b' h e=>by subst e; rw [hb] at h; cases h
      refine appN_mk (by omega) (by rw [e2,mostBytes_eq]; omega) ?_
      rw [e2,rep_flat]
      refine appW_row hb (hr.take (m:=i) (c:=cap) (by omega) (by omega) (Nat.le_refl _)) rfl (by rw [List.length_replicate]) (by simp [sizeOk,D.cells,D.one]) (by rw [e3,mostBytes_eq]; omega) (fun cs' hc=>absurd hc (by omega)) fun b' cap' cs' _ hb' hr'=>?_
      rw [e3] at hr' ⊢
      have hcap':=hr'.fit
      have e4:((i:Int) + 1).toNat=i + 1:=by omega
      have e5:es.length + 1 - (i + 1)=es.length - i:=by omega
      have e6:(cap=i)=False:=by simp; omega
      have e7:(cap'=i)=False:=by simp; omega
      have e8:(cap'=i + 1)=False:=by simp; omega
      refine goS trivial ?_
      (repeat (first|(with_reducible first|refine W.seq ?_|refine W.block ?_|refine W.scope ?_)|((with_reducible first|refine W.reg ?_|refine W.skip ?_|refine W.exit ?_|refine W.ret ?_|refine W.ifc ?_); simp -dsimp (disch:=first|omega|(simp only [go_sem]; omega)) only [go_sem,seval,Nat.reduceEqDiff,Nat.reduceLeDiff,ite_self,Nat.sub_zero,Int.toNat_natCast,e4,e5,e6,e7,e8])))
      have hr2:=hr'.copyv (i:=i) (m:=1) (len:=es.length + 1 - i) hv rfl (by omega) (by omega)
      have hlt:(es.take i).length=i:=List.length_take_of_le hi
      rw [(take_two _ _ _ i rfl hlt).1] at hr2
      refine wCp_mk (gset_same _ _ _) (viewC_list hv) (by have:=hr'.ncs; omega) ?_
      revert hr2
      generalize over cs' _ _=cs2
      generalize hX:List.drop (i + 1) _=X
      intro hr2
      refine goS trivial ?_
      (repeat (first|(with_reducible first|refine W.seq ?_|refine W.block ?_|refine W.scope ?_)|((with_reducible first|refine W.reg ?_|refine W.skip ?_|refine W.exit ?_|refine W.ret ?_|refine W.ifc ?_); simp -dsimp (disch:=first|omega|(simp only [go_sem]; omega)) only [go_sem,seval,Nat.reduceEqDiff,Nat.reduceLeDiff,ite_self,Nat.sub_zero,Int.toNat_natCast,e4,e5,e6,e7,e8])))
      have hb2:∀ (c:Option (List D)) (G:Gh),G b=some cs→(G.set b' c).c b=some cs:=fun c G h=>by rw [Gh.set_c,upd_off (hbn b' hb')]; exact h
      refine wCp_mk (gset_same _ _ _) (hr.viewT (hb2 _ _ hb) hi) (by have:=hr2.ncs; omega) ?_
      have hr3:=hr2.copyv (i:=i + 1) (m:=es.length - i) (len:=es.length - i) (ys:=es.drop i) (all_drop hr.all i) (by simp) (by omega) (by omega)
      have hl2:(es.take i ++ [v] ++ X).length=es.length + 1:=hr2.len
      have hdn:(es.take i ++ [v] ++ X).drop (i + 1 + (es.length - i))=[]:=List.drop_of_length_le (by rw [hl2]; omega)
      rw [(take_two _ _ _ (i + 1) rfl (by simp [hlt])).1,hdn,List.append_nil] at hr3
      revert hr3
      generalize over cs2 _ _=cs3
      intro hr3
      have hl3:(es.take i ++ [v] ++ es.drop i).length=es.length + 1:=hr3.len
      refine goS trivial ?_
      (repeat (first|(with_reducible first|refine W.seq ?_|refine W.block ?_|refine W.scope ?_)|((with_reducible first|refine W.reg ?_|refine W.skip ?_|refine W.exit ?_|refine W.ret ?_|refine W.ifc ?_); simp -dsimp (disch:=first|omega|(simp only [go_sem]; omega)) only [go_sem,seval,Nat.reduceEqDiff,Nat.reduceLeDiff,ite_self,Nat.sub_zero,Int.toNat_natCast])))
      refine Fin.eq rfl ⟨rfl,_,rfl,?_,.mk_new hb' (fun c hc=>by simp only [set_off hc]) rfl⟩
      rw [← hl3]
      exact .row _ _ _ _ (gset_same _ _ _) (by rw [hl3]; exact hr3)
    · have e1:((i:Int) + 1).toNat=i + 1:=by omega
      have e2:((es.length:Int) + 1).toNat=es.length + 1:=by omega
      have e5:es.length + 1 - (i + 1)=es.length - i:=by omega
      have e6:(cap=i)=False:=by simp; omega
      have e8:(cap=i + 1)=False:=by simp; omega
      (repeat (first|(with_reducible first|refine W.seq ?_|refine W.block ?_|refine W.scope ?_)|((with_reducible first|refine W.reg ?_|refine W.skip ?_|refine W.exit ?_|refine W.ret ?_|refine W.ifc ?_); simp -dsimp (disch:=first|omega|(simp only [go_sem]; omega)) only [go_sem,seval,Nat.reduceEqDiff,Nat.reduceLeDiff,ite_self,Nat.sub_zero,e1,e2])))
      apply wC_g (overlapsS_ok [v] hv hb)
      focus (simp -dsimp (disch:=first|omega|(simp only [go_sem]; omega)) only [go_sem,seval,Nat.reduceEqDiff,Nat.reduceLeDiff]<;>fail)
      focus (simp -dsimp (disch:=first|omega|(simp only [go_sem]; omega)) only [go_sem,seval,Nat.reduceEqDiff,Nat.reduceLeDiff]<;>rfl)
      rintro _ G' ⟨rfl,rfl⟩
      refine goS trivial ?_
      (repeat (first|(with_reducible first|refine W.seq ?_|refine W.block ?_|refine W.scope ?_)|((with_reducible first|refine W.reg ?_|refine W.skip ?_|refine W.exit ?_|refine W.ret ?_|refine W.ifc ?_); simp -dsimp (disch:=first|omega|(simp only [go_sem]; omega)) only [go_sem,seval,Nat.reduceEqDiff,Nat.reduceLeDiff,ite_self,Nat.sub_zero,e1,e2,e5,e6,e8,Int.toNat_natCast])))
      have hcap2:(es.length + 1) * 2≤cs.length:=by have:=hr.room; omega
      have hvw:viewC G' 2 (.gs b (i * 2) (es.length + 1 - i) (cap - i))=some (es.length + 1 - i,(cs.drop (i * 2)).take ((es.length + 1 - i) * 2)):=by
       have h0:i * 2 + (es.length + 1 - i) * 2≤cs.length:=by omega
       simp only [viewC,hb,h0,if_true]
      refine wCp_mk hb hvw (by omega) ?_
      have hys:((cs.drop (i * 2)).take ((es.length + 1 - i) * 2)).take (min (es.length - i) (es.length + 1 - i) * 2)=flat (es.drop i):=by
       rw [List.take_take,flat_drop i hr.all,← hr.eq,List.drop_take]
       congr 1
       omega
      rw [hys]
      have hri:=hr.ins (i:=i) hi hv (m:=1) rfl (by omega)
      have hlo:(over cs (flat (es.drop i)) ((i + 1) * 2)).length=cs.length:=over_length (by rw [flat_length (all_drop hr.all i),List.length_drop]; omega)
      revert hri hlo
      generalize over cs _ _=cs2
      intro hri hlo
      refine goS trivial ?_
      (repeat (first|(with_reducible first|refine W.seq ?_|refine W.block ?_|refine W.scope ?_)|((with_reducible first|refine W.reg ?_|refine W.skip ?_|refine W.exit ?_|refine W.ret ?_|refine W.ifc ?_); simp -dsimp (disch:=first|omega|(simp only [go_sem]; omega)) only [go_sem,seval,Nat.reduceEqDiff,Nat.reduceLeDiff,ite_self,Nat.sub_zero,e1,e2,e5,e6,e8,Int.toNat_natCast])))
      refine wCp_mk (gset_same _ _ _) (viewC_list hv) (by omega) ?_
      have hfv:(flat [v]).take (min (es.length + 1 - i) [v].length * 2)=flat [v]:=List.take_of_length_le (by rw [flat_length hv,Nat.min_eq_right (by show 1≤_; omega)]; exact Nat.le_refl _)
      rw [hfv]
      revert hri
      generalize over cs2 _ _=cs3
      intro hri
      have hl3:(es.take i ++ [v] ++ es.drop i).length=es.length + 1:=hri.len
      refine goS trivial ?_
      (repeat (first|(with_reducible first|refine W.seq ?_|refine W.block ?_|refine W.scope ?_)|((with_reducible first|refine W.reg ?_|refine W.skip ?_|refine W.exit ?_|refine W.ret ?_|refine W.ifc ?_); simp -dsimp (disch:=first|omega|(simp only [go_sem]; omega)) only [go_sem,seval,Nat.reduceEqDiff,Nat.reduceLeDiff,ite_self,Nat.sub_zero])))
      refine Fin.eq rfl ⟨rfl,_,rfl,?_,.mk_in (fun c hc=>by simp only [set_off hc]) rfl⟩
      rw [← hl3]
      exact .row _ _ _ _ (gset_same _ _ _) (by rw [hl3]; exact hri)
theorem DeleteS_ok {x:D} {es:List D} {i:Nat} (hi:i < es.length) (hl:es.length≤100000) (σ:List Hp) {G:Gh} (hx:GV 2 G x es) :
 CallT Tryz.prog f_zz9 ([x,.int .i64 i,.int .i64 (i + 1)].map .d) σ G fun r σ' G'=>σ'=σ∧∃ x',r=.d x'∧GV 2 G' x' (es.eraseIdx i)∧GTo x x' G G':=by
 refine callT_of_W fol zz9_cp ?_
 obtain ⟨b,cap,cs,rfl,hb,hr⟩:=hx.inv (by rintro rfl; simp at hi)
 have hcap:=hr.fit
 have e1:((i:Int) + 1).toNat=i + 1:=by omega
 have e2:(((i:Int) + 1)=(i:Int))=False:=by simp; omega
 refine goS trivial ?_
 (repeat' (first|(with_reducible first|refine W.seq ?_|refine W.block ?_|refine W.scope ?_)|((first|(with_reducible first|refine W.reg ?_|refine W.skip ?_|refine W.exit ?_|refine W.ret ?_|refine W.ifc ?_)|((with_reducible first|refine wG_decE (fun _ hG=>?_) (fun _ hG=>?_)|refine wG_decFE (fun _ hG=>?_) (fun _ hG=>?_))<;>(try simp -dsimp only [hG,decide_true,decide_false,not_true_eq_false,not_false_eq_true])<;>clear hG))<;>(try simp -dsimp (disch:=first|omega|(simp only [go_sem]; omega)) only [go_sem,seval,Nat.reduceEqDiff,Nat.reduceLeDiff,ite_self,Nat.sub_zero,e1,Int.toNat_natCast]))|simp -dsimp (disch:=first|omega|(simp only [go_sem]; omega)) only [go_sem,seval,Nat.reduceEqDiff,Nat.reduceLeDiff,ite_self,Nat.sub_zero,e1,Int.toNat_natCast]))
 · exfalso; omega
 have hra:=hr.take (m:=i) (c:=cap) (by omega) (by omega) (Nat.le_refl _)
 have hvw:viewC G 2 (.gs b (if cap=i + 1 then 0 else (i + 1) * 2) (es.length - (i + 1)) (cap - (i + 1)))=some (es.length - (i + 1),flat (es.drop (i + 1))):=by
  by_cases hlast:cap=i + 1
  · have h0:es.length - (i + 1)=0:=by omega
    have h1:es.drop (i + 1)=[]:=List.drop_of_length_le (by omega)
    simp [viewC,hb,hlast,h0,h1,flat]
  · rw [if_neg hlast]
    exact hr.viewT hb (by omega)
 refine appV_view hvw ?_
 refine appW_row hb hra rfl (by rw [List.length_drop]) (all_drop hr.all (i + 1)) (by rw [mostBytes_eq]; omega) (fun cs' hc hr'=>?_) (fun b' cap' cs' hc=>absurd hc (by omega))
 have e4:i + (es.length - (i + 1))=es.length - 1:=by omega
 rw [e4] at hr' ⊢
 have hr2:Row 2 (es.length - 1) cap (es.eraseIdx i) cs':=by
  rw [List.eraseIdx_eq_take_drop_succ]; exact hr'
 have e5:((es.length - 1:Nat):Int)=(es.length:Int) - 1:=by omega
 have e6:(cap=es.length - 1)=False:=eq_false (by omega)
 have e7:es.length - (es.length - 1)=1:=by omega
 have e8:((es.length:Int) - 1).toNat=es.length - 1:=by omega
 refine goS trivial ?_
 (repeat (first|(with_reducible first|refine W.seq ?_|refine W.block ?_|refine W.scope ?_)|((with_reducible first|refine W.reg ?_|refine W.skip ?_|refine W.exit ?_|refine W.ret ?_|refine W.ifc ?_); simp -dsimp (disch:=first|omega|(simp only [go_sem]; omega)) only [go_sem,seval,Nat.reduceEqDiff,Nat.reduceLeDiff,e5,e6,e7,e8,Int.toNat_natCast])))
 have hroom:(es.length - 1) * 2 + 2≤cs'.length:=by have:=hr2.room; omega
 refine wGd_mk (gdD_clr (gset_same _ _ _) hroom (by omega)) ?_
 refine goS trivial ?_
 refine goR trivial ?_
 refine Fin.eq rfl ⟨rfl,_,rfl,?_,.mk_in (fun c hc=>by simp only [set_off hc]) rfl⟩
 exact GV.mk (gset_same _ _ _) (Row.behind hr2 (Nat.le_refl _) (by simpa using hroom))
theorem ClonePlain_ok (l:List En) (hl:l.length≤100000):CallP Tryz.prog f_zz8 [.list (l.map eE)] (·=.d (.list (l.map eE))):=by
 refine callP_of_W fol zz4_cp ?_
 refine goS trivial ?_
 refine goR trivial ?_
 refine wI_list fun t ht=>?_
 refine goS trivial ?_
 refine goR trivial ?_
 refine wG_t (fun h=>?_) (fun h=>?_)
 · have he:l=[]:=by
    refine Classical.byContradiction fun hn=>?_
    rw [ht (by simpa using hn)] at h; cases h
   subst he
   refine goR trivial ?_
   exact Fin.n rfl rfl
 · refine goR trivial ?_
   exact Fin.n rfl (by simp -dsimp (disch:=first|omega|(simp only [go_sem]; omega)) only [go_sem,seval,Nat.reduceEqDiff,Nat.reduceLeDiff,normL_of (f:=eE) (fun _=>rfl)])
end Go.Proofs.YtgoleoihpgmcbaaGreat
