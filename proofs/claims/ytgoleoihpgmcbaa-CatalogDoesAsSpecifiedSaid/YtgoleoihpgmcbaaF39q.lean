/-
 Layer 39 (catalog),continued: Find and List of the specification; Find of the program.
 Conditions: of each contract as it says.
-/
import Derived.Test.YtgoleoihpgmcbaaF39p
namespace Go.Proofs.Ytgoleoihpgmcbaa
open Go Go.E2 C39
set_option linter.unusedSimpArgs false
set_option maxHeartbeats 1000000
def eF (x:En) (l:D) (e:Int):D:=.agg [.str x.name,.int .i64 x.ver,.int .i64 x.obj,.int .i64 x.last,l,.int .i64 e]
attribute [go_sem] eF
def pFind (name:Str) (ver:Int) (x:En):Bool:=decide (x.name=name∧(ver=0∨x.ver=ver))
def resF (o:Option En):En × Int:=match o with|some x=>(x,0)|none=>(noEn,8)
theorem findC_eq {c:Ct} {name:Str} {ver:Int} (h:chk c=0):findC c name ver=resF (c.ents.reverse.find? (pFind name ver)):=by
 unfold findC resF
 rw [if_neg (fun h'=>h' h)]; rfl
theorem find_rev {l:List En} {k:Nat} (h:k < l.length) (p:En→Bool):((l.take (k + 1)).reverse.find? p)=if p l[k]=true then some l[k] else (l.take k).reverse.find? p:=by
 rw [List.take_succ_eq_append_getElem h,List.reverse_append,List.reverse_singleton,List.singleton_append,List.find?_cons]
 cases p l[k]<;>rfl
theorem refFind_ok (c:Ct) (name:Str) (ver:Int) (hs:smallC c):CallP Try.prog f_zz31 [eC c,.str name,eI ver] (·=.d (eF (findC c name ver).1 .nilS (findC c name ver).2)):=by
 refine callP_of_W fol zz31_cp ?_
 have s1:=hs.1
 refine goS trivial ?_
 by_cases h0:chk c=0
 case neg =>
  (refine goX1 h0 (refCheck_ok c hs) ?_; (repeat' (with_reducible apply Br.mk<;>intro _)))
  exact Fin.p rfl (by rw [findC,if_pos h0]; rfl)
 (refine goX1 h0 (refCheck_ok c hs) ?_; (repeat' (with_reducible apply Br.mk<;>intro _)))
 rw [findC_eq h0]
 refine W.loop (fun m st=>∃ k,k≤c.ents.length∧m=c.ents.length - k ∧
  st=(E [(1,.d (.str name)),(2,.d (eI ver)),(3,.ptr 0 3 1 0),(6,.ptr 0 6 1 0),(8,.ptr 0 8 1 0),(9,.d (eI k))],HB [(3,⟨1,some (cC c)⟩),(6,⟨1,some [.str [],eI 0,eI 0,eI 0,.nilS,eI 0]⟩),
   (8,⟨1,some [.str (resF ((c.ents.take k).reverse.find? (pFind name ver))).1.name,eI (resF ((c.ents.take k).reverse.find? (pFind name ver))).1.ver,eI (resF ((c.ents.take k).reverse.find? (pFind name ver))).1.obj,eI (resF ((c.ents.take k).reverse.find? (pFind name ver))).1.last,.nilS,eI (resF ((c.ents.take k).reverse.find? (pFind name ver))).2]⟩)],[],noGh))
  ⟨_,_,stle,0,by omega,rfl,rfl⟩ ?_
 rintro m st ⟨k,hk,rfl,rfl⟩
 generalize hcur:(c.ents.take k).reverse.find? (pFind name ver)=cur
 refine goR trivial ?_
 refine wG_dec (fun h1=>?_) (fun h1=>?_)
 · have hk':k < c.ents.length:=by omega
   have ht:=find_rev hk' (pFind name ver)
   rw [hcur] at ht
   (refine goX trivial ?_; (repeat' (with_reducible apply Br.mk<;>intro _)))
   all_goals first
    | (have hp:pFind name ver c.ents[k]=true:=decide_eq_true (by simp_all)
       rw [if_pos hp] at ht
       refine ⟨_,_,?_,stleB (by rw [ht]; rfl),k + 1,hk',rfl,rfl⟩
       omega)
    | (have hp:¬ pFind name ver c.ents[k]=true:=fun h=>by have:=of_decide_eq_true h; simp_all
       rw [if_neg hp] at ht
       refine ⟨_,_,?_,stleB (by rw [ht]),k + 1,hk',rfl,rfl⟩
       omega)
 · obtain rfl:k=c.ents.length:=by omega
   rw [List.take_length] at hcur
   rw [hcur]
   refine goR trivial ?_
   exact Fin.p rfl rfl
theorem listC_eq {c:Ct} {pre:Str} (h:chk c=0):listC c pre=(c.ents.filter fun x=>pre.isPrefixOf x.name,0):=by rw [listC,if_neg (fun h'=>h' h)]
theorem prefix_iff {s t:Str}:t.isPrefixOf s=true↔t.length≤s.length∧s.take t.length=t:=by
 rw [List.isPrefixOf_iff_prefix,List.prefix_iff_eq_take]
 constructor
 · intro h; refine ⟨?_,h.symm⟩; have:=congrArg List.length h; rw [List.length_take] at this; omega
 · intro h; exact h.2.symm
theorem refList_ok (c:Ct) (pre:Str) (hs:smallC c):CallP Try.prog f_zz33 [eC c,.str pre] (·=.d (eF noEn (.list ((listC c pre).1.map eE)) (listC c pre).2)):=by
 refine CallP.of_deep (callT_of_W fol zz33_cp ?_)
 have s1:=hs.1
 have hm:=mostBytes_eq
 refine goS trivial ?_
 by_cases h0:chk c=0
 case neg =>
  (refine goX1 h0 (refCheck_ok c hs) ?_; (repeat' (with_reducible apply Br.mk<;>intro _)))
  exact Fin.eq rfl ⟨rfl,_,.d _ _ (DRs.agg (DRs.cons (.refl _) (DRs.cons (.refl _) (DRs.cons (.refl _) (DRs.cons (.refl _) (DRs.cons .nil (DRs.cons (.refl _) DRs.nil))))))),by rw [listC,if_pos h0]; rfl⟩
 (refine goX1 h0 (refCheck_ok c hs) ?_; (repeat' (with_reducible apply Br.mk<;>intro _)))
 rw [listC_eq h0]
 refine W.loop (fun m st=>∃ k,k≤c.ents.length∧m=c.ents.length - k ∧
  st=(E [(1,.d (.str pre)),(2,.ptr 0 2 1 0),(4,.ptr 0 4 1 0),(6,.own 4 (((c.ents.take k).filter fun x=>pre.isPrefixOf x.name).map eE)),(7,.d (eI k))],HB [(2,⟨1,some (cC c)⟩),(4,⟨1,some [.str [],eI 0,eI 0,eI 0,.nilS,eI 0]⟩)],[],noGh))
  ⟨_,_,st_le (by (simp -dsimp (disch:=first|omega|(simp only [go_sem]; omega)) only [go_sem,seval,Nat.reduceEqDiff,Nat.reduceLeDiff,List.take_zero,List.filter_nil,List.map_nil]<;>((repeat' apply And.intro)<;>first|exact VLe.refl _|(apply vle_int; omega)|(apply vle_int; simp; done)|exact VLe.own _ _|exact VLe.nilown _|exact VLe.norm _))),0,by omega,rfl,rfl⟩ ?_
 rintro m st ⟨k,hk,rfl,rfl⟩
 refine goR trivial ?_
 refine wG_dec (fun h1=>?_) (fun h1=>?_)
 · have hk':k < c.ents.length:=by omega
   have ht:=take_filter hk' (fun x:En=>pre.isPrefixOf x.name)
   have hln:((c.ents.take k).filter fun x=>pre.isPrefixOf x.name).length≤k:=Nat.le_trans (List.length_filter_le ..) (by rw [List.length_take]; omega)
   have hpi:=prefix_iff (s:=c.ents[k].name) (t:=pre)
   (repeat' (first|(with_reducible first|refine W.seq ?_|refine W.block ?_)|((first|(with_reducible first|refine W.reg ?_|refine W.skip ?_|refine W.exit ?_|refine W.ret ?_|refine W.ifc ?_)|((with_reducible first|refine wG_decE (fun _ hG=>?_) (fun _ hG=>?_)|refine wG_decFE (fun _ hG=>?_) (fun _ hG=>?_))<;>(try simp -dsimp only [hG,decide_true,decide_false,not_true_eq_false,not_false_eq_true])<;>clear hG))<;>(try simp -dsimp (disch:=first|omega|(simp only [go_sem]; omega)) only [go_sem,seval,Nat.reduceEqDiff,Nat.reduceLeDiff,List.length_map]))|simp -dsimp (disch:=first|omega|(simp only [go_sem]; omega)) only [go_sem,seval,Nat.reduceEqDiff,Nat.reduceLeDiff,List.length_map]))
   all_goals first
    | (have hp:=hpi.2 ⟨by omega,by assumption⟩
       rw [if_pos hp] at ht
       refine ⟨_,_,?_,st_le (by (simp -dsimp (disch:=first|omega|(simp only [go_sem]; omega)) only [go_sem,seval,Nat.reduceEqDiff,Nat.reduceLeDiff,ht,List.map_append,List.map_cons,List.map_nil]<;>((repeat' apply And.intro)<;>first|exact VLe.refl _|(apply vle_int; omega)|(apply vle_int; simp; done)|exact VLe.own _ _|exact VLe.nilown _|exact VLe.norm _))),k + 1,hk',rfl,rfl⟩
       omega)
    | (have hp:¬ pre.isPrefixOf c.ents[k].name=true:=fun h=>by
        have:=hpi.1 h
        first|omega|exact absurd this.2 (by assumption)
       rw [if_neg hp,List.append_nil] at ht
       refine ⟨_,_,?_,st_le (by (simp -dsimp (disch:=first|omega|(simp only [go_sem]; omega)) only [go_sem,seval,Nat.reduceEqDiff,Nat.reduceLeDiff,ht]<;>((repeat' apply And.intro)<;>first|exact VLe.refl _|(apply vle_int; omega)|(apply vle_int; simp; done)|exact VLe.own _ _|exact VLe.nilown _|exact VLe.norm _))),k + 1,hk',rfl,rfl⟩
       omega)
 · obtain rfl:k=c.ents.length:=by omega
   rw [List.take_length]
   refine goR trivial ?_
   exact Fin.eq rfl ⟨rfl,_,.refl _,rfl⟩
theorem backward1_ok (l:List En) (hl:l.length≤100000) (b lo:Nat) (J:Nat→Gh→Prop) (Stop:Gh→Prop) (hJ:∀ k G,J k G→G.c b=some [.list (l.map eE)])
 (hstep:∀ i (h:i < l.length) G σ,J (i + 1) G→CallY Try.prog lo [eI i,eE l[i]] σ G fun r σ' G'=>σ'=σ∧((r=.d (.bool true)∧J i G')∨(r=.d (.bool false)∧Stop G')))
 (σ:List Hp) (G:Gh) (h0:J l.length G):CallT Try.prog f_zz2 ([.yld lo,.gp b 0].map .d) σ G fun _ σ' G'=>σ'=σ∧(J 0 G'∨Stop G'):=by
 refine callT_of_W fol zz2_cp ?_
 have hb:=hJ _ _ h0
 refine goS trivial ?_
 refine goR hb ?_
 refine W.loop (fun m st=>∃ k G,k≤l.length∧m=k∧J k G∧st=(E [(0,.d (.yld lo)),(1,.d (.gp b 0)),(3,.d (eI ((k:Int) - 1)))],HB [],σ,G))
  ⟨_,_,stle,l.length,G,Nat.le_refl _,rfl,h0,rfl⟩ ?_
 clear hb h0 G
 rintro m st ⟨k,G,hk,rfl,hj,rfl⟩
 have hb:=hJ _ _ hj
 refine goR trivial ?_
 refine wG_dec (fun h1=>?_) (fun h1=>?_)
 · obtain ⟨i,rfl⟩:∃ i,m=i + 1:=⟨m - 1,by omega⟩
   have hi:i < l.length:=by omega
   have e1:(((i + 1:Nat):Int) - 1)=(i:Int):=by omega
   rw [e1]
   (repeat (first|(with_reducible first|refine W.seq ?_|refine W.block ?_)|((with_reducible first|refine W.reg ?_|refine W.skip ?_|refine W.exit ?_|refine W.ret ?_|refine W.ifc ?_); simp -dsimp (disch:=first|omega|(simp only [go_sem]; omega)) only [go_sem,seval,Nat.reduceEqDiff,Nat.reduceLeDiff,hb,Int.toNat_natCast])))
   apply wC_y (hstep i hi G _ hj)
   focus (simp -dsimp (disch:=first|omega|(simp only [go_sem]; omega)) only [go_sem,seval,Nat.reduceEqDiff,Nat.reduceLeDiff]<;>fail)
   focus (simp -dsimp (disch:=first|omega|(simp only [go_sem]; omega)) only [go_sem,seval,Nat.reduceEqDiff,Nat.reduceLeDiff]<;>rfl)
   rintro r G' (⟨rfl,hj'⟩|⟨rfl,hst⟩)
   · refine goS trivial ?_
     refine goR trivial ?_
     refine ⟨_,_,?_,stle,i,G',by omega,rfl,hj',rfl⟩
     omega
   · refine goS trivial ?_
     refine goR trivial ?_
     exact Fin.eq rfl ⟨rfl,.inr hst⟩
 · obtain rfl:m=0:=by omega
   refine goR trivial ?_
   exact Fin.eq rfl ⟨rfl,.inl hj⟩
end Go.Proofs.Ytgoleoihpgmcbaa
