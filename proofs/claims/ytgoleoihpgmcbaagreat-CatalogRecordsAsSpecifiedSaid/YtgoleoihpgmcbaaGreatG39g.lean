/-
 Layer 39 (catalog),continued: functions that are values; sweeping.
 Conditions: of each contract as it says.
-/
import Derived.Test.YtgoleoihpgmcbaaGreatG39e
namespace Go.Proofs.YtgoleoihpgmcbaaGreat
open Go Go.E2 C39
set_option linter.unusedSimpArgs false
section
variable {P:Program} {d:Option Nat} {f:AO} {args:List AO} {q:Nat} {ρ:Env} {L:Hp} {σ:List Hp} {G:Gh} {K:St→Prop} {h:Hide K} {g:FuncId}
theorem wC_Qc {xs cs:List D} {v:AV} (hc:CallQ P g (xs ++ cs) G (·=v)) (ht:target (ev ρ f)=some (g,cs.map .d)) (hd:datas ρ args=some xs) (hK:K (put ρ d v,L,σ,G)):wC P d f args q ρ L σ G h :=
 callW_qc hc ht hd fun r e=>by rw [e]; exact hK
theorem wC_n {xs:List D} {Q:AV→Gh→Prop} (hc:∀ σ,CallT P g (xs.map .d) σ G fun r σ' G'=>σ'=σ∧Q r G') (hq:q=0∨q=4) (ht:target (ev ρ f)=some (g,[])) (hd:datas ρ args=some xs) (hK:∀ r G',Q r G'→K (put ρ d r,L,σ,G')):wC P d f args q ρ L σ G h:=by
 show callW P d f args q ρ L σ G K
 unfold callW
 rw [ht]
 have e:(args.map (ev ρ) ++ []).map sh=xs.map AV.d:=by rw [List.append_nil,callW_data hd]
 simp only
 rcases hq with rfl|rfl
 · rw [if_pos rfl,e]
   exact (hc _).mono fun r lv G' ⟨h1,h3⟩=>by subst h1; exact hK r G' h3
 · rw [if_neg (by decide),if_pos (by decide),e]
   exact (hc _).mono fun r lv G' ⟨h1,h3⟩=>by subst h1; exact ⟨rfl,fun h=>absurd h (by decide),hK r G' h3⟩
end
abbrev Fun1 (G:Gh) (fv:D) (xs:List D) (r:AV):Prop:=∃ g ds,fv=.clo g ds∧∀ G',GSub G G'→CallQ Tryz.prog g (xs ++ ds) G' (·=r)
theorem Fun1.mono {G G':Gh} {fv:D} {xs:List D} {r:AV} (h:Fun1 G fv xs r) (hs:GSub G G'):Fun1 G' fv xs r:=by
 obtain ⟨g,ds,e,hc⟩:=h
 exact ⟨g,ds,e,fun G2 h2=>hc G2 (hs.trans h2)⟩
def FnE (G:Gh) (fv:D) (φ:En→En × Bool):Prop:=∃ g ds,fv=.clo g ds∧∀ x G',GSub G G'→CallQ Tryz.prog g ([eE x] ++ ds) G' (·=.tup [eE (φ x).1,.bool (φ x).2])
def FnS (G:Gh) (fv:D) (φ:Sn→Sn × Bool) (dom:Sn→Prop):Prop:=∃ g ds,fv=.clo g ds∧∀ x G',dom x→GSub G G'→CallQ Tryz.prog g ([eS x] ++ ds) G' (·=.tup [eS (φ x).1,.bool (φ x).2])
def PrE (G:Gh) (fv:D) (p:En→Bool):Prop:=∃ g ds,fv=.clo g ds∧∀ x G',GSub G G'→CallQ Tryz.prog g ([eE x] ++ ds) G' (·=.d (.bool (p x)))
def optF {α:Type} (φ:α→α × Bool) (x:α):Option α:=if (φ x).2=true then some (φ x).1 else none
theorem take_fm {α:Type} {l:List α} {k:Nat} (h:k < l.length) (φ:α→α × Bool):(l.take (k + 1)).filterMap (optF φ)=(l.take k).filterMap (optF φ) ++ (if (φ l[k]).2=true then [(φ l[k]).1] else []):=by
 rw [List.take_succ_eq_append_getElem h,List.filterMap_append]
 congr 1
 unfold optF
 by_cases hb:(φ l[k]).2=true<;>simp [hb]
theorem chosenE_ok (l:List En) (hl:l.length≤100000) (fv:D) (φ:En→En × Bool) (G:Gh) (hf:FnE G fv φ):CallQ Tryz.prog f_zz16 [.list (l.map eE),fv] G (·=.d (.list ((l.filterMap (optF φ)).map eE))):=by
 intro σ
 refine callT_of_W fol zz16_cp ?_
 obtain ⟨g,ds,rfl,hc⟩:=hf
 have hm:=mostBytes_eq
 refine goS trivial ?_
 refine goR trivial ?_
 refine W.loop (fun m st=>∃ k b7 b8,k≤l.length∧m=l.length - k ∧
  st=(E [(1,.d (.clo g ds)),(5,.own 4 (((l.take k).filterMap (optF φ)).map eE)),(10,.d (.list (l.map eE))),(11,.d (eI l.length)),(12,.d (eI k))],HB [(7,b7),(8,b8)],σ,G))
  ⟨_,_,st_leB (by (simp -dsimp (disch:=first|omega|(simp only [go_sem]; omega)) only [go_sem,seval,Nat.reduceEqDiff,Nat.reduceLeDiff,List.take_zero,List.filterMap_nil,List.map_nil]<;>((repeat' apply And.intro)<;>first|exact VLe.refl _|(apply vle_int; omega)|(apply vle_int; simp; done)|exact VLe.own _ _|exact VLe.nilown _|exact VLe.norm _))) (HB_pad [] [7,8] rfl).symm,0,_,_,by omega,rfl,rfl⟩ ?_
 rintro m st ⟨k,b7,b8,hk,rfl,rfl⟩
 refine goR trivial ?_
 refine wG_dec (fun h1=>?_) (fun h1=>?_)
 · have hk':k < l.length:=by omega
   have ht:=take_fm hk' φ
   have hlen:((l.take k).filterMap (optF φ)).length≤k:=Nat.le_trans (List.length_filterMap_le ..) (by rw [List.length_take]; omega)
   refine goR trivial ?_
   refine wC_Qc (hc l[k] G (GSub.refl G)) (by simp -dsimp (disch:=first|omega|(simp only [go_sem]; omega)) only [go_sem,seval,Nat.reduceEqDiff,Nat.reduceLeDiff]) (by simp -dsimp (disch:=first|omega|(simp only [go_sem]; omega)) only [go_sem,seval,Nat.reduceEqDiff,Nat.reduceLeDiff]<;>rfl) ?_
   refine goS trivial ?_
   cases hb:(φ l[k]).2 with
   | true =>
    rw [hb,if_pos rfl] at ht
    (repeat (first|(with_reducible first|refine W.seq ?_|refine W.block ?_|refine W.scope ?_)|((with_reducible first|refine W.reg ?_|refine W.skip ?_|refine W.exit ?_|refine W.ret ?_|refine W.ifc ?_); simp -dsimp (disch:=first|omega|(simp only [go_sem]; omega)) only [go_sem,seval,Nat.reduceEqDiff,Nat.reduceLeDiff,hb,List.length_map])))
    refine ⟨_,_,?_,st_leB (by (simp -dsimp (disch:=first|omega|(simp only [go_sem]; omega)) only [go_sem,seval,Nat.reduceEqDiff,Nat.reduceLeDiff,ht,List.map_append,List.map_cons,List.map_nil]<;>((repeat' apply And.intro)<;>first|exact VLe.refl _|(apply vle_int; omega)|(apply vle_int; simp; done)|exact VLe.own _ _|exact VLe.nilown _|exact VLe.norm _))) rfl,k + 1,_,_,hk',rfl,rfl⟩
    omega
   | false =>
    rw [hb,if_neg (by decide),List.append_nil] at ht
    refine goR hb ?_
    refine ⟨_,_,?_,st_leB (by (simp -dsimp (disch:=first|omega|(simp only [go_sem]; omega)) only [go_sem,seval,Nat.reduceEqDiff,Nat.reduceLeDiff,ht]<;>((repeat' apply And.intro)<;>first|exact VLe.refl _|(apply vle_int; omega)|(apply vle_int; simp; done)|exact VLe.own _ _|exact VLe.nilown _|exact VLe.norm _))) rfl,k + 1,_,_,hk',rfl,rfl⟩
    omega
 · obtain rfl:k=l.length:=by omega
   refine goR trivial ?_
   exact Fin.eq rfl ⟨rfl,rfl,by rw [List.take_length]⟩
end Go.Proofs.YtgoleoihpgmcbaaGreat
/-
 Layer 39 (catalog),continued: sweeping a catalog.
 Conditions: of each contract as it says.
-/
namespace Go.Proofs.YtgoleoihpgmcbaaGreat
open Go Go.E2 C39
set_option linter.unusedSimpArgs false
theorem chosenS_ok (l:List Sn) (hl:l.length≤100000) (fv:D) (φ:Sn→Sn × Bool) (dom:Sn→Prop) (G:Gh) (hf:FnS G fv φ dom) (hd:∀ s ∈ l,dom s):CallQ Tryz.prog f_zz18 [.list (l.map eS),fv] G (·=.d (.list ((l.filterMap (optF φ)).map eS))):=by
 intro σ
 refine callT_of_W fol zz18_cp ?_
 obtain ⟨g,ds,rfl,hc⟩:=hf
 have hm:=mostBytes_eq
 refine goS trivial ?_
 refine goR trivial ?_
 refine W.loop (fun m st=>∃ k b7 b8,k≤l.length∧m=l.length - k ∧
  st=(E [(1,.d (.clo g ds)),(5,.own 2 (((l.take k).filterMap (optF φ)).map eS)),(10,.d (.list (l.map eS))),(11,.d (eI l.length)),(12,.d (eI k))],HB [(7,b7),(8,b8)],σ,G))
  ⟨_,_,st_leB (by (simp -dsimp (disch:=first|omega|(simp only [go_sem]; omega)) only [go_sem,seval,Nat.reduceEqDiff,Nat.reduceLeDiff,List.take_zero,List.filterMap_nil,List.map_nil]<;>((repeat' apply And.intro)<;>first|exact VLe.refl _|(apply vle_int; omega)|(apply vle_int; simp; done)|exact VLe.own _ _|exact VLe.nilown _|exact VLe.norm _))) (HB_pad [] [7,8] rfl).symm,0,_,_,by omega,rfl,rfl⟩ ?_
 rintro m st ⟨k,b7,b8,hk,rfl,rfl⟩
 refine goR trivial ?_
 refine wG_dec (fun h1=>?_) (fun h1=>?_)
 · have hk':k < l.length:=by omega
   have ht:=take_fm hk' φ
   have hlen:((l.take k).filterMap (optF φ)).length≤k:=Nat.le_trans (List.length_filterMap_le ..) (by rw [List.length_take]; omega)
   refine goR trivial ?_
   refine wC_Qc (hc l[k] G (hd _ (List.getElem_mem hk')) (GSub.refl G)) (by simp -dsimp (disch:=first|omega|(simp only [go_sem]; omega)) only [go_sem,seval,Nat.reduceEqDiff,Nat.reduceLeDiff]) (by simp -dsimp (disch:=first|omega|(simp only [go_sem]; omega)) only [go_sem,seval,Nat.reduceEqDiff,Nat.reduceLeDiff]<;>rfl) ?_
   refine goS trivial ?_
   cases hb:(φ l[k]).2 with
   | true =>
    rw [hb,if_pos rfl] at ht
    (repeat (first|(with_reducible first|refine W.seq ?_|refine W.block ?_|refine W.scope ?_)|((with_reducible first|refine W.reg ?_|refine W.skip ?_|refine W.exit ?_|refine W.ret ?_|refine W.ifc ?_); simp -dsimp (disch:=first|omega|(simp only [go_sem]; omega)) only [go_sem,seval,Nat.reduceEqDiff,Nat.reduceLeDiff,hb,List.length_map])))
    refine ⟨_,_,?_,st_leB (by (simp -dsimp (disch:=first|omega|(simp only [go_sem]; omega)) only [go_sem,seval,Nat.reduceEqDiff,Nat.reduceLeDiff,ht,List.map_append,List.map_cons,List.map_nil]<;>((repeat' apply And.intro)<;>first|exact VLe.refl _|(apply vle_int; omega)|(apply vle_int; simp; done)|exact VLe.own _ _|exact VLe.nilown _|exact VLe.norm _))) rfl,k + 1,_,_,hk',rfl,rfl⟩
    omega
   | false =>
    rw [hb,if_neg (by decide),List.append_nil] at ht
    refine goR hb ?_
    refine ⟨_,_,?_,st_leB (by (simp -dsimp (disch:=first|omega|(simp only [go_sem]; omega)) only [go_sem,seval,Nat.reduceEqDiff,Nat.reduceLeDiff,ht]<;>((repeat' apply And.intro)<;>first|exact VLe.refl _|(apply vle_int; omega)|(apply vle_int; simp; done)|exact VLe.own _ _|exact VLe.nilown _|exact VLe.norm _))) rfl,k + 1,_,_,hk',rfl,rfl⟩
    omega
 · obtain rfl:k=l.length:=by omega
   refine goR trivial ?_
   exact Fin.eq rfl ⟨rfl,rfl,by rw [List.take_length]⟩
theorem only1_ok (x:En) (b:Nat) (pv:D) (p:En→Bool) (G:Gh) (hb:G.c b=some [pv]) (hp:PrE G pv p):CallQ Tryz.prog f_zz70 ([eE x] ++ [.gp b 0]) G (·=.tup [eE x,.bool (p x)]):=by
 intro σ
 refine callT_of_W fol zz70_cp ?_
 obtain ⟨g,ds,rfl,hc⟩:=hp
 refine goS trivial ?_
 refine goR hb ?_
 refine wC_Qc (hc x G (GSub.refl G)) (by simp -dsimp (disch:=first|omega|(simp only [go_sem]; omega)) only [go_sem,seval,Nat.reduceEqDiff,Nat.reduceLeDiff]) (by simp -dsimp (disch:=first|omega|(simp only [go_sem]; omega)) only [go_sem,seval,Nat.reduceEqDiff,Nat.reduceLeDiff]<;>rfl) ?_
 refine goS trivial ?_
 refine goR trivial ?_
 exact Fin.eq rfl ⟨rfl,rfl,rfl⟩
theorem only_ok (pv:D) (p:En→Bool) (G:Gh) (hp:PrE G pv p) (σ:List Hp):CallT Tryz.prog f_zz87 ([pv].map .d) σ G fun r σ' G'=>σ'=σ∧GSub G G'∧∃ fv,r=.d fv∧FnE G' fv fun x=>(x,p x):=by
 refine callT_of_W fol zz87_cp ?_
 obtain ⟨g,ds,rfl,hc⟩:=hp
 refine goS trivial ?_
 refine goR trivial ?_
 refine wNew_mk fun b hb=>?_
 refine goS trivial ?_
 refine goR trivial ?_
 have hsub:=GSub.new hb (some [D.clo g ds])
 refine Fin.eq rfl ⟨rfl,hsub,_,rfl,_,_,rfl,fun x G' hs'=>?_⟩
 exact only1_ok x b (.clo g ds) p G' (hs'.c _ _ (by simp)) ⟨g,ds,rfl,fun y G2 h2=>hc y G2 ((hsub.trans hs').trans h2)⟩
theorem FnE.mono {G G':Gh} {fv:D} {φ:En→En × Bool} (h:FnE G fv φ) (hs:GSub G G'):FnE G' fv φ:=by
 obtain ⟨g,ds,e,hc⟩:=h
 exact ⟨g,ds,e,fun x G2 h2=>hc x G2 (hs.trans h2)⟩
def swS (φ:En→En × Bool) (s:Sn):Sn × Bool:=({ s with ents:=s.ents.filterMap (optF φ) },true)
theorem sweep1_ok (s:Sn) (hl:s.ents.length≤1000) (b:Nat) (fv:D) (φ:En→En × Bool) (G:Gh) (hb:G.c b=some [fv]) (hf:FnE G fv φ):CallQ Tryz.prog f_zz57 ([eS s] ++ [.gp b 0]) G (·=.tup [eS (swS φ s).1,.bool (swS φ s).2]):=by
 intro σ
 refine callT_of_W fol zz57_cp ?_
 have hc:=chosenE_ok s.ents (by omega) fv φ G hf
 obtain ⟨g,ds,rfl,-⟩:=hf
 refine goS trivial ?_
 refine goR hb ?_
 (refine goQ (hc) ?_; refine goS hb ?_)
 refine goR trivial ?_
 exact Fin.eq rfl ⟨rfl,rfl,rfl⟩
theorem sweep_map (φ:En→En × Bool):∀ l:List Sn,l.filterMap (optF (swS φ))=l.map fun s=>{ s with ents:=s.ents.filterMap (optF φ) }
 | []=>rfl
 | s::r=>by
   have h:optF (swS φ) s=some (swS φ s).1:=rfl
   rw [List.filterMap_cons_some h,sweep_map φ r]; rfl
theorem sweep_ok (c:Ct) (hs:smallC c) (fv:D) (φ:En→En × Bool) (G:Gh) (hf:FnE G fv φ) (σ:List Hp):CallT Tryz.prog f_zz79 ([eC c,fv].map .d) σ G fun r σ' G'=>σ'=σ∧GSub G G'∧r=.d (eC (sweepC (optF φ) c)):=by
 refine callT_of_W fol zz79_cp ?_
 obtain ⟨s1,s2,s3⟩:=hs
 have hf0:=hf
 obtain ⟨g,ds,rfl,-⟩:=hf
 refine goS trivial ?_
 refine goR trivial ?_
 refine wNew_mk fun b hb=>?_
 have hsub:=GSub.new hb (some [D.clo g ds])
 have hc1:=chosenE_ok c.ents (by omega) _ φ (G.set b (some [D.clo g ds])) (hf0.mono hsub)
 have hS:FnS (G.set b (some [D.clo g ds])) (.clo f_zz57 [.gp b 0]) (swS φ) (fun s=>s.ents.length≤1000) :=
  ⟨_,_,rfl,fun s G' hl hs'=>sweep1_ok s hl b _ φ G' (hs'.c _ _ (by simp)) (hf0.mono (hsub.trans hs'))⟩
 have hc2:=chosenS_ok c.snaps (by omega) _ (swS φ) _ _ hS s3
 rw [sweep_map] at hc2
 refine goS trivial ?_
 refine goR trivial ?_
 (refine goQ (hc1) ?_; refine goS trivial ?_)
 refine goR trivial ?_
 (refine goQ (hc2) ?_; refine goS trivial ?_)
 refine goR trivial ?_
 exact Fin.eq rfl ⟨rfl,hsub,rfl⟩
theorem HasPrefix0_ok (s t:Str):CallP Tryz.prog f_zz13 [.str s,.str t] (·=.d (.bool (t.isPrefixOf s))):=by
 refine callP_of_W fol zz13_cp ?_
 have key:t.isPrefixOf s=decide (t.length≤s.length∧s.take t.length=t):=by
  rw [Bool.eq_iff_iff,List.isPrefixOf_iff_prefix,decide_eq_true_eq,List.prefix_iff_eq_take]
  constructor
  · intro h; refine ⟨?_,h.symm⟩; have:=congrArg List.length h; rw [List.length_take] at this; omega
  · intro h; exact h.2.symm
 rw [key]
 refine goS trivial ?_
 (refine goX trivial ?_; (repeat' (with_reducible apply Br.mk<;>intro _)))
 · refine Fin.p rfl (bI ?_)
   constructor
   · intro h; exact ⟨by omega,h⟩
   · intro h; exact h.2
 · exact Fin.p rfl (bF fun h=>by have:=h.1; omega)
theorem HasPrefix_ok (s t:Str):CallP Tryz.prog f_zz45 [.str s,.str t] (·=.d (.bool (t.isPrefixOf s))):=by
 refine callP_of_W fol zz45_cp ?_
 refine goS trivial ?_
 (refine goX1 trivial (HasPrefix0_ok s t) ?_; (repeat' (with_reducible apply Br.mk<;>intro _)))
 exact Fin.p rfl rfl
end Go.Proofs.YtgoleoihpgmcbaaGreat
