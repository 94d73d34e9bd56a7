/-
 Layer 39 (catalog): entries,their order; what its functions return.
 Conditions: of each contract as it says.
-/
import Derived.Test.YtgoleoihpgmcbaaGreatT39z
import Derived.Test.YtgoleoihpgmcbaaGreatEN13
import Derived.Test.YtgoleoihpgmcbaaGreatS39
namespace Go.Proofs.YtgoleoihpgmcbaaGreat
open Go Go.E2 C39
set_option linter.unusedSimpArgs false
def eE (x:En):D:=.agg [.str x.name,.int .i64 x.ver,.int .i64 x.obj,.int .i64 x.last]
def eS (s:Sn):D:=.agg [.int .i64 s.snap,.list (s.ents.map eE)]
def eC (c:Ct):D:=.agg [.int .i64 c.now,.list (c.ents.map eE),.list (c.snaps.map eS)]
def eO (o:Co):D:=.agg [.int .i64 o.kind,.int .i64 o.tick,.int .i64 o.ver,.int .i64 o.obj,.int .i64 o.last,.int .i64 o.snap,.str o.name]
abbrev eI (n:Int):D:=.int .i64 n
attribute [go_sem] eE eS eC eO
@[go_sem] theorem eE_all (l:List En):(l.map eE).all (sizeOk 4)=true:=by simp [List.all_map,Function.comp_def,eE,sizeOk,D.cells,D.one]
@[go_sem] theorem eS_all (l:List Sn):(l.map eS).all (sizeOk 2)=true:=by simp [List.all_map,Function.comp_def,eS,sizeOk,D.cells,D.one]
theorem bytesLess_slt:∀ (x y:Str),Op.bytesLess x y=slt x y
 | [],[]=>rfl
 | _::_,[]=>rfl
 | [],_::_=>rfl
 | a::x,b::y=>by rw [Op.bytesLess,slt,bytesLess_slt x y]
@[go_sem] theorem binD_slss (s t:Str):binD .lss (.str s) (.str t)=some (.bool (decide (slt s t=true))):=by
  simp only [binD,bytesLess_slt,Bool.decide_eq_true]
@[go_sem] theorem binD_sgtr (s t:Str):binD .gtr (.str s) (.str t)=some (.bool (decide (slt t s=true))):=by
  simp only [binD,bytesLess_slt,Bool.decide_eq_true]
  congr 2
  rcases slt_tri s t with h|h|h
  · simp [h,slt_asymm h]
  · subst h; simp [slt_irrefl]
  · have h1:=slt_asymm h
    have h2:s ≠ t:=by rintro rfl; rw [slt_irrefl] at h; cases h
    simp [h,h1,h2]
theorem within_ok (n m:Int):CallP Tryz.prog f_zz73 [eI n,eI m] (·=.d (.bool (decide (0≤n∧n≤m)))):=by
 refine callP_of_W fol zz73_cp ?_
 refine goS trivial ?_
 (refine goX trivial ?_; (repeat' (with_reducible apply Br.mk<;>intro _)))
 all_goals exact Fin.p rfl (by (first|rfl|(refine bT ?_; omega)|(refine bF ?_; omega)|(refine bI ?_; omega)))
theorem right_ok (x:En):CallP Tryz.prog f_zz78 [eE x] (·=.d (.bool (decide (rightE x)))):=by
 refine callP_of_W fol zz78_cp ?_
 refine goS trivial ?_
 (refine goX2 trivial (within_ok x.obj 1099511627776) (within_ok x.last 1000000) ?_; (repeat' (with_reducible apply Br.mk<;>intro _)))
 all_goals
  refine Fin.p rfl ?_
  unfold rightE
  have hl:x.name=[]↔¬ 1≤x.name.length:=by rw [← List.length_eq_zero_iff]; omega
  simp only [hl] at *
  (first|rfl|(refine bT ?_; omega)|(refine bF ?_; omega)|(refine bI ?_; omega))
theorem refRight_ok (x:En):CallP Tryz.prog f_zz35 [eE x] (·=.d (.bool (decide (rightE x)))):=by
 refine callP_of_W fol zz35_cp ?_
 refine goS trivial ?_
 (refine goX trivial ?_; (repeat' (with_reducible apply Br.mk<;>intro _)))
 all_goals exact Fin.p rfl (by unfold rightE; (first|rfl|(refine bT ?_; omega)|(refine bF ?_; omega)|(refine bI ?_; omega)))
theorem before_ok (a b:En):CallP Tryz.prog f_zz28 [eE a,eE b] (·=.d (.bool (decide (before a b)))):=by
 refine callP_of_W fol zz28_cp ?_
 refine goS trivial ?_
 (refine goX trivial ?_; (repeat' (with_reducible apply Br.mk<;>intro _)))
 all_goals
  refine Fin.p rfl ?_
  unfold before
  first|(refine bT ?_; simp_all; done)|(refine bF ?_; simp_all; done)|(refine bI ?_; simp_all; done)|skip
def cmpE (a b:En):Int:=if before a b then -1 else if before b a then 1 else 0
def cmpS (a b:Str):Int:=if slt a b=true then -1 else if slt b a=true then 1 else 0
def cmpI (a b:Int):Int:=if a < b then -1 else if b < a then 1 else 0
theorem nanS_ok (a:Str):CallP Tryz.prog f_zz49 [.str a] (·=.d (.bool false)):=by
 refine callP_of_W fol zz49_cp ?_
 refine goS trivial ?_
 (refine goX trivial ?_; (repeat' (with_reducible apply Br.mk<;>intro _)))
 all_goals exact Fin.p rfl (by simp)
theorem nanI_ok (a:Int):CallP Tryz.prog f_zz80 [eI a] (·=.d (.bool false)):=by
 refine callP_of_W fol zz80_cp ?_
 refine goS trivial ?_
 (refine goX trivial ?_; (repeat' (with_reducible apply Br.mk<;>intro _)))
 all_goals exact Fin.p rfl (by simp)
theorem cmpS_ok (a b:Str):CallP Tryz.prog f_zz32 [.str a,.str b] (·=.d (eI (cmpS a b))):=by
 refine callP_of_W fol zz32_cp ?_
 refine goS trivial ?_
 (refine goX2 trivial (nanS_ok a) (nanS_ok b) ?_; (repeat' (with_reducible apply Br.mk<;>intro _)))
 all_goals (refine Fin.p rfl (iE ?_); unfold cmpS; simp_all)
theorem cmpI_ok (a b:Int):CallP Tryz.prog f_zz58 [eI a,eI b] (·=.d (eI (cmpI a b))):=by
 refine callP_of_W fol zz58_cp ?_
 refine goS trivial ?_
 (refine goX2 trivial (nanI_ok a) (nanI_ok b) ?_; (repeat' (with_reducible apply Br.mk<;>intro _)))
 all_goals (refine Fin.p rfl (iE ?_); unfold cmpI; split<;>first|omega|(split<;>omega))
end Go.Proofs.YtgoleoihpgmcbaaGreat
/-
 Layer 39 (catalog),continued: lists of entries.
 Conditions: of each contract as it says.
-/
namespace Go.Proofs.YtgoleoihpgmcbaaGreat
open Go Go.E2 C39
set_option linter.unusedSimpArgs false
@[go_sem] theorem eI_all (l:List Int):(l.map eI).all (sizeOk 1)=true:=by simp [List.all_map,Function.comp_def,sizeOk,D.cells,D.one]
theorem drop_at {α:Type} {l:List α} {k:Nat} (h:k < l.length):l.drop k=l[k]::l.drop (k + 1):=List.drop_eq_getElem_cons h
theorem drop_end {α:Type} (l:List α):l.drop l.length=[]:=List.drop_length
theorem Or_ok (l:List Int) (hl:l.length≤1000):CallP Tryz.prog f_zz96 [.list (l.map eI)] (·=.d (eI ((l.find? fun n=>decide (n ≠ 0)).getD 0))):=by
 refine callP_of_W fol zz96_cp ?_
 refine goS trivial ?_
 refine goR trivial ?_
 refine W.loop (fun m st=>∃ k,k≤l.length∧m=l.length - k∧(l.find? fun n=>decide (n ≠ 0))=((l.drop k).find? fun n=>decide (n ≠ 0)) ∧
  st=(E [(3,.d (eI 0)),(6,.d (.list (l.map eI))),(7,.d (eI l.length)),(8,.d (eI k))],HB [],[],noGh))
  ⟨_,_,stle,0,by omega,rfl,rfl,rfl⟩ ?_
 rintro m st ⟨k,hk,rfl,hf,rfl⟩
 refine goR trivial ?_
 refine wG_dec (fun h1=>?_) (fun h1=>?_)
 · have hk':k < l.length:=by omega
   rw [drop_at hk',List.find?_cons] at hf
   (refine goX trivial ?_; (repeat' (with_reducible apply Br.mk<;>intro _)))
   · rename_i he
     rw [decide_eq_true he] at hf
     exact Fin.p rfl (iE (by rw [hf]; rfl))
   · rename_i he
     rw [decide_eq_false he] at hf
     refine ⟨_,_,?_,stle,k + 1,hk',rfl,hf,rfl⟩
     omega
 · obtain rfl:k=l.length:=by omega
   rw [drop_end] at hf
   refine goR trivial ?_
   exact Fin.p rfl (iE (by rw [hf]; rfl))
theorem or_two (a b:Int):(([a,b].find? fun n=>decide (n ≠ 0)).getD 0)=if a ≠ 0 then a else b:=by
 by_cases h:a=0
 · by_cases h2:b=0<;>simp [h,h2]
 · simp [h]
theorem cmpE_or (a b:En):(if cmpS a.name b.name ≠ 0 then cmpS a.name b.name else cmpI a.ver b.ver)=cmpE a b:=by
 unfold cmpS cmpI cmpE before
 rcases slt_tri a.name b.name with h|h|h
 · simp [h]
 · simp only [h,slt_irrefl]
   by_cases h1:a.ver < b.ver
   · simp [h1]
   · by_cases h2:b.ver < a.ver<;>simp [h1,h2]
 · have h1:=slt_asymm h
   have h2:b.name ≠ a.name:=by intro e; rw [e,slt_irrefl] at h; cases h
   have h3:a.name ≠ b.name:=fun e=>h2 e.symm
   simp [h,h1,h2,h3]
theorem order_ok (a b:En):CallP Tryz.prog f_zz76 [eE a,eE b] (·=.d (eI (cmpE a b))):=by
 refine callP_of_W fol zz76_cp ?_
 have ho:=Or_ok [cmpS a.name b.name,cmpI a.ver b.ver] (by simp)
 rw [or_two,cmpE_or] at ho
 refine goS trivial ?_
 (refine goX3 trivial (cmpS_ok a.name b.name) (cmpI_ok a.ver b.ver) (ho) ?_; (repeat' (with_reducible apply Br.mk<;>intro _)))
 exact Fin.p rfl rfl
theorem cmpE_neg {a b:En}:cmpE a b < 0↔before a b:=by
 unfold cmpE
 by_cases h:before a b
 · simp [h]
 · simp only [if_neg h,h,iff_false]; by_cases h':before b a<;>simp [h']
theorem cmpE_zero {a b:En}:cmpE a b=0↔sameK a b:=by
 unfold cmpE
 have h1:=before_tri a b
 by_cases h:before a b
 · simp only [if_pos h]; refine ⟨fun e=>by omega,fun e=>(e.not_before h).elim⟩
 · rw [if_neg h]
   by_cases h':before b a
   · rw [if_pos h']; refine ⟨fun e=>by omega,fun e=>?_⟩
     have:sameK b a:=⟨e.1.symm,e.2.symm⟩
     exact (this.not_before h').elim
   · rw [if_neg h']; simp_all
def prevE {α:Type} (l:List α) (k:Nat):Option α:=if k=0 then none else l[k - 1]?
theorem prevE_succ {α:Type} {l:List α} {k:Nat} (h:k < l.length):prevE l (k + 1)=some l[k]:=by simp [prevE,h]
theorem prevE_0 {α:Type} (l:List α):prevE l 0=none:=rfl
theorem prevE_pos {α:Type} {l:List α} {k:Nat} (h:k < l.length) (h0:k ≠ 0):prevE l k=some l[k - 1]:=by simp [prevE,h0]
theorem okL_step {l:List En} {k:Nat} (h:k < l.length):okL (prevE l k) (l.drop k)↔rightE l[k]∧(∀ h0:k ≠ 0,before l[k - 1] l[k])∧okL (prevE l (k + 1)) (l.drop (k + 1)):=by
 rw [drop_at h,okL,prevE_succ h]
 by_cases h0:k=0
 · subst h0; simp [prevE]
 · rw [prevE_pos h h0]; simp [h0]
theorem listed_ok (l:List En) (hl:l.length≤100000):CallP Tryz.prog f_zz68 [.list (l.map eE)] (·=.d (eI (listedC l))):=by
 refine callP_of_W fol zz68_cp ?_
 unfold listedC
 refine goS trivial ?_
 (refine goX trivial ?_; (repeat' (with_reducible apply Br.mk<;>intro _)))
 · exact Fin.p rfl (iE (by rw [if_pos (by omega)]))
 rename_i hlen
 rw [if_neg (by omega)]
 refine W.loop (fun m st=>∃ k b4,k≤l.length∧m=l.length - k∧(okL none l↔okL (prevE l k) (l.drop k)) ∧
  st=(E [(0,.d (.list (l.map eE))),(8,.d (.list (l.map eE))),(9,.d (eI l.length)),(10,.d (eI k))],HB [(4,b4)],[],noGh))
  ⟨_,_,stleB (HB_pad [] [4] rfl).symm,0,_,by omega,rfl,by rw [prevE_0]; rfl,rfl⟩ ?_
 rintro m st ⟨k,b4,hk,rfl,hi,rfl⟩
 refine goR trivial ?_
 refine wG_dec (fun h1=>?_) (fun h1=>?_)
 · have hk':k < l.length:=by omega
   rw [okL_step hk'] at hi
   have e1:((k:Int) - 1).toNat=k - 1:=by omega
   (refine goX2 e1 (right_ok l[k]) (order_ok l[k - 1] l[k]) ?_; (repeat' (with_reducible apply Br.mk<;>intro _)))
   · rename_i hr h0 hc
     have hb:¬ before l[k - 1] l[k]:=fun h=>by have:=cmpE_neg.2 h; omega
     exact Fin.p rfl (iE (by rw [if_neg (fun h=>hb ((hi.1 h).2.1 (by omega)))]))
   · rename_i hr h0 hc
     have hb:before l[k - 1] l[k]:=cmpE_neg.1 (by omega)
     refine ⟨_,_,?_,stleB rfl,k + 1,_,hk',rfl,⟨fun h=>(hi.1 h).2.2,fun h=>hi.2 ⟨Classical.not_not.1 hr,fun _=>hb,h⟩⟩,rfl⟩
     omega
   · rename_i hr h0
     obtain rfl:k=0:=by omega
     refine ⟨_,_,?_,stleB rfl,0 + 1,_,hk',rfl,⟨fun h=>(hi.1 h).2.2,fun h=>hi.2 ⟨Classical.not_not.1 hr,fun h=>absurd rfl h,h⟩⟩,rfl⟩
     omega
   · rename_i hr
     exact Fin.p rfl (iE (by rw [if_neg (fun h=>hr (hi.1 h).1)]))
 · obtain rfl:k=l.length:=by omega
   rw [drop_end] at hi
   refine goR trivial ?_
   exact Fin.p rfl (iE (by rw [if_pos (hi.2 trivial)]))
theorem refListed_ok (l:List En) (hl:l.length≤100000):CallP Tryz.prog f_zz29 [.list (l.map eE)] (·=.d (eI (listedC l))):=by
 refine callP_of_W fol zz29_cp ?_
 unfold listedC
 refine goS trivial ?_
 (refine goX trivial ?_; (repeat' (with_reducible apply Br.mk<;>intro _)))
 · exact Fin.p rfl (iE (by rw [if_pos (by omega)]))
 rename_i hlen
 rw [if_neg (by omega)]
 refine W.loop (fun m st=>∃ k,k≤l.length∧m=l.length - k∧(okL none l↔okL (prevE l k) (l.drop k)) ∧
  st=(E [(0,.d (.list (l.map eE))),(3,.d (eI k))],HB [],[],noGh))
  ⟨_,_,stle,0,by omega,rfl,by rw [prevE_0]; rfl,rfl⟩ ?_
 rintro m st ⟨k,hk,rfl,hi,rfl⟩
 refine goR trivial ?_
 refine wG_dec (fun h1=>?_) (fun h1=>?_)
 · have hk':k < l.length:=by omega
   rw [okL_step hk'] at hi
   have e1:((k:Int) - 1).toNat=k - 1:=by omega
   (refine goX2 e1 (refRight_ok l[k]) (before_ok l[k - 1] l[k]) ?_; (repeat' (with_reducible apply Br.mk<;>intro _)))
   all_goals first
    | (refine Fin.p rfl (iE ?_)
       rw [if_neg (fun h=>?_)]
       obtain ⟨q1,q2,-⟩:=hi.1 h
       first|exact absurd q1 (by assumption)|exact absurd (q2 (by omega)) (by assumption))
    | (refine ⟨_,_,?_,stle,k + 1,hk',rfl,⟨fun h=>(hi.1 h).2.2,fun h=>hi.2 ⟨Classical.not_not.1 (by assumption),fun h0=>?_,h⟩⟩,rfl⟩
       · omega
       · first|(exact Classical.not_not.1 (by assumption))|(exfalso; omega))
 · obtain rfl:k=l.length:=by omega
   rw [drop_end] at hi
   refine goR trivial ?_
   exact Fin.p rfl (iE (by rw [if_pos (hi.2 trivial)]))
theorem ext_up {α:Type} {a b:List α} (hl:a.length=b.length) (h:∀ j (h1:j < a.length) (h2:j < b.length),a[j]=b[j]):a=b:=List.ext_getElem hl fun j h1 h2=>h j h1 h2
theorem SameE_ok (a b:List En) (hl:a.length≤100000) (hl2:b.length≤100000):CallP Tryz.prog f_zz19 [.list (a.map eE),.list (b.map eE)] (·=.d (.bool (decide (a=b)))):=by
 refine callP_of_W fol zz19_cp ?_
 refine goS trivial ?_
 (refine goX trivial ?_; (repeat' (with_reducible apply Br.mk<;>intro _)))
 · exact Fin.p rfl (bF fun e=>by subst e; omega)
 have hlen:a.length=b.length:=by omega
 refine W.loop (fun n st=>∃ k,k≤a.length∧n=a.length - k∧(∀ j (h1:j < a.length) (h2:j < b.length),j < k→a[j]=b[j]) ∧
  st=(E [(0,.d (.list (a.map eE))),(1,.d (.list (b.map eE))),(5,.d (eI k))],HB [],[],noGh))
  ⟨_,_,stle,0,by omega,rfl,fun _ _ _ h=>by omega,rfl⟩ ?_
 rintro n st ⟨k,hk,rfl,hlo,rfl⟩
 refine goR trivial ?_
 refine wG_dec (fun h1=>?_) (fun h1=>?_)
 · have hk':k < a.length:=by omega
   have hk2:k < b.length:=by omega
   (refine goX trivial ?_; (repeat' (with_reducible apply Br.mk<;>intro _)))
   all_goals first
    | (refine Fin.p rfl (bF fun e=>?_)
       subst e
       simp at *
       done)
    | (have he:a[k]=b[k]:=by
        rcases hx:a[k] with ⟨x1,x2,x3,x4⟩
        rcases hy:b[k] with ⟨y1,y2,y3,y4⟩
        simp_all
       refine ⟨_,_,?_,stle,k + 1,?_,rfl,fun j hj hj2 hlt=>?_,rfl⟩
       · omega
       · omega
       · by_cases e:j=k
         · subst e; exact he
         · exact hlo j hj hj2 (by omega))
 · obtain rfl:k=a.length:=by omega
   refine goR trivial ?_
   exact Fin.p rfl (bT (ext_up hlen fun j h1 h2=>hlo j h1 h2 h1))
def smallC (c:Ct):Prop:=c.ents.length≤1000∧c.snaps.length≤1000∧∀ s ∈ c.snaps,s.ents.length≤1000
theorem Same_ok (a b:Ct) (ha:smallC a) (hb:smallC b):CallP Tryz.prog f_zz41 [eC a,eC b] (·=.d (.bool (decide (a=b)))):=by
 refine callP_of_W fol zz41_cp ?_
 obtain ⟨ha1,ha2,ha3⟩:=ha
 obtain ⟨hb1,hb2,hb3⟩:=hb
 refine goS trivial ?_
 (refine goX1 trivial (SameE_ok a.ents b.ents (by omega) (by omega)) ?_; (repeat' (with_reducible apply Br.mk<;>intro _)))
 all_goals try (refine Fin.p rfl (bF fun e=>?_); subst e; simp at *; done)
 have hnx:a.now=b.now:=by omega
 have hen:a.ents=b.ents:=Classical.not_not.1 (by assumption)
 have hl1:a.snaps.length=b.snaps.length:=by omega
 refine W.loop (fun n st=>∃ k,k≤a.snaps.length∧n=a.snaps.length - k∧(∀ j (h1:j < a.snaps.length) (h2:j < b.snaps.length),j < k→a.snaps[j]=b.snaps[j]) ∧
  st=(E [(2,.ptr 0 2 1 0),(3,.ptr 0 3 1 0),(6,.d (eI k))],HB [(2,⟨1,some [eI a.now,.list (a.ents.map eE),.list (a.snaps.map eS)]⟩),(3,⟨1,some [eI b.now,.list (b.ents.map eE),.list (b.snaps.map eS)]⟩)],[],noGh))
  ⟨_,_,stle,0,by omega,rfl,fun _ _ _ h=>by omega,rfl⟩ ?_
 rintro n st ⟨k,hk,rfl,hlo,rfl⟩
 refine goR trivial ?_
 refine wG_dec (fun h1=>?_) (fun h1=>?_)
 · have hk':k < a.snaps.length:=by omega
   have hk2:k < b.snaps.length:=by omega
   have hla:=ha3 _ (List.getElem_mem hk')
   have hlb:=hb3 _ (List.getElem_mem hk2)
   (refine goX1 trivial (SameE_ok a.snaps[k].ents b.snaps[k].ents (by omega) (by omega)) ?_; (repeat' (with_reducible apply Br.mk<;>intro _)))
   all_goals first
    | (refine Fin.p rfl (bF fun e=>?_)
       subst e
       simp at *
       done)
    | (have he:a.snaps[k]=b.snaps[k]:=by
        rcases hx:a.snaps[k] with ⟨x1,x2⟩
        rcases hy:b.snaps[k] with ⟨y1,y2⟩
        simp_all
       refine ⟨_,_,?_,stle,k + 1,?_,rfl,fun j hj hj2 hlt=>?_,rfl⟩
       · omega
       · omega
       · by_cases e:j=k
         · subst e; exact he
         · exact hlo j hj hj2 (by omega))
 · obtain rfl:k=a.snaps.length:=by omega
   have hc:a.snaps=b.snaps:=ext_up hl1 fun j h1 h2=>hlo j h1 h2 h1
   refine goR trivial ?_
   refine Fin.p rfl (bT ?_)
   cases a; cases b
   simp_all
theorem flat_succ {l:List Sn} {k:Nat} (h:k < l.length):((l.take (k + 1)).map (·.ents)).flatten=((l.take k).map (·.ents)).flatten ++ l[k].ents:=by
 rw [List.take_succ_eq_append_getElem h,List.map_append,List.flatten_append]; simp
theorem flat_le {l:List Sn} (h:∀ s ∈ l,s.ents.length≤1000):∀ k,((l.take k).map (·.ents)).flatten.length≤k * 1000
 | 0=>by simp
 | k + 1=>by
   have ih:=flat_le h k
   rw [Nat.add_mul]
   by_cases hk:k < l.length
   · rw [flat_succ hk,List.length_append]
     have:=h _ (List.getElem_mem hk)
     omega
   · have e1:l.take (k + 1)=l:=List.take_of_length_le (by omega)
     have e2:l.take k=l:=List.take_of_length_le (by omega)
     rw [e1]; rw [e2] at ih; exact Nat.le_trans ih (Nat.le_add_right _ _)
theorem all_len {c:Ct} (h:smallC c):(allE c).length≤1001000:=by
 have:=flat_le h.2.2 c.snaps.length
 rw [List.take_length] at this
 have h1:=h.1; have h2:=h.2.1
 unfold allE
 rw [List.length_append]; omega
theorem All_ok (c:Ct) (h:smallC c):CallP Tryz.prog f_zz52 [eC c] (·=.d (.list ((allE c).map eE))):=by
 refine callP_of_W fol zz52_cp ?_
 obtain ⟨h1,h2,h3⟩:=h
 have hm:=mostBytes_eq
 refine goS trivial ?_
 refine goR trivial ?_
 refine W.loop (fun n st=>∃ k,k≤c.snaps.length∧n=c.snaps.length - k ∧
  st=(E [(1,.ptr 0 1 1 0),(3,.own 4 (c.ents.map eE ++ ((c.snaps.take k).map (·.ents)).flatten.map eE)),(4,.d (eI k))],HB [(1,⟨1,some [eI c.now,.list (c.ents.map eE),.list (c.snaps.map eS)]⟩)],[],noGh))
  ⟨_,_,st_le (by (simp -dsimp (disch:=first|omega|(simp only [go_sem]; omega)) only [go_sem,seval,Nat.reduceEqDiff,Nat.reduceLeDiff,List.map_nil,List.flatten_nil,List.append_nil,List.take_zero]<;>((repeat' apply And.intro)<;>first|exact VLe.refl _|(apply vle_int; omega)|(apply vle_int; simp; done)|exact VLe.own _ _|exact VLe.nilown _|exact VLe.norm _))),0,by omega,rfl,rfl⟩ ?_
 rintro n st ⟨k,hk,rfl,rfl⟩
 refine goR trivial ?_
 refine wG_dec (fun g1=>?_) (fun g1=>?_)
 · have hk':k < c.snaps.length:=by omega
   have hf:=flat_le h3 k
   have hs:=flat_succ hk'
   have hl:=h3 _ (List.getElem_mem hk')
   (repeat (first|(with_reducible first|refine W.seq ?_|refine W.block ?_|refine W.scope ?_)|((with_reducible first|refine W.reg ?_|refine W.skip ?_|refine W.exit ?_|refine W.ret ?_|refine W.ifc ?_); simp -dsimp (disch:=first|omega|(simp only [go_sem]; omega)) only [go_sem,seval,Nat.reduceEqDiff,Nat.reduceLeDiff,List.length_map,List.length_append])))
   refine ⟨_,_,?_,st_le (by (simp -dsimp (disch:=first|omega|(simp only [go_sem]; omega)) only [go_sem,seval,Nat.reduceEqDiff,Nat.reduceLeDiff,hs,List.map_append,List.append_assoc]<;>((repeat' apply And.intro)<;>first|exact VLe.refl _|(apply vle_int; omega)|(apply vle_int; simp; done)|exact VLe.own _ _|exact VLe.nilown _|exact VLe.norm _))),k + 1,hk',rfl,rfl⟩
   omega
 · obtain rfl:k=c.snaps.length:=by omega
   refine goR trivial ?_
   refine Fin.p rfl ?_
   rw [List.take_length,allE,List.map_append]
theorem Last_ok (l:List En) (n:Int) (hl:l.length≤10000000):CallP Tryz.prog f_zz40 [.list (l.map eE),eI n] (·=.d (eI (lastOf l n))):=by
 refine callP_of_W fol zz40_cp ?_
 refine goS trivial ?_
 refine goR trivial ?_
 refine W.loop (fun m st=>∃ k,k≤l.length∧m=l.length - k∧lastOf l n=lastOf (l.drop k) n ∧
  st=(E [(0,.d (.list (l.map eE))),(1,.d (eI n)),(5,.d (eI k))],HB [],[],noGh))
  ⟨_,_,stle,0,by omega,rfl,rfl,rfl⟩ ?_
 rintro m st ⟨k,hk,rfl,hf,rfl⟩
 refine goR trivial ?_
 refine wG_dec (fun h1=>?_) (fun h1=>?_)
 · have hk':k < l.length:=by omega
   rw [drop_at hk'] at hf
   (refine goX trivial ?_; (repeat' (with_reducible apply Br.mk<;>intro _)))
   · rename_i he
     exact Fin.p rfl (iE (by rw [hf,lastOf,List.find?_cons,decide_eq_true he]))
   · rename_i he
     refine ⟨_,_,?_,stle,k + 1,hk',rfl,?_,rfl⟩
     · omega
     · rw [hf,lastOf,List.find?_cons,decide_eq_false he]; rfl
 · obtain rfl:k=l.length:=by omega
   rw [drop_end] at hf
   refine goR trivial ?_
   exact Fin.p rfl (iE (by rw [hf]; rfl))
end Go.Proofs.YtgoleoihpgmcbaaGreat
