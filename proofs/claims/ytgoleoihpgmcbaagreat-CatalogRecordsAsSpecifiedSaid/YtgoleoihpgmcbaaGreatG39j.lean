/-
 Layer 39 (catalog),continued: finding by halves.
 Conditions: of each contract as it says.
-/
import Derived.Test.YtgoleoihpgmcbaaGreatG39i
import Derived.Test.YtgoleoihpgmcbaaGreatS39d
namespace Go.Proofs.YtgoleoihpgmcbaaGreat
open Go Go.E2 C39
set_option linter.unusedSimpArgs false
set_option maxHeartbeats 1000000
theorem plc_eq {α:Type} {p:α→Bool}:∀ {l:List α} {i:Nat},i≤l.length→(∀ m (h:m < l.length),m < i→p l[m]=true)→(∀ h:i < l.length,¬ p l[i]=true)→plc p l=i
 | [],i,h,_,_=>by simp at h; simp [plc,h]
 | y::r,0,_,_,h2=>by
   have h0:¬ p y=true:=h2 (by simp)
   rw [plc,if_neg h0]
 | y::r,i + 1,h,h1,h2=>by
   have h0:p y=true:=h1 0 (by simp) (by omega)
   rw [plc,if_pos h0]
   rw [plc_eq (i:=i) (by simpa using h) (fun m hm hlt=>h1 (m + 1) (by simpa using hm) (by omega)) (fun hi=>h2 (by simpa using hi))]
theorem known_plc {α:Type} {p q:α→Bool} {l:List α} (hs:∀ i j (hi:i < l.length) (hj:j < l.length),i < j→q l[j]=true→p l[i]=true) (hq:∀ y,q y=true→¬ p y=true):(∃ y ∈ l,q y=true)↔∃ h:plc p l < l.length,q l[plc p l]=true:=by
 constructor
 · rintro ⟨y,hy,h⟩
   obtain ⟨m,hm,rfl⟩:=List.getElem_of_mem hy
   have e:plc p l=m:=plc_eq (by omega) (fun j hj hlt=>hs j m hj hm hlt h) (fun _=>hq _ h)
   simp only [e]
   exact ⟨hm,h⟩
 · rintro ⟨h,hq⟩
   exact ⟨_,List.getElem_mem h,hq⟩
theorem pair_at {α:Type} {R:α→α→Prop} {l:List α} (h:l.Pairwise R) {i j:Nat} (hi:i < l.length) (hj:j < l.length) (hij:i < j):R l[i] l[j]:=List.pairwise_iff_getElem.1 h i j hi hj hij
theorem sortE {l:List En} (ho:l.Pairwise before) (x:En):∀ i j (hi:i < l.length) (hj:j < l.length),i < j→(bfE x l[j]=true∨smE x l[j]=true)→bfE x l[i]=true:=by
 intro i j hi hj hij h
 have hb:=pair_at ho hi hj hij
 simp only [bfE,smE,decide_eq_true_eq] at h ⊢
 rcases h with h|h
 · exact before_trans hb h
 · rcases hb with hb|⟨hb,hb2⟩
   · left; rw [← h.1]; exact hb
   · right; exact ⟨hb.trans h.1,by rw [← h.2]; exact hb2⟩
theorem sortS {l:List Sn} (ho:l.Pairwise fun a b=>a.snap < b.snap) (n:Int):∀ i j (hi:i < l.length) (hj:j < l.length),i < j→(bfS n l[j]=true∨smS n l[j]=true)→bfS n l[i]=true:=by
 intro i j hi hj hij h
 have hb:=pair_at ho hi hj hij
 simp only [bfS,smS,decide_eq_true_eq] at h ⊢
 omega
theorem cmpI_neg {a b:Int}:cmpI a b < 0↔a < b:=by unfold cmpI; split<;>(try split)<;>omega
theorem cmpI_zero {a b:Int}:cmpI a b=0↔a=b:=by unfold cmpI; split<;>(try split)<;>omega
theorem snapped1_ok (s:Sn) (n:Int):CallP Tryz.prog f_zz37 [eS s,eI n] (·=.d (eI (cmpI s.snap n))):=by
 refine callP_of_W fol zz37_cp ?_
 refine goS trivial ?_
 (refine goX1 trivial (cmpI_ok s.snap n) ?_; (repeat' (with_reducible apply Br.mk<;>intro _)))
 exact Fin.p rfl rfl
theorem searchE_ok (l:List En) (x:En) (hl:l.length≤100000) (ho:l.Pairwise before) :
 CallP Tryz.prog f_zz0 [.list (l.map eE),eE x,.fn f_zz76] (·=.tup [eI (plc (bfE x) l),.bool (decide (∃ y ∈ l,smE x y=true))]):=by
 refine callP_of_W fol zz0_cp ?_
 have hsrt:=sortE ho x
 refine goS trivial ?_
 refine goR trivial ?_
 refine W.loop (fun n st=>∃ (i j:Nat) (v11:AV),i≤j∧j≤l.length∧n=j - i∧(∀ (m:Nat) (h:m < l.length),m < i→bfE x l[m]=true)∧(∀ (m:Nat) (h:m < l.length),j≤m→¬ bfE x l[m]=true) ∧
  st=(E [(0,.d (.list (l.map eE))),(2,.d (.fn f_zz76)),(4,.ptr 0 4 1 0),(8,.d (eI l.length)),(9,.d (eI i)),(10,.d (eI j)),(11,v11)],HB [(4,⟨1,some [.str x.name,eI x.ver,eI x.obj,eI x.last]⟩)],[],noGh))
  ⟨_,_,stle,0,l.length,_,by omega,by omega,rfl,fun m h h'=>by omega,fun m h h'=>by omega,rfl⟩ ?_
 rintro n st ⟨i,j,v11,hij,hj,rfl,hp1,hp2,rfl⟩
 refine goR trivial ?_
 refine wG_dec (fun h1=>?_) (fun h1=>?_)
 · have hm:i≤(i + j) / 2∧(i + j) / 2 < j:=by omega
   have hml:(i + j) / 2 < l.length:=by omega
   have e1:((((i:Int) + j) / 2).toNat)=(i + j) / 2:=by omega
   have e2:((i:Int) + j) / 2=(((i + j) / 2:Nat):Int):=by omega
   refine goR trivial ?_
   try simp only [e1,e2,Int.toNat_natCast]
   (refine goC (order_ok l[(i + j) / 2] x) ?_; refine goS trivial ?_)
   refine goR trivial ?_
   refine wG_dec (fun h=>?_) (fun h=>?_)
   · rw [cmpE_neg] at h
     refine goR trivial ?_
     refine ⟨_,_,?_,stle,(i + j) / 2 + 1,j,_,by omega,by omega,rfl,fun m hm' hlt=>?_,hp2,rfl⟩
     · omega
     · by_cases e:m=(i + j) / 2
       · subst e; exact decide_eq_true h
       · exact hsrt m _ hm' hml (by omega) (.inl (decide_eq_true h))
   · rw [cmpE_neg] at h
     refine goR trivial ?_
     refine ⟨_,_,?_,stle,i,(i + j) / 2,_,by omega,by omega,rfl,hp1,fun m hm' hlt=>?_,rfl⟩
     · omega
     · by_cases e:m=(i + j) / 2
       · subst e; exact fun hb=>h (of_decide_eq_true hb)
       · exact fun hb=>h (of_decide_eq_true (hsrt _ m hml hm' (by omega) (.inl hb)))
 · obtain rfl:i=j:=by omega
   have hpos:plc (bfE x) l=i:=plc_eq hj hp1 (fun h=>hp2 i h (Nat.le_refl _))
   have hkn:=known_plc (p:=bfE x) (q:=smE x) (l:=l) (fun a b ha hb hab h=>hsrt a b ha hb hab (.inr h)) (fun y hy hb=>(of_decide_eq_true hy:sameK y x).not_before (of_decide_eq_true hb))
   simp only [hpos] at hkn
   rw [hpos]
   by_cases hi':i < l.length
   · have hk2:(∃ y ∈ l,smE x y=true)↔cmpE l[i] x=0:=by
      rw [hkn]
      exact ⟨fun ⟨_,h⟩=>cmpE_zero.2 (of_decide_eq_true h),fun h=>⟨hi',decide_eq_true (cmpE_zero.1 h)⟩⟩
     (refine goX1 trivial (order_ok l[i] x) ?_; (repeat' (with_reducible apply Br.mk<;>intro _)))
     all_goals first|(exfalso; omega)|skip
     all_goals
      refine Fin.p rfl ?_
      congr 4
      exact decide_eq_decide.2 hk2.symm
   · have hk2:¬ ∃ y ∈ l,smE x y=true:=fun h=>hi' (hkn.1 h).1
     (refine goX trivial ?_; (repeat' (with_reducible apply Br.mk<;>intro _)))
     all_goals first|(exfalso; omega)|skip
     all_goals
      refine Fin.p rfl ?_
      rw [decide_eq_false hk2]
theorem searchS_ok (l:List Sn) (x:Int) (hl:l.length≤100000) (ho:l.Pairwise (fun a b=>a.snap < b.snap)) :
 CallP Tryz.prog f_zz1 [.list (l.map eS),eI x,.fn f_zz37] (·=.tup [eI (plc (bfS x) l),.bool (decide (∃ y ∈ l,smS x y=true))]):=by
 refine callP_of_W fol zz1_cp ?_
 have hsrt:=sortS ho x
 refine goS trivial ?_
 refine goR trivial ?_
 refine W.loop (fun n st=>∃ (i j:Nat) (v11:AV),i≤j∧j≤l.length∧n=j - i∧(∀ (m:Nat) (h:m < l.length),m < i→bfS x l[m]=true)∧(∀ (m:Nat) (h:m < l.length),j≤m→¬ bfS x l[m]=true) ∧
  st=(E [(0,.d (.list (l.map eS))),(2,.d (.fn f_zz37)),(1,.d (eI x)),(8,.d (eI l.length)),(9,.d (eI i)),(10,.d (eI j)),(11,v11)],HB [],[],noGh))
  ⟨_,_,stle,0,l.length,_,by omega,by omega,rfl,fun m h h'=>by omega,fun m h h'=>by omega,rfl⟩ ?_
 rintro n st ⟨i,j,v11,hij,hj,rfl,hp1,hp2,rfl⟩
 refine goR trivial ?_
 refine wG_dec (fun h1=>?_) (fun h1=>?_)
 · have hm:i≤(i + j) / 2∧(i + j) / 2 < j:=by omega
   have hml:(i + j) / 2 < l.length:=by omega
   have e1:((((i:Int) + j) / 2).toNat)=(i + j) / 2:=by omega
   have e2:((i:Int) + j) / 2=(((i + j) / 2:Nat):Int):=by omega
   refine goR trivial ?_
   try simp only [e1,e2,Int.toNat_natCast]
   (refine goC (snapped1_ok l[(i + j) / 2] x) ?_; refine goS trivial ?_)
   refine goR trivial ?_
   refine wG_dec (fun h=>?_) (fun h=>?_)
   · rw [cmpI_neg] at h
     refine goR trivial ?_
     refine ⟨_,_,?_,stle,(i + j) / 2 + 1,j,_,by omega,by omega,rfl,fun m hm' hlt=>?_,hp2,rfl⟩
     · omega
     · by_cases e:m=(i + j) / 2
       · subst e; exact decide_eq_true h
       · exact hsrt m _ hm' hml (by omega) (.inl (decide_eq_true h))
   · rw [cmpI_neg] at h
     refine goR trivial ?_
     refine ⟨_,_,?_,stle,i,(i + j) / 2,_,by omega,by omega,rfl,hp1,fun m hm' hlt=>?_,rfl⟩
     · omega
     · by_cases e:m=(i + j) / 2
       · subst e; exact fun hb=>h (of_decide_eq_true hb)
       · exact fun hb=>h (of_decide_eq_true (hsrt _ m hml hm' (by omega) (.inl hb)))
 · obtain rfl:i=j:=by omega
   have hpos:plc (bfS x) l=i:=plc_eq hj hp1 (fun h=>hp2 i h (Nat.le_refl _))
   have hkn:=known_plc (p:=bfS x) (q:=smS x) (l:=l) (fun a b ha hb hab h=>hsrt a b ha hb hab (.inr h)) (fun y hy hb=>by have h1:=of_decide_eq_true hy; have h2:=of_decide_eq_true hb; omega)
   simp only [hpos] at hkn
   rw [hpos]
   by_cases hi':i < l.length
   · have hk2:(∃ y ∈ l,smS x y=true)↔cmpI l[i].snap x=0:=by
      rw [hkn]
      exact ⟨fun ⟨_,h⟩=>cmpI_zero.2 (of_decide_eq_true h),fun h=>⟨hi',decide_eq_true (cmpI_zero.1 h)⟩⟩
     (refine goX1 trivial (snapped1_ok l[i] x) ?_; (repeat' (with_reducible apply Br.mk<;>intro _)))
     all_goals first|(exfalso; omega)|skip
     all_goals
      refine Fin.p rfl ?_
      congr 4
      exact decide_eq_decide.2 hk2.symm
   · have hk2:¬ ∃ y ∈ l,smS x y=true:=fun h=>hi' (hkn.1 h).1
     (refine goX trivial ?_; (repeat' (with_reducible apply Br.mk<;>intro _)))
     all_goals first|(exfalso; omega)|skip
     all_goals
      refine Fin.p rfl ?_
      rw [decide_eq_false hk2]
end Go.Proofs.YtgoleoihpgmcbaaGreat
