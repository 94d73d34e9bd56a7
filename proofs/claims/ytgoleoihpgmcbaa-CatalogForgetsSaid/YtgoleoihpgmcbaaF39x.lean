/-
 Layer 39 (catalog),continued: the law CatalogForgets.
 Conditions: of each contract as it says.
-/
import Derived.Test.YtgoleoihpgmcbaaF39v
namespace Go.Proofs.Ytgoleoihpgmcbaa
open Go Go.E2 C39
set_option linter.unusedSimpArgs false
set_option maxHeartbeats 4000000
def fewO (l:List Co) (n:Int):Prop:=(l.length:Int)≤n∧∀ o ∈ l,o.name.length≤70
instance (l:List Co) (n:Int):Decidable (fewO l n):=by unfold fewO; infer_instance
theorem few_ok (l:List Co) (n:Int) (hn:n≤1000):CallP Try.prog f_zz31 [.list (l.map eO),eI n] (·=.d (.bool (decide (fewO l n)))):=by
 refine callP_of_W fol zz31_cp ?_
 refine goS trivial ?_
 (refine goX trivial ?_; (repeat' (with_reducible apply Br.mk<;>intro _)))
 · refine Fin.p rfl (bF fun h=>?_)
   have:=h.1
   omega
 have hl:(l.length:Int)≤n:=by omega
 refine W.loop (fun m st=>∃ k,k≤l.length∧m=l.length - k∧(∀ j (hj:j < l.length),j < k→l[j].name.length≤70) ∧
  st=(E [(0,.d (.list (l.map eO))),(5,.d (eI k))],HB [],[],noGh))
  ⟨_,_,stle,0,by omega,rfl,fun _ _ h=>by omega,rfl⟩ ?_
 rintro m st ⟨k,hk,rfl,hlo,rfl⟩
 refine goR trivial ?_
 refine wG_dec (fun h1=>?_) (fun h1=>?_)
 · have hk':k < l.length:=by omega
   (refine goX trivial ?_; (repeat' (with_reducible apply Br.mk<;>intro _)))
   · refine Fin.p rfl (bF fun h=>?_)
     have:=h.2 _ (List.getElem_mem hk')
     omega
   · refine ⟨_,_,?_,stle,k + 1,hk',rfl,fun j hj hlt=>?_,rfl⟩
     · omega
     · by_cases e:j=k
       · subst e; omega
       · exact hlo j hj (by omega)
 · obtain rfl:k=l.length:=by omega
   refine goR trivial ?_
   refine Fin.p rfl (bT ⟨hl,fun x hx=>?_⟩)
   obtain ⟨j,hj,rfl⟩:=List.getElem_of_mem hx
   exact hlo j hj hj
theorem emptyLe:DsLe [eI 0,.nilS,.nilS] (cC ⟨0,[],[]⟩):=.cons (.inl rfl) (.cons (.inr rfl) (.cons (.inr rfl) .nil))
theorem law2_ok (l:List Co):CallP Try.prog f_zz16 [.list (l.map eO)] (·=.d (.bool true)):=by
 refine callP_of_W fol zz16_cp ?_
 refine goS trivial ?_
 by_cases hf:fewO l 40
 case neg =>
  (refine goX2 hf (sanity_ok) (few_ok l 40 (by omega)) ?_; (repeat' (with_reducible apply Br.mk<;>intro _)))
  all_goals exact Fin.p rfl rfl
 (refine goX2 hf (sanity_ok) (few_ok l 40 (by omega)) ?_; (repeat' (with_reducible apply Br.mk<;>intro _)))
 have hl:=hf.1
 refine W.loop (fun m st=>∃ (k:Nat) (d:Ct) (b6 b10:Blk),k≤l.length∧m=l.length - k∧Valid d ∧
  st=(E [(0,.d (.list (l.map eO))),(4,.ptr 0 4 1 0),(5,.d (eI k))],HB [(4,⟨1,some (cC d)⟩),(6,b6),(10,b10)],[],noGh))
  ⟨_,_,st_leH (by (simp -dsimp (disch:=first|omega|(simp only [go_sem]; omega)) only [go_sem,seval,Nat.reduceEqDiff,Nat.reduceLeDiff]<;>((repeat' apply And.intro)<;>first|exact VLe.refl _|(apply vle_int; omega)|(apply vle_int; simp; done)|exact VLe.own _ _|exact VLe.nilown _|exact VLe.norm _))) ((HBle.box 4 1 emptyLe (HBle.refl [])).pad [6,10] rfl),0,⟨0,[],[]⟩,_,_,by omega,rfl,empty_valid,rfl⟩ ?_
 rintro m st ⟨k,d,b6,b10,hk,rfl,hd,rfl⟩
 refine goR trivial ?_
 refine wG_dec (fun h1=>?_) (fun h1=>?_)
 case _ =>
  have hk':k < l.length:=by omega
  have hds:=Valid.small hd
  have hdo:=Do_ok d l[k] hds
  obtain ⟨n,e,hn⟩:∃ n e,doC d l[k]=(n,e):=⟨_,_,rfl⟩
  have hvn:Valid n:=by have:=do_valid hd l[k]; rwa [hn] at this
  have hcn:=(chk_iff n).2 hvn
  have hns:=Valid.small hvn
  have hsame:e ≠ 0→n=d:=fun h=>by have:=@do_err d l[k]; rw [hn] at this; exact this h
  have htick:l[k].kind=1→e=0→∀ x ∈ allE n,¬ x.last < l[k].tick:=fun h=>by have:=@do_tick d l[k] h; rwa [hn] at this
  have hforg:l[k].kind=4→e=0→∀ x ∈ allE n,¬ x.obj=l[k].obj:=fun h=>by have:=@do_forget d l[k] h; rwa [hn] at this
  have hput:l[k].kind=2→e=0→∃ v,findC n l[k].name 0=(⟨l[k].name,v,l[k].obj,l[k].last⟩,0)∧∀ y ∈ allE d,¬ (y.name=l[k].name∧v≤y.ver):=fun h h2=>by have:=@do_put d l[k] h; rw [hn] at this; exact ⟨_,this h2⟩
  rw [hn] at hdo
  have hall:=all_len hns
  have hald:=all_len hds
  have hfind:=Find_ok n l[k].name 0 hns
  clear hn
  by_cases he:e=0
  case neg =>
   obtain rfl:=hsame he
   (refine goX4 (nn hcn he) (hdo) (Check_ok n hns) (same_ok n hns) (All_ok n hns) ?_; (repeat' (with_reducible apply Br.mk<;>intro _)))
   refine W.loop (fun m st=>m=0 ∧
    st=(E [(0,.d (.list (l.map eO))),(4,.ptr 0 4 1 0),(5,.d (eI k)),(6,.ptr 0 6 (b6.g + 1) 0),(7,.d (eI e)),(8,.d (.list ((allE n).map eE))),(9,.d (eI 0))],HB [(4,⟨1,some (cC n)⟩),(6,⟨b6.g + 1,some (cC n)⟩),(10,b10)],[],noGh))
    ⟨_,_,stleB rfl,rfl,rfl⟩ ?_
   rintro m st ⟨rfl,rfl⟩
   (refine goX he ?_; (repeat' (with_reducible apply Br.mk<;>intro _)))
   all_goals
    refine ⟨_,_,?_,stleB rfl,k + 1,n,_,_,hk',rfl,hvn,rfl⟩
    omega
  case pos =>
   subst he
   (refine goX3 hcn (hdo) (Check_ok n hns) (All_ok n hns) ?_; (repeat' (with_reducible apply Br.mk<;>intro _)))
   refine W.loop (fun m st=>∃ i,i≤(allE n).length∧m=(allE n).length - i ∧
    st=(E [(0,.d (.list (l.map eO))),(4,.ptr 0 4 1 0),(5,.d (eI k)),(6,.ptr 0 6 (b6.g + 1) 0),(7,.d (eI 0)),(8,.d (.list ((allE n).map eE))),(9,.d (eI i))],HB [(4,⟨1,some (cC d)⟩),(6,⟨b6.g + 1,some (cC n)⟩),(10,b10)],[],noGh))
    ⟨_,_,stleB rfl,0,by omega,rfl,rfl⟩ ?_
   rintro m st ⟨i,hi,rfl,rfl⟩
   by_cases h2:(i:Int) < ((allE n).length:Int)
   case pos =>
    have h2':i < (allE n).length:=by omega
    have hx:=List.getElem_mem h2'
    (refine goX h2 ?_; (repeat' (with_reducible apply Br.mk<;>intro _)))
    all_goals first
     | exact absurd ‹_› (htick ‹_› rfl _ hx)
     | exact absurd ‹_› (hforg ‹_› rfl _ hx)
     | (refine ⟨_,_,?_,stleB rfl,i + 1,h2',rfl,rfl⟩; omega)
     | trace_state
   case neg =>
    by_cases hp:l[k].kind=2
    case neg =>
     (refine goX (nn h2 hp) ?_; (repeat' (with_reducible apply Br.mk<;>intro _)))
     refine ⟨_,_,?_,stleB rfl,k + 1,n,_,_,hk',rfl,hvn,rfl⟩
     omega
    case pos =>
     obtain ⟨v,hv,hlt⟩:=hput hp rfl
     rw [hv] at hfind
     (refine goX2 (nn h2 hp) (hfind) (All_ok d hds) ?_; (repeat' (with_reducible apply Br.mk<;>intro _)))
     refine W.loop (fun m st=>∃ i,i≤(allE d).length∧m=(allE d).length - i ∧
      st=(E [(0,.d (.list (l.map eO))),(4,.ptr 0 4 1 0),(5,.d (eI k)),(6,.ptr 0 6 (b6.g + 1) 0),(8,.d (.list ((allE d).map eE))),(10,.ptr 0 10 (b10.g + 1) 0),(12,.d (eI i))],HB [(4,⟨1,some (cC d)⟩),(6,⟨b6.g + 1,some (cC n)⟩),(10,⟨b10.g + 1,some [.str l[k].name,eI v,eI l[k].obj,eI l[k].last]⟩)],[],noGh))
      ⟨_,_,stleB rfl,0,by omega,rfl,rfl⟩ ?_
     rintro m st ⟨i,hi,rfl,rfl⟩
     by_cases h3:(i:Int) < ((allE d).length:Int)
     case pos =>
      have h3':i < (allE d).length:=by omega
      have hx:=hlt _ (List.getElem_mem h3')
      (refine goX h3 ?_; (repeat' (with_reducible apply Br.mk<;>intro _)))
      all_goals first
       | exact absurd ⟨‹_›,‹_›⟩ hx
       | (refine ⟨_,_,?_,stleB rfl,i + 1,h3',rfl,rfl⟩; omega)
       | trace_state
     case neg =>
      (refine goX h3 ?_; (repeat' (with_reducible apply Br.mk<;>intro _)))
      refine ⟨_,_,?_,stleB rfl,k + 1,n,_,_,hk',rfl,hvn,rfl⟩
      omega
 case _ =>
  refine goR trivial ?_
  exact Fin.p rfl rfl
end Go.Proofs.Ytgoleoihpgmcbaa
