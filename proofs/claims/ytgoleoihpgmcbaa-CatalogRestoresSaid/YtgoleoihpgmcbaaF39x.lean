/-
 Layer 39 (catalog),continued: the law CatalogForgets.
 Conditions: of each contract as it says.
-/
import Derived.Test.YtgoleoihpgmcbaaF39v
namespace Go.Proofs.Ytgoleoihpgmcbaa
open Go Go.E2 C39
set_option linter.unusedSimpArgs false
set_option maxHeartbeats 4000000
def fewO (l:List Co) (n:Int):Prop:=(l.length:Int)≤n∧∀ o ∈ l,o.name.length≤70
instance (l:List Co) (n:Int):Decidable (fewO l n):=by unfold fewO; infer_instance
theorem few_ok (l:List Co) (n:Int) (hn:n≤1000):CallP Try.prog f_zz30 [.list (l.map eO),eI n] (·=.d (.bool (decide (fewO l n)))):=by
 refine callP_of_W fol zz30_cp ?_
 refine goS trivial ?_
 (refine goX trivial ?_; (repeat' (with_reducible apply Br.mk<;>intro _)))
 · refine Fin.p rfl (bF fun h=>?_)
   have:=h.1
   omega
 have hl:(l.length:Int)≤n:=by omega
 refine W.loop (fun m st=>∃ k,k≤l.length∧m=l.length - k∧(∀ j (hj:j < l.length),j < k→l[j].name.length≤70) ∧
  st=(E [(0,.d (.list (l.map eO))),(5,.d (eI k))],HB [],[],noGh))
  ⟨_,_,stle,0,by omega,rfl,fun _ _ h=>by omega,rfl⟩ ?_
 rintro m st ⟨k,hk,rfl,hlo,rfl⟩
 refine goR trivial ?_
 refine wG_dec (fun h1=>?_) (fun h1=>?_)
 · have hk':k < l.length:=by omega
   (refine goX trivial ?_; (repeat' (with_reducible apply Br.mk<;>intro _)))
   · refine Fin.p rfl (bF fun h=>?_)
     have:=h.2 _ (List.getElem_mem hk')
     omega
   · refine ⟨_,_,?_,stle,k + 1,hk',rfl,fun j hj hlt=>?_,rfl⟩
     · omega
     · by_cases e:j=k
       · subst e; omega
       · exact hlo j hj (by omega)
 · obtain rfl:k=l.length:=by omega
   refine goR trivial ?_
   refine Fin.p rfl (bT ⟨hl,fun x hx=>?_⟩)
   obtain ⟨j,hj,rfl⟩:=List.getElem_of_mem hx
   exact hlo j hj hj
theorem emptyLe:DsLe [eI 0,.nilS,.nilS] (cC ⟨0,[],[]⟩):=.cons (.inl rfl) (.cons (.inr rfl) (.cons (.inr rfl) .nil))
end Go.Proofs.Ytgoleoihpgmcbaa
