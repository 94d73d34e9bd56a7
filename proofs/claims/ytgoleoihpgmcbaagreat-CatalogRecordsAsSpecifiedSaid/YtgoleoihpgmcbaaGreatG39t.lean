/-
 Layer 39 (catalog),continued: Import.
 Conditions: of each contract as it says.
-/
import Derived.Test.YtgoleoihpgmcbaaGreatG39r
namespace Go.Proofs.YtgoleoihpgmcbaaGreat
open Go Go.E2 C39
set_option linter.unusedSimpArgs false
set_option maxHeartbeats 1000000
theorem Valid.small {c:Ct} (h:Valid c):smallC c:=⟨by have:=h.ents.1; omega,by have:=h.few; omega,fun s hs=>by have:=(h.snaps s hs).1.1; omega⟩
theorem Import_ok (c:Ct) (ls:List Ln) (pads:List Str) (hs:smallC c) (hl:ls.length≤1000) (_:pads.length≤1000) (hcl:∀ l ∈ ls,l.cover.length≤100000) :
 CallP Tryz.prog f_zz63 [eC c,.agg [.list (ls.map eN)],.list (pads.map .str)] (·=.tup [eC (importC c ls pads).1,eI (importC c ls pads).2.1,eI (importC c ls pads).2.2]):=by
 refine callP_of_W fol zz63_cp ?_
 refine goS trivial ?_
 by_cases h0:chk c=0
 case neg =>
  (refine goX1 h0 (Check_ok c hs) ?_; (repeat' (with_reducible apply Br.mk<;>intro _)))
  exact Fin.p rfl (by rw [importC,if_pos h0]; rfl)
 have hv:=(chk_iff c).1 h0
 by_cases h1:200 < ls.length
 case pos =>
  (refine goX1 h0 (Check_ok c hs) ?_; (repeat' (with_reducible apply Br.mk<;>intro _)))
  all_goals first|(exfalso; omega)|exact Fin.p rfl (by rw [importC,if_neg (fun h=>h h0),if_pos h1]; rfl)
 by_cases h2:pads.length=ls.length
 case neg =>
  (refine goX1 h0 (Check_ok c hs) ?_; (repeat' (with_reducible apply Br.mk<;>intro _)))
  all_goals first|(exfalso; omega)|exact Fin.p rfl (by rw [importC,if_neg (fun h=>h h0),if_neg h1,if_pos h2]; rfl)
 rw [importC,if_neg (fun h=>h h0),if_neg h1,if_neg (fun h=>h h2)]
 have e1:((200:Int) < ↑ls.length)=False:=eq_false (by omega)
 have e2:(↑pads.length:Int)=↑ls.length:=by omega
 (refine goX1 (nn h0 (nn e1 e2)) (Check_ok c hs) ?_; (repeat' (with_reducible apply Br.mk<;>intro _)))
 refine W.loop (fun m st=>∃ (k:Nat) (d:Ct) (n:Int) (b12 b13:Blk),k≤ls.length∧m=ls.length - k∧Valid d∧(0≤n∧n≤k)∧takeAll (c,0) ls pads=takeAll (d,n) (ls.drop k) (pads.drop k) ∧
  st=(E [(2,.d (.list (pads.map .str))),(3,.ptr 0 3 1 0),(6,.ptr 0 6 1 0),(10,.d (eI n)),(36,.d (.list (ls.map eN))),(37,.d (eI ls.length)),(38,.d (eI k))],HB [(3,⟨1,some (cC d)⟩),(4,⟨1,some [.list (ls.map eN)]⟩),(6,⟨1,some [eI 0,.nilS,.nilS]⟩),(12,b12),(13,b13)],[],noGh))
  ⟨_,_,stleB (HB_pad [(3,_),(4,_),(6,_)] [12,13] rfl).symm,0,c,0,_,_,by omega,rfl,hv,by omega,rfl,rfl⟩ ?_
 rintro m st ⟨k,d,n,b12,b13,hk,rfl,hvd,hn,hta,rfl⟩
 have hsd:=Valid.small hvd
 have hd1:=hsd.1
 have hl0:∀ x ∈ allE d,0≤x.last:=fun x hx=>(hvd.right hx).2.2.2.2.2.2.1
 refine goR trivial ?_
 refine wG_dec (fun g1=>?_) (fun g1=>?_)
 · have hk':k < ls.length:=by omega
   have hk2:k < pads.length:=by omega
   have hcv:=hcl _ (List.getElem_mem hk')
   rw [drop_at hk',drop_at hk2,takeAll] at hta
   by_cases hpl:pads[k].length=ls[k].cover.length
   case neg =>
    rw [takeIn,if_pos hpl] at hta
    have e3:(¬ (↑pads[k].length:Int)=↑ls[k].cover.length)=True:=eq_true (by omega)
    (refine goX e3 ?_; (repeat' (with_reducible apply Br.mk<;>intro _)))
    refine ⟨_,_,?_,stleB rfl,k + 1,d,n,_,_,hk',rfl,hvd,by omega,hta,rfl⟩
    omega
   rw [takeIn,if_neg (fun h=>h hpl)] at hta
   have e3:(↑pads[k].length:Int)=↑ls[k].cover.length:=by omega
   have hsum:=Sum_ok ls[k].cover pads[k] hpl.symm (by omega)
   have hxd:entOf ls[k] pads[k]=⟨sumS ls[k].cover pads[k],ls[k].ver,ls[k].obj,ls[k].last⟩:=rfl
   generalize hx:sumS ls[k].cover pads[k]=nm at hsum hxd
   generalize hy:entOf ls[k] pads[k]=x at hta hxd
   subst hxd
   have hfit:fits d ⟨nm,ls[k].ver,ls[k].obj,ls[k].last⟩↔rightE ⟨nm,ls[k].ver,ls[k].obj,ls[k].last⟩∧¬ ls[k].last < d.now∧¬ (∃ y ∈ d.ents,smE ⟨nm,ls[k].ver,ls[k].obj,ls[k].last⟩ y=true)∧¬ (0≤lastOf (allE d) ls[k].obj∧lastOf (allE d) ls[k].obj ≠ ls[k].last)∧¬ (↑d.ents.length:Int)=200:=by
    unfold fits
    refine and_congr_right fun _=>and_congr (by show d.now≤ls[k].last↔_; omega) (and_congr ?_ (and_congr_right fun _=>by omega))
    exact ⟨fun h ⟨y,hy,e⟩=>h y hy (of_decide_eq_true e),fun h y hy e=>h ⟨y,hy,decide_eq_true e⟩⟩
   have hobj:=object_ok d ls[k].obj hsd hl0
   have hsea:=searchE_ok d.ents ⟨nm,ls[k].ver,ls[k].obj,ls[k].last⟩ (by omega) hvd.ents.2.2
   have hrig:=right_ok ⟨nm,ls[k].ver,ls[k].obj,ls[k].last⟩
   (refine goX4 e3 (hsum) (hobj) (hsea) (hrig) ?_; (repeat' (with_reducible apply Br.mk<;>intro _)))
   all_goals first
    | (have hf:¬ fits d ⟨nm,ls[k].ver,ls[k].obj,ls[k].last⟩:=by
        rw [hfit]
        rintro ⟨q1,q2,q3,q4,q5⟩
        first|omega|exact q3 (by assumption)|exact q2 (by assumption)|exact absurd q1 (by assumption)|exact q3 (Classical.not_not.1 (by assumption))
       rw [if_neg hf] at hta
       refine ⟨_,_,?_,stleB rfl,k + 1,d,n,_,_,hk',rfl,hvd,by omega,hta,rfl⟩
       omega)
    | (have hf:fits d ⟨nm,ls[k].ver,ls[k].obj,ls[k].last⟩:=hfit.2 ⟨Classical.not_not.1 (by assumption),by assumption,by assumption,by omega,by assumption⟩
       rw [if_pos hf] at hta
       have hadd:=added_ok d ⟨nm,ls[k].ver,ls[k].obj,ls[k].last⟩ hsd hvd.ents.2.2 hf.2.2.1
       have hvn:=fits_valid hvd hf
       (refine goC (hadd) ?_; refine goS trivial ?_)
       refine goR trivial ?_
       refine ⟨_,_,?_,stleB rfl,k + 1,_,n + 1,_,_,hk',rfl,hvn,by omega,hta,rfl⟩
       omega)
 · obtain rfl:k=ls.length:=by omega
   have hz:takeAll (d,n) [] (pads.drop ls.length)=(d,n):=by cases (pads.drop ls.length)<;>rfl
   rw [drop_end,hz] at hta
   rw [hta]
   refine goR trivial ?_
   exact Fin.p rfl rfl
end Go.Proofs.YtgoleoihpgmcbaaGreat
