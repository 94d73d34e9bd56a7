/-
 Layer 44: the value at 0,of the reference.
 Conditions: of each contract as it says.
-/
import Derived.Test.YtclmdhceceacoaaGreatDoorH14
namespace Go.Proofs.YtclmdhceceacoaaGreatDoor
open Go Go.E2 CW CH C44
set_option linter.unusedSimpArgs false
set_option maxHeartbeats 4000000
theorem nodup_at {l:List (Nat × Nat)} (hn:(l.map (·.1)).Nodup) {i j:Nat} (hi:i < l.length) (hj:j < l.length) (h:l[i].1=l[j].1):i=j:=by
 have h1:(l.map (·.1))[i]'(by simpa using hi)=(l.map (·.1))[j]'(by simpa using hj):=by simpa using h
 exact (List.getElem_inj hn).1 h1
theorem zero_ok (l:List (Nat × Nat)) (hl:l.length≤1000) (hg:gQ l) (hn:(l.map (·.1)).Nodup):CallP Tryz.prog f_zz32 [.list (l.map eQ)] (·=.d (eN (zer l))):=by
 refine callP_of_W fol zz32_cp ?_
 have hP:P=2147483647:=rfl
 refine goS trivial ?_
 (refine goX trivial ?_; (repeat' (with_reducible apply Br.mk<;>intro _)))
 refine W.loop (fun q st=>∃ (k sum:Nat),k≤l.length∧q=l.length - k∧sum < P∧toF sum=sm (fz l) (l.take k) ∧
  st=(E [(4,.d (eN k)),(3,.d (eN sum)),(0,.d (.list (l.map eQ)))],HB [],[],noGh))
  ⟨_,_,stle,0,0,by omega,rfl,by decide,rfl,rfl⟩ ?_
 rintro q st ⟨k,sum,hk,rfl,hs1,hs2,rfl⟩
 by_cases g1:(k:Int) < (l.length:Int)
 case pos =>
  have hk':k < l.length:=by omega
  obtain ⟨p1,p2,p3⟩:=hg _ (List.getElem_mem hk')
  have htk:l.take (k + 1)=l.take k ++ [l[k]]:=List.take_succ_eq_append_getElem hk'
  have hfz:fz l l[k]=toF l[k].2 * pr (toF l[k].1) (l.map fun q=>toF q.1):=rfl
  have hat:∀ j (hj:j < l.length),l[j].1=l[k].1→j=k:=fun j hj h=>nodup_at hn hj hk' h
  obtain ⟨pa,hpa⟩:∃ pa,l[k].1=pa:=⟨_,rfl⟩
  obtain ⟨pv,hpv⟩:∃ pv,l[k].2=pv:=⟨_,rfl⟩
  rw [hpa] at p1 p2 hfz hat
  rw [hpv] at p3 hfz
  (refine goX (nn g1 (nn hk' hpv)) ?_; (repeat' (with_reducible apply Br.mk<;>intro _)))
  refine W.loop (fun q st=>∃ (m x:Nat),m≤l.length∧q=l.length - m∧x < P ∧
   toF x=toF pv * pr (toF pa) ((l.take m).map fun q=>toF q.1) ∧
   st=(E [(6,.d (eN m)),(5,.d (eN x)),(4,.d (eN k)),(3,.d (eN sum)),(0,.d (.list (l.map eQ)))],HB [],[],noGh))
   ⟨_,_,stle,0,pv,by omega,rfl,p3,by rw [List.take_zero,List.map_nil,pr]; grobner,rfl⟩ ?_
  rintro q st ⟨m,x,hm,rfl,hx,hxe,rfl⟩
  rw [hP] at hx
  by_cases g2:(m:Int) < (l.length:Int)
  case pos =>
   have hm':m < l.length:=by omega
   obtain ⟨q1,q2,q3⟩:=hg _ (List.getElem_mem hm')
   have htm:l.take (m + 1)=l.take m ++ [l[m]]:=List.take_succ_eq_append_getElem hm'
   have hxS:toF pv * pr (toF pa) ((l.take (m + 1)).map fun q=>toF q.1)=toF x * (if toF l[m].1=toF pa then 1 else toF l[m].1 * C44.iv (toF l[m].1 - toF pa)):=by
    rw [htm,List.map_append,hxe,List.map_cons,List.map_nil,pr_snoc]; grobner
   have hmk:=hat m hm'
   obtain ⟨qa,hqa⟩:∃ qa,l[m].1=qa:=⟨_,rfl⟩
   rw [hqa] at q1 q2 hxS hmk
   by_cases g3:m=k
   · have hqp:qa=pa:=by subst g3; rw [← hqa,← hpa]
     rw [if_pos (by rw [hqp])] at hxS
     have hU:toF x=toF pv * pr (toF pa) ((l.take (m + 1)).map fun q=>toF q.1):=by rw [hxS]; grobner
     subst g3
     (refine goX g2 ?_; (repeat' (with_reducible apply Br.mk<;>intro _)))
     refine ⟨_,_,?_,stle,m + 1,x,by omega,rfl,hx,hU,rfl⟩
     omega
   · have g4:¬ qa=pa:=fun e=>g3 (hmk e)
     rw [if_neg (at_ne q2 p2 g4)] at hxS
     have g3':¬ (m:Int)=(k:Int):=by omega
     have b1:x * qa≤2147483647 * 12:=Nat.mul_le_mul (by omega) q2
     have e1:(x:Int) * (qa:Int)=((x * qa:Nat):Int):=by rw [Int.natCast_mul]
     have m1:=md (x * qa)
     have u1:toF (x * qa % P)=toF x * toF qa:=by rw [toF_mod,toF_mul]
     have u2:x * qa % P < P:=Nat.mod_lt _ (by decide)
     generalize x * qa % P=x2 at *
     generalize x * qa=xq at *
     have e2:(qa:Int) - (pa:Int) + 2147483647=((qa + P - pa:Nat):Int):=by omega
     have m2:=md (qa + P - pa)
     have d0:toF ((qa + P - pa) % P)=toF qa - toF pa:=toF_sub (by omega)
     have d1:(qa + P - pa) % P < P:=Nat.mod_lt _ (by decide)
     have hinv:=inverse_ok ((qa + P - pa) % P) d1
     rw [d0] at hinv
     have hvl:(C44.iv (toF qa - toF pa)).val < P:=Fin.isLt _
     have hvt:=val_toF (C44.iv (toF qa - toF pa))
     generalize (C44.iv (toF qa - toF pa)).val=ivn at *
     generalize (qa + P - pa) % P=dq at *
     have r2:qa + P - pa≤3000000000:=by omega
     generalize qa + P - pa=dqp at *
     rw [hP] at hvl u2
     have b3:x2 * ivn≤2147483647 * 2147483647:=Nat.mul_le_mul (by omega) (by omega)
     have e3:(x2:Int) * (ivn:Int)=((x2 * ivn:Nat):Int):=by rw [Int.natCast_mul]
     have m3:=md (x2 * ivn)
     have u3:toF (x2 * ivn % P)=toF pv * pr (toF pa) ((l.take (m + 1)).map fun q=>toF q.1):=by rw [hxS,toF_mod,toF_mul,u1,hvt]; grobner
     have u4:x2 * ivn % P < P:=Nat.mod_lt _ (by decide)
     generalize x2 * ivn % P=x3 at *
     generalize x2 * ivn=xi at *
     have i1:-9223372036854775808≤(qa:Int) - (pa:Int):=by omega
     have i2:(qa:Int) - (pa:Int)≤9223372036854775807:=by omega
     (refine goX1 (nn g2 (nn hm' (nn hk' (nn hqa (nn hpa (nn g3' (nn e1 (nn m1 (nn e2 (nn m2 (nn e3 m3))))))))))) (hinv) ?_; (repeat' (with_reducible apply Br.mk<;>intro _)))
     refine ⟨_,_,?_,stle,m + 1,x3,by omega,rfl,u4,u3,rfl⟩
     omega
  obtain rfl:m=l.length:=by omega
  rw [List.take_length] at hxe
  rw [hP] at hs1
  have e2:(sum:Int) + (x:Int)=((sum + x:Nat):Int):=rfl
  have m1:=md (sum + x)
  have u1:toF ((sum + x) % P)=sm (fz l) (l.take (k + 1)):=by
   rw [toF_mod,toF_add,hxe,htk,sm_append,hs2,sm,sm,hfz]; grobner
  have u2:(sum + x) % P < P:=Nat.mod_lt _ (by decide)
  generalize (sum + x) % P=sum2 at *
  (refine goX (nn g2 (nn e2 m1)) ?_; (repeat' (with_reducible apply Br.mk<;>intro _)))
  refine ⟨_,_,?_,stle,k + 1,sum2,by omega,rfl,u2,u1,rfl⟩
  omega
 obtain rfl:k=l.length:=by omega
 rw [List.take_length] at hs2
 have hz:sum=zer l:=by
  unfold zer
  rw [← hs2,toF_val,Nat.mod_eq_of_lt hs1]
 (refine goX g1 ?_; (repeat' (with_reducible apply Br.mk<;>intro _)))
 exact Fin.p rfl (by rw [hz])
end Go.Proofs.YtclmdhceceacoaaGreatDoor
/-
 Layer 44: the pieces that are used,by the reference.
 Conditions: of each contract as it says.
-/
namespace Go.Proofs.YtclmdhceceacoaaGreatDoor
open Go Go.E2 CW CH C44
set_option linter.unusedSimpArgs false
set_option maxHeartbeats 4000000
attribute [go_sem] eP
def pOk (t:Tk) (i:Int) (p:Pc):Bool:=decide (p.at_=i) && fits t p
def fst1 (t:Tk) (l:List Pc) (i:Int):Option Pc:=l.find? (pOk t i)
def ul (t:Tk) (l:List Pc):Nat→List Pc
 | 0=>[]
 | k + 1=>ul t l k ++ (fst1 t l ((k + 1:Nat):Int)).toList
theorem ul_len (t:Tk) (l:List Pc):∀ k,(ul t l k).length≤k
 | 0=>Nat.le_refl _
 | k + 1=>by
   have:=ul_len t l k
   rw [ul,List.length_append]
   cases fst1 t l ((k + 1:Nat):Int)<;>simp<;>omega
theorem ul_pre (t:Tk) (l:List Pc) (k:Nat):∀ m,∃ r,ul t l (k + m)=ul t l k ++ r
 | 0=>⟨[],by simp⟩
 | m + 1=>by
   obtain ⟨r,hr⟩:=ul_pre t l k m
   exact ⟨r ++ (fst1 t l ((k + m + 1:Nat):Int)).toList,by rw [← Nat.add_assoc,ul,hr,List.append_assoc]⟩
def us (t:Tk) (l:List Pc):List Pc:=(ul t l t.marks.length).take t.need.toNat
theorem us_at {t:Tk} {l:List Pc} {k:Nat} (hk:k≤t.marks.length) (h:(ul t l k).length=t.need.toNat):us t l=ul t l k:=by
 obtain ⟨r,hr⟩:=ul_pre t l k (t.marks.length - k)
 rw [show k + (t.marks.length - k)=t.marks.length by omega] at hr
 rw [us,hr,← h,List.take_left']
 rfl
theorem us_end {t:Tk} {l:List Pc} (h:(ul t l t.marks.length).length≤t.need.toNat):us t l=ul t l t.marks.length:=by
 rw [us,List.take_of_length_le h]
theorem Used_ok (t:Tk) (l:List Pc) (hl:l.length≤100000) (hv:t.valid=true):CallP Tryz.prog f_zz31 [eT t,.list (l.map eP)]
 (·=.d (.list ((us t l).map eP))):=by
 refine callP_of_W fol zz31_cp ?_
 obtain ⟨v1,v2,v3,v4,v5⟩:=Tk.valid_iff.1 hv
 have hm0:=mostBytes_eq
 have hT:eT t=.agg [eI t.house,eI t.need,.list (t.marks.map eD)]:=rfl
 rw [hT]
 refine goS trivial ?_
 (refine goX trivial ?_; (repeat' (with_reducible apply Br.mk<;>intro _)))
 refine W.loop (fun q st=>∃ k:Nat,k≤t.marks.length∧q=t.marks.length - k∧(ul t l k).length≤t.need.toNat ∧
  st=(E [(6,.d (eN (k + 1))),(5,.own 2 ((ul t l k).map eP)),(2,.ptr 0 2 1 0),(1,.d (.list (l.map eP)))],HB [(2,⟨1,some [eI t.house,eI t.need,.list (t.marks.map eD)]⟩)],[],noGh))
  ⟨_,_,stleB (by rfl),0,by omega,rfl,by rw [ul]; exact Nat.zero_le _,rfl⟩ ?_
 rintro q st ⟨k,hk,rfl,hul,rfl⟩
 by_cases g1:((k + 1:Nat):Int)≤(t.marks.length:Int)
 case neg =>
  obtain rfl:k=t.marks.length:=by omega
  have hu:=us_end hul
  (refine goX g1 ?_; (repeat' (with_reducible apply Br.mk<;>intro _)))
  rw [hu]
  exact Fin.p rfl rfl
 by_cases g2:((ul t l k).length:Int) < t.need
 case neg =>
  have hu:=us_at (k:=k) (by omega) (by omega:(ul t l k).length=t.need.toNat)
  (refine goX (nn g1 g2) ?_; (repeat' (with_reducible apply Br.mk<;>intro _)))
  rw [hu]
  exact Fin.p rfl rfl
 have hul0:(ul t l (k + 1)).length≤t.need.toNat:=by
  rw [ul,List.length_append]
  cases fst1 t l ((k + 1:Nat):Int)<;>simp<;>omega
 have hulS:ul t l (k + 1)=ul t l k ++ (fst1 t l ((k + 1:Nat):Int)).toList:=rfl
 have hul1:=ul_len t l k
 (refine goX (nn g1 g2) ?_; (repeat' (with_reducible apply Br.mk<;>intro _)))
 refine W.loop (fun q st=>∃ (m:Nat) (found:Bool) (out:List Pc),m≤l.length∧q=l.length - m∧(if found=true then out=(ul t l (k + 1)) else out=(ul t l k)∧(l.take m).find? (pOk t ((k + 1:Nat):Int))=none) ∧
  st=(E [(8,.d (eN m)),(7,.d (.bool found)),(6,.d (eN (k + 1))),(5,.own 2 (out.map eP)),(2,.ptr 0 2 1 0),(1,.d (.list (l.map eP)))],HB [(2,⟨1,some [eI t.house,eI t.need,.list (t.marks.map eD)]⟩)],[],noGh))
  ⟨_,_,stleB (by rfl),0,false,(ul t l k),by omega,rfl,by rw [if_neg (by decide)]; exact ⟨rfl,rfl⟩,rfl⟩ ?_
 rintro q st ⟨m,found,out,hm,rfl,ho,rfl⟩
 by_cases g3:(m:Int) < (l.length:Int)
 case neg =>
  obtain rfl:m=l.length:=by omega
  have hout:out=ul t l (k + 1):=by
   cases found with
   | true=>rw [if_pos rfl] at ho; exact ho
   | false =>
    rw [if_neg (by decide),List.take_length] at ho
    rw [hulS,fst1,ho.2,ho.1]; simp
  subst hout
  (refine goX g3 ?_; (repeat' (with_reducible apply Br.mk<;>intro _)))
  refine ⟨_,_,?_,stleB (by rfl),k + 1,by omega,rfl,hul0,rfl⟩
  omega
 cases found with
 | true =>
  rw [if_pos rfl] at ho
  subst ho
  (refine goX g3 ?_; (repeat' (with_reducible apply Br.mk<;>intro _)))
  refine ⟨_,_,?_,stleB (by rfl),k + 1,by omega,rfl,hul0,rfl⟩
  omega
 | false =>
  rw [if_neg (by decide)] at ho
  obtain ⟨rfl,hnone⟩:=ho
  have hm':m < l.length:=by omega
  have hf:=rFits_ok t l[m]
  have htm:l.take (m + 1)=l.take m ++ [l[m]]:=List.take_succ_eq_append_getElem hm'
  unfold eT eP at hf
  by_cases g4:pOk t ((k + 1:Nat):Int) l[m]=true
  · have g4':=g4
    unfold pOk at g4'
    rw [Bool.and_eq_true,decide_eq_true_eq] at g4'
    obtain ⟨g5,g6⟩:=g4'
    rw [g6,g5] at hf
    have hfs:fst1 t l ((k + 1:Nat):Int)=some l[m]:=by
     have hdr:l=l.take m ++ l[m]::l.drop (m + 1):=by rw [List.getElem_cons_drop,List.take_append_drop]
     generalize l[m]=p at *
     unfold fst1
     rw [hdr,List.find?_append,hnone,List.find?_cons_of_pos g4]; rfl
    rw [hfs] at hulS
    have hel:(ul t l k).map eP ++ [.agg [eI ((k + 1:Nat):Int),eI l[m].val]]=(ul t l (k + 1)).map eP:=by
     rw [hulS,List.map_append,Option.toList,List.map_cons,List.map_nil,eP,g5]
    have hull:((ul t l k).map eP).length≤12:=by rw [List.length_map]; omega
    (refine goX1 (nn g3 (nn hm' (nn g5 hel))) (hf) ?_; (repeat' (with_reducible apply Br.mk<;>intro _)))
    refine ⟨_,_,?_,stleB (by rfl),m + 1,true,ul t l (k + 1),by omega,rfl,rfl,rfl⟩
    omega
  · have g4':¬ (l[m].at_=((k + 1:Nat):Int)∧fits t l[m]=true):=by
     unfold pOk at g4
     simpa using g4
    have hnone':(l.take (m + 1)).find? (pOk t ((k + 1:Nat):Int))=none:=by
     rw [htm,List.find?_append,hnone,List.find?_singleton,if_neg g4]; rfl
    by_cases g5:l[m].at_=((k + 1:Nat):Int)
    · have g6:fits t l[m]=false:=by
       cases h:fits t l[m] with
       | true=>exact absurd ⟨g5,h⟩ g4'
       | false=>rfl
      rw [g6,g5] at hf
      (refine goX1 (nn g3 (nn hm' g5)) (hf) ?_; (repeat' (with_reducible apply Br.mk<;>intro _)))
      refine ⟨_,_,?_,stleB (by rfl),m + 1,false,ul t l k,by omega,rfl,?_,rfl⟩
      · omega
      · rw [if_neg (by decide)]; exact ⟨rfl,hnone'⟩
    · (refine goX1 (nn g3 (nn hm' g5)) (hf) ?_; (repeat' (with_reducible apply Br.mk<;>intro _)))
      refine ⟨_,_,?_,stleB (by rfl),m + 1,false,ul t l k,by omega,rfl,?_,rfl⟩
      · omega
      · rw [if_neg (by decide)]; exact ⟨rfl,hnone'⟩
end Go.Proofs.YtclmdhceceacoaaGreatDoor
/-
 Layer 44: Recover,of the reference.
 Conditions: of each contract as it says.
-/
namespace Go.Proofs.YtclmdhceceacoaaGreatDoor
open Go Go.E2 CW CH C44
set_option linter.unusedSimpArgs false
set_option maxHeartbeats 4000000
theorem fst1_some {t:Tk} {l:List Pc} {i:Int} {p:Pc} (h:fst1 t l i=some p):p.at_=i∧fits t p=true∧p ∈ l:=by
 have h1:=List.find?_some h
 unfold pOk at h1
 rw [Bool.and_eq_true,decide_eq_true_eq] at h1
 exact ⟨h1.1,h1.2,List.mem_of_find?_eq_some h⟩
theorem ul_mem {t:Tk} {l:List Pc}:∀ {k:Nat} {p:Pc},p ∈ ul t l k→fits t p=true∧1≤p.at_∧p.at_≤k∧p ∈ l
 | 0,p,h=>by cases h
 | k + 1,p,h=>by
   rw [ul,List.mem_append] at h
   rcases h with h|h
   · obtain ⟨h1,h2,h3,h4⟩:=ul_mem h
     exact ⟨h1,h2,by omega,h4⟩
   · obtain ⟨h1,h2,h3⟩:=fst1_some (Option.mem_toList.1 h)
     exact ⟨h2,by omega,by omega,h3⟩
theorem ul_nodup (t:Tk) (l:List Pc):∀ k,((ul t l k).map (·.at_)).Nodup
 | 0=>List.nodup_nil
 | k + 1=>by
   rw [ul,List.map_append,List.nodup_append]
   refine ⟨ul_nodup t l k,?_,fun a ha b hb=>?_⟩
   · cases fst1 t l ((k + 1:Nat):Int)<;>simp
   · obtain ⟨p,hp,rfl⟩:=List.mem_map.1 ha
     obtain ⟨q,hq,rfl⟩:=List.mem_map.1 hb
     have h1:=(ul_mem hp).2.2.1
     have h2:=(fst1_some (Option.mem_toList.1 hq)).1
     omega
theorem us_mem {t:Tk} {l:List Pc} {p:Pc} (h:p ∈ us t l):fits t p=true∧p ∈ l :=
 have:=ul_mem (List.mem_of_mem_take h)
 ⟨this.1,this.2.2.2⟩
theorem us_nodup (t:Tk) (l:List Pc):((us t l).map (·.at_)).Nodup:=by
 rw [us,List.map_take]
 exact (ul_nodup t l _).sublist (List.take_sublist _ _)
theorem us_len_le (t:Tk) (l:List Pc):(us t l).length≤t.need.toNat∧(us t l).length≤t.marks.length:=by
 have:=ul_len t l t.marks.length
 rw [us,List.length_take]; omega
theorem fits_iff {t:Tk} {p:Pc}:fits t p=true↔t.valid=true∧(1≤p.at_∧p.at_≤t.marks.length∧0≤p.val∧p.val < 2147483647)∧t.marks[(p.at_ - 1).toNat]?=some (mk3 t.house p.at_ p.val):=by
 unfold fits
 simp only [Bool.and_eq_true,decide_eq_true_eq,and_assoc]
def toQ (p:Pc):Nat × Nat:=(p.at_.toNat,p.val.toNat)
theorem eP_toQ {t:Tk} {p:Pc} (h:fits t p=true):eP p=eQ (toQ p):=by
 obtain ⟨_,h1,_⟩:=fits_iff.1 h
 unfold eP eQ toQ eN
 rw [show ((p.at_.toNat:Nat):Int)=p.at_ by omega,show ((p.val.toNat:Nat):Int)=p.val by omega]
abbrev uQ (t:Tk) (l:List Pc):List (Nat × Nat):=(us t l).map toQ
theorem us_eQ (t:Tk) (l:List Pc):(us t l).map eP=(uQ t l).map eQ:=by
 rw [List.map_map]
 exact List.map_congr_left fun p hp=>eP_toQ (us_mem hp).1
theorem uQ_good (t:Tk) (l:List Pc):gQ (uQ t l):=by
 intro q hq
 obtain ⟨p,hp,rfl⟩:=List.mem_map.1 hq
 obtain ⟨h0,h1,_⟩:=fits_iff.1 (us_mem hp).1
 have:=Tk.valid_iff.1 h0
 have hP:P=2147483647:=rfl
 refine ⟨?_,?_,?_⟩<;>simp only [toQ]<;>omega
theorem nodup_map_of {α β γ:Type} {f:α→β} {g:α→γ} {l:List α} (h:(l.map f).Nodup) (hi:∀ x ∈ l,∀ y ∈ l,g x=g y→f x=f y):(l.map g).Nodup:=by
 rw [List.nodup_iff_pairwise_ne,List.pairwise_map] at h ⊢
 exact h.imp_of_mem fun {a b} ha hb hne e=>hne (hi a ha b hb e)
theorem uQ_nodup (t:Tk) (l:List Pc):((uQ t l).map (·.1)).Nodup:=by
 rw [List.map_map]
 refine nodup_map_of (us_nodup t l) fun x hx y hy e=>?_
 obtain ⟨h0,h1,_⟩:=fits_iff.1 (us_mem hx).1
 obtain ⟨h2,h3,_⟩:=fits_iff.1 (us_mem hy).1
 simp only [Function.comp,toQ] at e
 omega
def mks (t:Tk) (s:Nat):List Dg:=marksL t.house.toNat s t.need.toNat t.marks.length
def seedOf (t:Tk) (l:List Pc):Nat:=zer (uQ t l)
def reco (t:Tk) (l:List Pc):Nat × Nat :=
 if t.valid=false then (0,1) else if ((us t l).length:Int) < t.need then (0,8) else if mks t (seedOf t l)=t.marks then (seedOf t l,0) else (0,23)
theorem rRecover_ok (t:Tk) (l:List Pc) (hl:l.length≤100000):CallP Tryz.prog f_zz11 [eT t,.list (l.map eP)] (·=.d (.agg [eN (reco t l).1,eN (reco t l).2])):=by
 refine callP_of_W fol zz11_cp ?_
 have hvl:=rValid_ok t
 have hT:eT t=.agg [eI t.house,eI t.need,.list (t.marks.map eD)]:=rfl
 cases hv:t.valid with
 | false =>
  rw [hv] at hvl
  have hr:reco t l=(0,1):=by unfold reco; rw [if_pos hv]
  rw [hr]
  rw [hT] at *
  refine goS trivial ?_
  (refine goX1 trivial (hvl) ?_; (repeat' (with_reducible apply Br.mk<;>intro _)))
  exact Fin.p rfl rfl
 | true =>
  rw [hv] at hvl
  have hu:=Used_ok t l hl hv
  obtain ⟨v1,v2,v3,v4,v5⟩:=Tk.valid_iff.1 hv
  obtain ⟨ul1,ul2⟩:=us_len_le t l
  by_cases g1:((us t l).length:Int) < t.need
  · have hr:reco t l=(0,8):=by unfold reco; rw [if_neg (by rw [hv]; decide),if_pos g1]
    rw [hr]
    rw [hT] at *
    refine goS trivial ?_
    (refine goX2 g1 (hvl) (hu) ?_; (repeat' (with_reducible apply Br.mk<;>intro _)))
    exact Fin.p rfl rfl
  have hz:=zero_ok (uQ t l) (by rw [List.length_map]; omega) (uQ_good t l) (uQ_nodup t l)
  rw [← us_eQ] at hz
  have hzl:=zer_lt (uQ t l)
  have hP:P=2147483647:=rfl
  have hd:=rDeal_ok t.house.toNat (zer (uQ t l)) t.need.toNat t.marks.length (by omega) hzl (by omega) (by omega)
  have e1:eN t.house.toNat=eI t.house:=by unfold eN; rw [show ((t.house.toNat:Nat):Int)=t.house by omega]
  have e2:eN t.need.toNat=eI t.need:=by unfold eN; rw [show ((t.need.toNat:Nat):Int)=t.need by omega]
  rw [e1,e2] at hd
  have hmk:mks t (seedOf t l)=marksL t.house.toNat (zer (uQ t l)) t.need.toNat t.marks.length:=rfl
  have hml:=marksL_len t.house.toNat (zer (uQ t l)) t.need.toNat t.marks.length
  have hso:seedOf t l=zer (uQ t l):=rfl
  rw [← hmk] at hd hml
  rw [← hso] at hz hd hzl
  have hs:=SameTicket_ok ⟨t.house,t.need,mks t (seedOf t l)⟩ t (by rw [hml]; omega) (by omega)
  have hde:decide ((⟨t.house,t.need,mks t (seedOf t l)⟩:Tk)=t)=decide (mks t (seedOf t l)=t.marks):=decide_eq_decide.2 ⟨fun e=>congrArg Tk.marks e,fun e=>by rw [e]⟩
  rw [hde] at hs
  have hT2:eT ⟨t.house,t.need,mks t (seedOf t l)⟩=.agg [eI t.house,eI t.need,.list ((mks t (seedOf t l)).map eD)]:=rfl
  rw [hT,hT2] at hs
  rw [hT] at *
  by_cases g2:mks t (seedOf t l)=t.marks
  · have hr:reco t l=(seedOf t l,0):=by unfold reco; rw [if_neg (by rw [hv]; decide),if_neg g1,if_pos g2]
    rw [hr]
    rw [decide_eq_true g2] at hs
    generalize mks t (seedOf t l)=mk at *
    generalize seedOf t l=sd at *
    refine goS trivial ?_
    (repeat' (first|(with_reducible first|refine W.seq ?_|refine W.block ?_|refine W.scope ?_)|((first|(with_reducible first|refine W.reg ?_|refine W.skip ?_|refine W.exit ?_|refine W.ret ?_|refine W.ifc ?_)|(apply wC_P (hvl); (focus (simp -dsimp (disch:=first|omega|(simp only [go_sem]; omega)) only [go_sem,seval,Nat.reduceEqDiff,Nat.reduceLeDiff]<;>rfl)); rintro _ rfl)|(apply wC_P (hu); (focus (simp -dsimp (disch:=first|omega|(simp only [go_sem]; omega)) only [go_sem,seval,Nat.reduceEqDiff,Nat.reduceLeDiff]<;>rfl)); rintro _ rfl)|(apply wC_P (hz); (focus (simp -dsimp (disch:=first|omega|(simp only [go_sem]; omega)) only [go_sem,seval,Nat.reduceEqDiff,Nat.reduceLeDiff]<;>rfl)); rintro _ rfl)|(apply wC_P (hd); (focus (simp -dsimp (disch:=first|omega|(simp only [go_sem]; omega)) only [go_sem,seval,Nat.reduceEqDiff,Nat.reduceLeDiff]<;>rfl)); rintro _ rfl)|(apply wC_P (hs); (focus (simp -dsimp (disch:=first|omega|(simp only [go_sem]; omega)) only [go_sem,seval,Nat.reduceEqDiff,Nat.reduceLeDiff]<;>rfl)); rintro _ rfl)|((with_reducible first|refine wG_decE (fun _ hG=>?_) (fun _ hG=>?_)|refine wG_decFE (fun _ hG=>?_) (fun _ hG=>?_))<;>(try simp -dsimp only [hG,decide_true,decide_false,not_true_eq_false,not_false_eq_true])<;>clear hG))<;>(try simp -dsimp (disch:=first|omega|(simp only [go_sem]; omega)) only [go_sem,seval,Nat.reduceEqDiff,Nat.reduceLeDiff,g1]))|simp -dsimp (disch:=first|omega|(simp only [go_sem]; omega)) only [go_sem,seval,Nat.reduceEqDiff,Nat.reduceLeDiff,g1]))
    exact Fin.p rfl rfl
  · have hr:reco t l=(0,23):=by unfold reco; rw [if_neg (by rw [hv]; decide),if_neg g1,if_neg g2]
    rw [hr]
    rw [decide_eq_false g2] at hs
    generalize mks t (seedOf t l)=mk at *
    generalize seedOf t l=sd at *
    refine goS trivial ?_
    (repeat' (first|(with_reducible first|refine W.seq ?_|refine W.block ?_|refine W.scope ?_)|((first|(with_reducible first|refine W.reg ?_|refine W.skip ?_|refine W.exit ?_|refine W.ret ?_|refine W.ifc ?_)|(apply wC_P (hvl); (focus (simp -dsimp (disch:=first|omega|(simp only [go_sem]; omega)) only [go_sem,seval,Nat.reduceEqDiff,Nat.reduceLeDiff]<;>rfl)); rintro _ rfl)|(apply wC_P (hu); (focus (simp -dsimp (disch:=first|omega|(simp only [go_sem]; omega)) only [go_sem,seval,Nat.reduceEqDiff,Nat.reduceLeDiff]<;>rfl)); rintro _ rfl)|(apply wC_P (hz); (focus (simp -dsimp (disch:=first|omega|(simp only [go_sem]; omega)) only [go_sem,seval,Nat.reduceEqDiff,Nat.reduceLeDiff]<;>rfl)); rintro _ rfl)|(apply wC_P (hd); (focus (simp -dsimp (disch:=first|omega|(simp only [go_sem]; omega)) only [go_sem,seval,Nat.reduceEqDiff,Nat.reduceLeDiff]<;>rfl)); rintro _ rfl)|(apply wC_P (hs); (focus (simp -dsimp (disch:=first|omega|(simp only [go_sem]; omega)) only [go_sem,seval,Nat.reduceEqDiff,Nat.reduceLeDiff]<;>rfl)); rintro _ rfl)|((with_reducible first|refine wG_decE (fun _ hG=>?_) (fun _ hG=>?_)|refine wG_decFE (fun _ hG=>?_) (fun _ hG=>?_))<;>(try simp -dsimp only [hG,decide_true,decide_false,not_true_eq_false,not_false_eq_true])<;>clear hG))<;>(try simp -dsimp (disch:=first|omega|(simp only [go_sem]; omega)) only [go_sem,seval,Nat.reduceEqDiff,Nat.reduceLeDiff,g1]))|simp -dsimp (disch:=first|omega|(simp only [go_sem]; omega)) only [go_sem,seval,Nat.reduceEqDiff,Nat.reduceLeDiff,g1]))
    exact Fin.p rfl rfl
end Go.Proofs.YtclmdhceceacoaaGreatDoor
