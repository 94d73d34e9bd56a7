/-
 Layer 44: Deal of the program and of the reference.
 Conditions: of each contract as it says.
-/
import Derived.Test.YtclmdhceceacoaaGreatDoorH11
import Derived.Test.YtclmdhceceacoaaGreatDoorS44
namespace Go.Proofs.YtclmdhceceacoaaGreatDoor
open Go Go.E2 CW CH C44
set_option linter.unusedSimpArgs false
set_option maxHeartbeats 4000000
theorem zr16_ok:((zr 16 (D.int IntKind.u8 0)).length == 16 && (zr 16 (D.int IntKind.u8 0)).all D.one)=true:=by rfl
def shares (h s need n:Nat):List Nat:=(List.range n).map fun i=>shr h s (i + 1) need
def marksL (h s need n:Nat):List Dg:=(List.range n).map fun i=>mk3 h ((i + 1:Nat):Int) (shr h s (i + 1) need)
theorem shares_succ (h s need n:Nat):shares h s need (n + 1)=shares h s need n ++ [shr h s (n + 1) need]:=by simp [shares,List.range_succ]
theorem marksL_succ (h s need n:Nat):marksL h s need (n + 1)=marksL h s need n ++ [mk3 h ((n + 1:Nat):Int) (shr h s (n + 1) need)]:=by simp [marksL,List.range_succ]
theorem shares_len (h s need n:Nat):(shares h s need n).length=n:=by simp [shares]
theorem marksL_len (h s need n:Nat):(marksL h s need n).length=n:=by simp [marksL]
theorem Deal_ok (h s need n:Nat) (h1:h < 12) (h2:s < P) (h3:1≤n∧n≤12) (h4:1≤need∧need≤n) :
 CallP Tryz.prog f_zz54 [eN h,eN s,eN need,eN n] (·=.tup [.list ((shares h s need n).map eN),.agg [eN h,eN need,.list ((marksL h s need n).map eD)],eI 0]):=by
 refine CallP.of_deep (callT_of_W fol zz54_cp ?_)
 have hP:P=2147483647:=rfl
 have hm:=mostBytes_eq
 have hh:=isHouse_ok (h:Int)
 have hn:=isNumber_ok (s:Int)
 rw [decide_eq_true (by omega)] at hh hn
 have n1:¬ (n:Int) < 1:=by omega
 have n2:¬ (n:Int) > 12:=by omega
 have n3:¬ (need:Int) < 1:=by omega
 have n4:¬ (need:Int) > (n:Int):=by omega
 refine goS trivial ?_
 (refine goX2 (nn n1 (nn n2 (nn n3 n4))) (hh) (hn) ?_; (repeat' (with_reducible apply Br.mk<;>intro _)))
 (refine goM (sharer_ok h s need h1 h2 (by omega)) (Sep.nil) ?_)
 rintro _ _ G0 ⟨b,x,rfl,rfl⟩ hs0
 have hs0:Sep [CellA b [x],SlA 1 x ((coefs h s (need - 1)).map eN)] G0:=hs0
 have hs:=hs0.slNil (sz:=16)
 refine goS trivial ?_
 (refine goX trivial ?_; (repeat' (with_reducible apply Br.mk<;>intro _)))
 refine W.loop (fun q st=>∃ (k:Nat) (y:D) (G:Gh),k≤n∧q=n - k∧Sep [SlA 16 y ((marksL h s need k).map eD),CellA b [x],SlA 1 x ((coefs h s (need - 1)).map eN)] G ∧
  st=(E [(14,.d (eN (k + 1))),(13,.ptr 0 13 1 0),(12,.own 1 ((shares h s need k).map eN)),(11,.d (.clo f_zz33 [.gp b 0])),(9,.ptr 0 9 1 0),(0,.d (eN h)),(3,.d (eN n))],
   HB [(9,⟨1,some [eI 0,eI 0,.nilS]⟩),(13,⟨1,some [eN h,eN need,y]⟩)],[],G))
  ⟨_,_,stleB (by rfl),0,.nilS,G0,by omega,rfl,hs,rfl⟩ ?_
 clear hs
 rintro q st ⟨k,y,G,hk,rfl,hs,rfl⟩
 have hsl:=shares_len h s need k
 have hml:=marksL_len h s need k
 by_cases g1:((k + 1:Nat):Int)≤(n:Int)
 case pos =>
  have hk':k + 1≤12:=by omega
  have hss:=shares_succ h s need k
  have hms:=marksL_succ h s need k
  have hsh:=fun σ=>sharer1_ok [SlA 16 y ((marksL h s need k).map eD)] b x h s (need - 1) h2 (by omega) (k + 1) hk' σ G
  have hne:need - 1 + 1=need:=by omega
  simp only [hne] at hsh
  have hlt:=shr_lt h s (k + 1) need
  have hmk:=mark3_ok (h:=(h:Int)) (i:=((k + 1:Nat):Int)) (s:=((shr h s (k + 1) need:Nat):Int)) (by omega) (by omega) (by omega)
  generalize shr h s (k + 1) need=sh at *
  generalize mk3 (h:Int) ((k + 1:Nat):Int) (sh:Int)=mk at *
  have hs:=hs.b3
  have hy0:=hs.tail.tail.gv
  rcases hy0.shape with rfl|⟨b0,n0,c0,rfl⟩
  all_goals
   (refine goX g1 ?_; (repeat' (with_reducible apply Br.mk<;>intro _)))
   apply wC_gc (xs:=[eN (k + 1)]) (cs:=[.gp b 0]) (hsh _ hs)
   focus (simp -dsimp (disch:=first|omega|(simp only [go_sem]; omega)) only [go_sem,seval,Nat.reduceEqDiff,Nat.reduceLeDiff]<;>fail)
   focus (simp -dsimp (disch:=first|omega|(simp only [go_sem]; omega)) only [go_sem,seval,Nat.reduceEqDiff,Nat.reduceLeDiff]<;>rfl)
   rintro _ G2 ⟨rfl,hs2⟩
   have hs3:=hs2.f3
   have hv:=hs3.gv
   have hse:(shares h s need k).map eN ++ [eN sh]=(shares h s need (k + 1)).map eN:=by rw [hss,List.map_append]; rfl
   have hsl1:=shares_len h s need (k + 1)
   have hge:∀ hh:k < (shares h s need (k + 1)).length,(shares h s need (k + 1))[k]=sh:=fun hh=>by
    have:(shares h s need (k + 1))[k]?=some sh:=by rw [hss,List.getElem?_append_right (by rw [hsl]; omega),hsl,Nat.sub_self]; rfl
    rw [List.getElem?_eq_getElem hh] at this
    exact Option.some.inj this
   have hek:((k + 1:Nat):Int) - 1=(k:Int):=by omega
   refine goS hse ?_
   (refine goX1 (nn hse (nn hsl1 (nn hge (nn hek zr16_ok)))) (hmk) ?_; (repeat' (with_reducible apply Br.mk<;>intro _)))
   refine appV_GV2 hv (viewC_list (es:=[eD mk]) (eD_all [mk])) rfl (eD_all [mk]) rfl (by rw [List.length_map,hml,hm]; show (_ + 1) * 16≤_; omega) fun x' G5 hg hto=>?_
   have hs4:=hs3.grow hto (es':=(marksL h s need (k + 1)).map eD) (by rw [hms,List.map_append]; exact hg)
   obtain ⟨b9,c9,cs9,hxe,_,_⟩:=hg.inv (by simp)
   generalize (List.map eD (marksL h s need k) ++ [eD mk]).length=n9 at hxe
   subst hxe
   refine goS trivial ?_
   (refine goX trivial ?_; (repeat' (with_reducible apply Br.mk<;>intro _)))
   refine ⟨_,_,?_,stleB (by rfl),k + 1,_,G5,by omega,rfl,hs4,rfl⟩
   omega
 obtain rfl:k=n:=by omega
 have hv:=hs.gv
 have hdr:=hv.dr
 obtain ⟨b9,c9,cs9,hxe,_,_⟩:=hv.inv (by intro e; have:=congrArg List.length e; rw [List.length_map,hml] at this; simp at this; omega)
 rw [List.length_map,hml] at hxe
 subst hxe
 (refine goX g1 ?_; (repeat' (with_reducible apply Br.mk<;>intro _)))
 refine Fin.eq rfl ⟨rfl,_,.tup _ _ (.cons (.refl _) (.cons ?_ (.cons (.refl _) .nil))),rfl⟩
 have h3:DRs G.c [eN h,eN need,D.gs b9 0 k c9] [eN h,eN need,.list ((marksL h s need k).map eD)]:=.cons (.refl _) (.cons (.refl _) (.cons hdr .nil))
 exact DR.agg _ _ h3.1 h3.2
end Go.Proofs.YtclmdhceceacoaaGreatDoor
/-
 Layer 44: lists and tickets that are the same.
 Conditions: of each contract as it says.
-/
namespace Go.Proofs.YtclmdhceceacoaaGreatDoor
open Go Go.E2 CW CH C44
set_option linter.unusedSimpArgs false
set_option maxHeartbeats 4000000
theorem len_ne {α:Type} {a b:List α} (h:a.length ≠ b.length):a ≠ b:=fun e=>h (by rw [e])
theorem dg_take (d:Dg):List.take 16 (d.1.map eB)=d.1.map eB:=(dgOk d.2).2.1
theorem Equal_ok (a b:List Dg) (ha:a.length≤1000000) (hb:b.length≤1000000):CallP Tryz.prog f_zz0 [.list (a.map eD),.list (b.map eD)] (·=.d (.bool (decide (a=b)))):=by
 refine callP_of_W fol zz0_cp ?_
 by_cases h1:a.length=b.length
 case neg =>
  rw [decide_eq_false (len_ne h1)]
  have h1':¬ (a.length:Int)=(b.length:Int):=by omega
  refine goS trivial ?_
  (refine goX h1' ?_; (repeat' (with_reducible apply Br.mk<;>intro _)))
  exact Fin.p rfl rfl
 have h1':(a.length:Int)=(b.length:Int):=by omega
 refine goS trivial ?_
 (refine goX h1' ?_; (repeat' (with_reducible apply Br.mk<;>intro _)))
 refine W.loop (fun q st=>∃ k:Nat,k≤a.length∧q=a.length - k∧(∀ j (h:j < a.length) (h':j < b.length),j < k→a[j]=b[j]) ∧
  st=(E [(13,.d (eN k)),(12,.d (eN b.length)),(0,.d (.list (a.map eD))),(1,.d (.list (b.map eD)))],HB [],[],noGh))
  ⟨_,_,stle,0,by omega,rfl,fun _ _ _ h=>by omega,rfl⟩ ?_
 rintro q st ⟨k,hk,rfl,he,rfl⟩
 by_cases g1:(k:Int) < (b.length:Int)
 case pos =>
  have hk':k < a.length:=by omega
  have hkb:k < b.length:=by omega
  have d5:=(a[k]).2
  have d6:=(b[k]).2
  have hta:=dg_take a[k]
  have htb:=dg_take b[k]
  by_cases g2:a[k]=b[k]
  · have hc:=cellsEq_dg a[k] b[k]
    rw [decide_eq_true g2] at hc
    (refine goX (nn g1 (nn hk' (nn hkb (nn d5 (nn d6 (nn hta (nn htb hc))))))) ?_; (repeat' (with_reducible apply Br.mk<;>intro _)))
    refine ⟨_,_,?_,stle,k + 1,by omega,rfl,fun j h h' hj=>?_,rfl⟩
    · omega
    · by_cases e:j=k
      · subst e; exact g2
      · exact he j h h' (by omega)
  · have hd:decide (a=b)=false:=decide_eq_false fun e=>g2 (by subst e; rfl)
    have hc:=cellsEq_dg a[k] b[k]
    rw [decide_eq_false g2] at hc
    rw [hd]
    (refine goX (nn g1 (nn hk' (nn hkb (nn d5 (nn d6 (nn hta (nn htb hc))))))) ?_; (repeat' (with_reducible apply Br.mk<;>intro _)))
    exact Fin.p rfl rfl
 obtain rfl:k=a.length:=by omega
 have hd:decide (a=b)=true:=decide_eq_true (List.ext_getElem h1 fun j h h'=>he j h h' h)
 rw [hd]
 (refine goX g1 ?_; (repeat' (with_reducible apply Br.mk<;>intro _)))
 exact Fin.p rfl rfl
deriving instance DecidableEq for Tk
end Go.Proofs.YtclmdhceceacoaaGreatDoor
/-
 Layer 44: the value at 0,of the program and of the reference.
 Conditions: of each contract as it says.
-/
namespace Go.Proofs.YtclmdhceceacoaaGreatDoor
open Go Go.E2 CW CH C44
set_option linter.unusedSimpArgs false
set_option maxHeartbeats 4000000
def eQ (p:Nat × Nat):D:=.agg [eN p.1,eN p.2]
attribute [go_sem] eQ
@[go_sem] theorem eQ_all (l:List (Nat × Nat)):(l.map eQ).all (sizeOk 2)=true:=by rw [List.all_eq_true]; intro x hx; obtain ⟨s,_,rfl⟩:=List.mem_map.1 hx; rfl
theorem md (a:Nat):((a:Nat):Int).tmod 2147483647=((a % P:Nat):Int):=by
 rw [Int.tmod_eq_emod_of_nonneg (Int.natCast_nonneg _)]; rfl
abbrev gQ (l:List (Nat × Nat)):Prop:=∀ p ∈ l,1≤p.1∧p.1≤12∧p.2 < P
abbrev fz (l:List (Nat × Nat)) (p:Nat × Nat):F:=toF p.2 * pr (toF p.1) (l.map fun q=>toF q.1)
theorem at_ne {a b:Nat} (ha:a≤12) (hb:b≤12) (h:a ≠ b):toF a ≠ toF b:=fun e=>h (toF_lt e (by have:P=2147483647:=rfl; omega) (by have:P=2147483647:=rfl; omega))
theorem atZero_ok (l:List (Nat × Nat)) (hl:l.length≤1000) (hg:gQ l):CallP Tryz.prog f_zz41 [.list (l.map eQ)] (·=.d (eN (zer l))):=by
 refine callP_of_W fol zz41_cp ?_
 have hP:P=2147483647:=rfl
 refine goS trivial ?_
 (refine goX trivial ?_; (repeat' (with_reducible apply Br.mk<;>intro _)))
 refine W.loop (fun q st=>∃ (k sum:Nat) (b5 b9:Blk),k≤l.length∧q=l.length - k∧sum < P∧toF sum=sm (fz l) (l.take k) ∧
  st=(E [(12,.d (eN k)),(3,.d (eN sum)),(10,.d (.list (l.map eQ))),(11,.d (eN l.length)),(0,.d (.list (l.map eQ)))],HB [(5,b5),(9,b9)],[],noGh))
  ⟨_,_,stleB (HB_pad [] [5,9] rfl).symm,0,0,_,_,by omega,rfl,by decide,rfl,rfl⟩ ?_
 rintro q st ⟨k,sum,b5,b9,hk,rfl,hs1,hs2,rfl⟩
 by_cases g1:(k:Int) < (l.length:Int)
 case pos =>
  have hk':k < l.length:=by omega
  obtain ⟨p1,p2,p3⟩:=hg _ (List.getElem_mem hk')
  have htk:l.take (k + 1)=l.take k ++ [l[k]]:=List.take_succ_eq_append_getElem hk'
  have hfz:fz l l[k]=toF l[k].2 * pr (toF l[k].1) (l.map fun q=>toF q.1):=rfl
  rw [pr_split] at hfz
  obtain ⟨pa,hpa⟩:∃ pa,l[k].1=pa:=⟨_,rfl⟩
  obtain ⟨pv,hpv⟩:∃ pv,l[k].2=pv:=⟨_,rfl⟩
  rw [hpa] at p1 p2 hfz
  rw [hpv] at p3 hfz
  (refine goX (nn g1 (nn hk' (nn hpa hpv))) ?_; (repeat' (with_reducible apply Br.mk<;>intro _)))
  refine W.loop (fun q st=>∃ (m up down:Nat) (b9:Blk),m≤l.length∧q=l.length - m∧up < P∧down < P ∧
   toF up=toF pv * prU (toF pa) ((l.take m).map fun q=>toF q.1)∧toF down=prD (toF pa) ((l.take m).map fun q=>toF q.1) ∧
   st=(E [(20,.d (eN m)),(6,.d (eN up)),(7,.d (eN down)),(5,.ptr 0 5 (b5.g + 1) 0),(18,.d (.list (l.map eQ))),(19,.d (eN l.length)),(12,.d (eN k)),(3,.d (eN sum)),(10,.d (.list (l.map eQ))),(11,.d (eN l.length)),(0,.d (.list (l.map eQ)))],
    HB [(5,⟨b5.g + 1,some [eN pa,eN pv]⟩),(9,b9)],[],noGh))
   ⟨_,_,stleB (by rfl),0,pv,1,b9,by omega,rfl,p3,by decide,by rw [List.take_zero,List.map_nil,prU]; grobner,by rw [List.take_zero,List.map_nil,prD]; rfl,rfl⟩ ?_
  · rintro q st ⟨m,up,down,b9,hm,rfl,hu,hd,hup,hdn,rfl⟩
    rw [hP] at hu hd
    by_cases g2:(m:Int) < (l.length:Int)
    case pos =>
     have hm':m < l.length:=by omega
     obtain ⟨q1,q2,q3⟩:=hg _ (List.getElem_mem hm')
     have htm:l.take (m + 1)=l.take m ++ [l[m]]:=List.take_succ_eq_append_getElem hm'
     have huS:toF pv * prU (toF pa) ((l.take (m + 1)).map fun q=>toF q.1)=toF up * (if toF l[m].1=toF pa then 1 else toF l[m].1):=by
      rw [htm,List.map_append,hup,List.map_cons,List.map_nil,prU_snoc]; grobner
     have hdS:prD (toF pa) ((l.take (m + 1)).map fun q=>toF q.1)=toF down * (if toF l[m].1=toF pa then 1 else toF l[m].1 - toF pa):=by
      rw [htm,List.map_append,hdn,List.map_cons,List.map_nil,prD_snoc]
     obtain ⟨qa,hqa⟩:∃ qa,l[m].1=qa:=⟨_,rfl⟩
     rw [hqa] at q1 q2 huS hdS
     by_cases g3:qa=pa
     · rw [if_pos (by rw [g3])] at huS hdS
       have hU:toF up=toF pv * prU (toF pa) ((l.take (m + 1)).map fun q=>toF q.1):=by rw [huS]; grobner
       have hD:toF down=prD (toF pa) ((l.take (m + 1)).map fun q=>toF q.1):=by rw [hdS]; grobner
       (refine goX (nn g2 (nn hm' (nn hqa g3))) ?_; (repeat' (with_reducible apply Br.mk<;>intro _)))
       refine ⟨_,_,?_,stleB (by rfl),m + 1,up,down,_,by omega,rfl,hu,hd,hU,hD,rfl⟩
       omega
     · rw [if_neg (at_ne q2 p2 g3)] at huS hdS
       have g3':¬ (qa:Int)=(pa:Int):=by omega
       have b1:up * qa≤2147483647 * 12:=Nat.mul_le_mul (by omega) q2
       have e1:(up:Int) * (qa:Int)=((up * qa:Nat):Int):=by rw [Int.natCast_mul]
       have m1:=md (up * qa)
       have u1:toF (up * qa % P)=toF pv * prU (toF pa) ((l.take (m + 1)).map fun q=>toF q.1):=by rw [huS,toF_mod,toF_mul]
       have u2:up * qa % P < P:=Nat.mod_lt _ (by decide)
       generalize up * qa % P=up2 at *
       generalize up * qa=upq at *
       have e2:(qa:Int) - (pa:Int) + 2147483647=((qa + P - pa:Nat):Int):=by omega
       have m2:=md (qa + P - pa)
       have d0:toF ((qa + P - pa) % P)=toF qa - toF pa:=toF_sub (by omega)
       have d1:(qa + P - pa) % P < P:=Nat.mod_lt _ (by decide)
       generalize (qa + P - pa) % P=dq at *
       have r2:qa + P - pa≤3000000000:=by omega
       generalize qa + P - pa=dqp at *
       rw [hP] at d1
       have b3:down * dq≤2147483647 * 2147483647:=Nat.mul_le_mul (by omega) (by omega)
       have e3:(down:Int) * (dq:Int)=((down * dq:Nat):Int):=by rw [Int.natCast_mul]
       have m3:=md (down * dq)
       have u3:toF (down * dq % P)=prD (toF pa) ((l.take (m + 1)).map fun q=>toF q.1):=by rw [hdS,toF_mod,toF_mul,d0]
       have u4:down * dq % P < P:=Nat.mod_lt _ (by decide)
       generalize down * dq % P=down2 at *
       generalize down * dq=ddq at *
       have i1:-9223372036854775808≤(qa:Int) - (pa:Int):=by omega
       have i2:(qa:Int) - (pa:Int)≤9223372036854775807:=by omega
       (refine goX (nn g2 (nn hm' (nn hqa (nn g3' (nn e1 (nn m1 (nn e2 (nn m2 (nn e3 m3))))))))) ?_; (repeat' (with_reducible apply Br.mk<;>intro _)))
       refine ⟨_,_,?_,stleB (by rfl),m + 1,up2,down2,_,by omega,rfl,u2,u4,u1,u3,rfl⟩
       omega
    obtain rfl:m=l.length:=by omega
    rw [List.take_length] at hup hdn
    have hpw:=power_ok down (P - 2) (by omega) (by decide)
    have hiv:C44.iv (toF down)=pw 31 (toF down) (P - 2):=rfl
    rw [← hiv,hdn] at hpw
    have hpe:eN (P - 2)=.int .i64 2147483645:=rfl
    rw [hpe] at hpw
    have hvl:(C44.iv (prD (toF pa) (l.map fun q=>toF q.1))).val < P:=Fin.isLt _
    have hvt:=val_toF (C44.iv (prD (toF pa) (l.map fun q=>toF q.1)))
    generalize (C44.iv (prD (toF pa) (l.map fun q=>toF q.1))).val=ivn at *
    rw [hP] at hvl hs1
    have b1:up * ivn≤2147483647 * 2147483647:=Nat.mul_le_mul (by omega) (by omega)
    have e1:(up:Int) * (ivn:Int)=((up * ivn:Nat):Int):=by rw [Int.natCast_mul]
    have e2:(sum:Int) + ((up * ivn:Nat):Int)=((sum + up * ivn:Nat):Int):=rfl
    have m1:=md (sum + up * ivn)
    have u1:toF ((sum + up * ivn) % P)=sm (fz l) (l.take (k + 1)):=by
     rw [toF_mod,toF_add,toF_mul,hup,hvt,htk,sm_append,hs2,sm,sm,hfz]; grobner
    have u2:(sum + up * ivn) % P < P:=Nat.mod_lt _ (by decide)
    generalize (sum + up * ivn) % P=sum2 at *
    generalize up * ivn=upi at *
    (refine goX1 (nn g2 (nn e1 (nn e2 m1))) (hpw) ?_; (repeat' (with_reducible apply Br.mk<;>intro _)))
    refine ⟨_,_,?_,stleB (by rfl),k + 1,sum2,_,_,by omega,rfl,u2,u1,rfl⟩
    omega
 obtain rfl:k=l.length:=by omega
 rw [List.take_length] at hs2
 have hz:sum=zer l:=by
  unfold zer
  rw [← hs2,toF_val,Nat.mod_eq_of_lt hs1]
 (refine goX g1 ?_; (repeat' (with_reducible apply Br.mk<;>intro _)))
 exact Fin.p rfl (by rw [hz])
end Go.Proofs.YtclmdhceceacoaaGreatDoor
