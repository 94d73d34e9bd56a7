/-
 Layer 22 (slots),continued: write,heal,Format.
 Conditions: of each contract as it says.
-/
import Derived.Test.YtlejjdbmmdghmaaF22t
set_option linter.unusedSimpArgs false
namespace Go.Proofs.Ytlejjdbmmdghmaa
open Go Go.E2 C22
set_option maxHeartbeats 1000000
theorem zee (p:Nat) (d:Dk) (first n a:Int) (s:Sec) (hn:d.steps≤999999999) :
 zy Try.prog f_zz21 [eP p first n,.int .i64 a,eS s] [zp p d] (fun r post=>r=.d (.int .i64 (writeR d a s).2)∧post=[zp p (writeR d a s).1]):=by
 refine zf fol zz21_cp fun R G σ hs=>?_
 have hok:Okd d:=by obtain ⟨_,_,_,_,h⟩:=zbi.open hs;exact h.ok
 have hup:=(z04 hok (by omega) a s).2.2
 refine goS trivial ?_
 refine goR trivial ?_
 (refine goM (zq5 p d a s (by omega)) (hs) ?_)
 rintro _ _ G2 ⟨rfl,rfl⟩ hs2
 by_cases hw:(wr d a s).2=0
 · have hr:writeR d a s=sy (wr d a s).1:=by unfold writeR;rw [if_neg (by rw [hw];simp)]
   refine goS hw ?_
   refine goR hw ?_
   (refine goM (zu4 p (wr d a s).1 (by omega)) (hs2) ?_)
   rintro _ _ G3 ⟨rfl,rfl⟩ hs3
   refine goS trivial ?_
   refine goR trivial ?_
   exact Fin.eq rfl ⟨rfl,_,⟨by rw [hr],by rw [hr]⟩,hs3⟩
 · have hr:writeR d a s=wr d a s:=by unfold writeR;rw [if_pos hw]
   refine goS hw ?_
   refine goR hw ?_
   exact Fin.eq rfl ⟨rfl,_,⟨by rw [hr],by rw [hr]⟩,hs2⟩
theorem zvd (p:Nat) (d:Dk) (first n:Int) (b o:Fnd) (hn:d.steps≤999999999) :
 zy Try.prog f_zz29 [eP p first n,eF b,eF o] [zp p d] (fun r post=>r=.d (.int .i64 (healR d b o).2)∧post=[zp p (healR d b o).1]):=by
 refine zf fol zz29_cp fun R G σ hs=>?_
 have k65:∀ f:Fnd,(List.drop 65 (f.s.1.map eB++[D.int .i64 f.at']++[D.bool f.good])).head?=some (.bool f.good):=fun f=>by
  rw [List.drop_left' (by rw [List.length_append,zaj];rfl)];rfl
 have k64:∀ f:Fnd,(List.drop 64 (f.s.1.map eB++[D.int .i64 f.at']++[D.bool f.good])).head?=some (.int .i64 f.at'):=fun f=>by
  rw [List.append_assoc,List.drop_left' (by rw [zaj])];rfl
 have kb65:=k65 b
 have ko65:=k65 o
 have ko64:=k64 o
 have kbt:List.take 64 (b.s.1.map eB++[D.int .i64 b.at']++[D.bool b.good])=b.s.1.map eB:=by
  rw [List.append_assoc,List.take_append_of_le_length (by rw [zaj];exact Nat.le_refl _),List.take_of_length_le (by rw [zaj];exact Nat.le_refl _)]
 have kot:List.take 64 (o.s.1.map eB++[D.int .i64 o.at']++[D.bool o.good])=o.s.1.map eB:=by
  rw [List.append_assoc,List.take_append_of_le_length (by rw [zaj];exact Nat.le_refl _),List.take_of_length_le (by rw [zaj];exact Nat.le_refl _)]
 have hb:(healR d b o=(d,0)∧(b.good=false∨o.good=true∧o.s=b.s))∨(healR d b o=writeR d o.at' b.s∧b.good=true∧(o.good=false∨¬ o.s=b.s)):=by
  unfold healR
  split
  · rename_i h;exact .inl ⟨rfl,h⟩
  · rename_i h
    refine .inr ⟨rfl,?_,?_⟩
    · cases hg:b.good
      · exact absurd (.inl hg) h
      · rfl
    · cases hg:o.good
      · exact .inl rfl
      · exact .inr fun e=>h (.inr ⟨hg,e⟩)
 have kl1:=zf4 b
 have kl2:=zf4 o
 rcases hb with ⟨hr,hc⟩|⟨hr,hbg,hc⟩
 · rw [hr]
   cases hbg:b.good
   · rw [hbg] at kb65
     refine goS trivial ?_
     refine goR (nn kb65 (nn ko65 (nn ko64 (nn kbt (nn kot (nn kl1 (nn kl2 hbg))))))) ?_
     exact Fin.eq rfl ⟨rfl,_,⟨rfl,rfl⟩,hs⟩
   · rw [hbg] at hc kb65
     obtain ⟨hog,hos⟩:o.good=true∧o.s=b.s:=by simpa using hc
     rw [hog] at ko65
     refine goS trivial ?_
     refine goR (nn kb65 (nn ko65 (nn ko64 (nn kbt (nn kot (nn kl1 (nn kl2 (nn hbg (nn hog hos))))))))) ?_
     exact Fin.eq rfl ⟨rfl,_,⟨rfl,rfl⟩,hs⟩
 · rw [hr]
   rw [hbg] at kb65
   cases hog:o.good
   · rw [hog] at ko65
     refine goS trivial ?_
     refine goR (nn kb65 (nn ko65 (nn ko64 (nn kbt (nn kot (nn kl1 (nn kl2 (nn hbg hog)))))))) ?_
     (refine goM (zee p d first n o.at' b.s hn) (hs) ?_)
     rintro _ _ G2 ⟨rfl,rfl⟩ hs2
     refine goS trivial ?_
     refine goR trivial ?_
     exact Fin.eq rfl ⟨rfl,_,⟨rfl,rfl⟩,hs2⟩
   · rw [hog] at ko65
     have hos:(o.s=b.s)=False:=eq_false (by rw [hog] at hc;simpa using hc)
     refine goS trivial ?_
     refine goR (nn kb65 (nn ko65 (nn ko64 (nn kbt (nn kot (nn kl1 (nn kl2 (nn hbg (nn hog hos))))))))) ?_
     (refine goM (zee p d first n o.at' b.s hn) (hs) ?_)
     rintro _ _ G2 ⟨rfl,rfl⟩ hs2
     refine goS trivial ?_
     refine goR trivial ?_
     exact Fin.eq rfl ⟨rfl,_,⟨rfl,rfl⟩,hs2⟩
theorem zn4 (p:Nat) (d:Dk) (first n:Int) (hn:d.steps≤900000000) :
 zy Try.prog f_zz46 [.gp p 0,.int .i64 first,.int .i64 n] [zp p d] (fun r post=>r=.d (.int .i64 (fmtR d first n).2)∧post=[zp p (fmtR d first n).1]):=by
 refine zf fol zz46_cp fun R G σ hs=>?_
 have hok:Okd d:=by obtain ⟨_,_,_,_,h⟩:=zbi.open hs;exact h.ok
 have hmost:=hok.most
 have bad:zb1 d first n=false→fmtR d first n=(d,1):=fun h=>by unfold fmtR;rw [if_pos h]
 by_cases p1:n<1
 · rw [bad (by unfold zb1;simp [p1])]
   refine goS p1 ?_
   refine goR p1 ?_
   exact Fin.eq rfl ⟨rfl,_,⟨rfl,rfl⟩,hs⟩
 by_cases p2:first<0
 · rw [bad (by unfold zb1;simp [p2])]
   refine goS (nn p1 p2) ?_
   refine goR (nn p1 p2) ?_
   exact Fin.eq rfl ⟨rfl,_,⟨rfl,rfl⟩,hs⟩
 by_cases p3:(d.cs.length:Int)<first
 · rw [bad (by unfold zb1;simp [p3])]
   refine goS (nn p1 (nn p2 p3)) ?_
   (refine zg1 (nn p1 (nn p2 p3)) ((zh3 p d).q hs) ?_;(repeat' (with_reducible apply Br.mk<;>intro _)))
   exact Fin.eq rfl ⟨rfl,_,⟨rfl,rfl⟩,hs⟩
 have ht:((d.cs.length:Int) - first).tdiv 2=((d.cs.length:Int) - first) / 2:=Int.tdiv_eq_ediv_of_nonneg (by omega)
 by_cases p4:((d.cs.length:Int) - first) / 2<n
 · rw [bad (by unfold zb1;simp [p4])]
   refine goS (nn p1 (nn p2 (nn p3 (nn p4 ht)))) ?_
   (refine zg1 (nn p1 (nn p2 (nn p3 (nn p4 ht)))) ((zh3 p d).q hs) ?_;(repeat' (with_reducible apply Br.mk<;>intro _)))
   exact Fin.eq rfl ⟨rfl,_,⟨rfl,rfl⟩,hs⟩
 have hp:zb1 d first n=true:=by unfold zb1;simp [p1,p2,p3,p4]
 obtain ⟨q1,q2,q3⟩:=zgk hp
 obtain ⟨m,rfl⟩:∃ m:Nat,n=m:=⟨n.toNat,by omega⟩
 refine goS (nn p1 (nn p2 (nn p3 (nn p4 ht)))) ?_
 (refine zg1 (nn p1 (nn p2 (nn p3 (nn p4 ht)))) ((zh3 p d).q hs) ?_;(repeat' (with_reducible apply Br.mk<;>intro _)))
 refine W.loop (fun q st=>∃ (k:Nat) (G:Gh),k≤2 * m∧q=2 * m - k∧(fmtL d first k).2=0∧Sep (zp p (fmtL d first k).1::R) G ∧
  st=(E [(0,.d (.gp p 0)),(1,.d (.int .i64 first)),(31,.d (.int .i64 (2 * (m:Int)))),(32,.d (.int .i64 k))],HB [],σ,G))
  ⟨_,_,zca,0,G,by omega,rfl,rfl,hs,rfl⟩ ?_
 rintro q st ⟨k,G1,hk,rfl,hf,hs1,rfl⟩
 refine goR trivial ?_
 refine zni (fun h1=>?_) (fun h1=>?_)
 · have hk':k<2 * m:=by omega
   have hup:=(zpp hok first k (by omega)).2.2
   (refine zg1 trivial (zmd 1 (by omega) (by omega) [] (by simp)) ?_;(repeat' (with_reducible apply Br.mk<;>intro _)))
   (refine goM (zq5 p (fmtL d first k).1 (first+k) (mk1 1 []) (by omega)) (hs1) ?_)
   rintro _ _ G2 ⟨rfl,rfl⟩ hs2
   have hstep:fmtL d first (k+1)=wr (fmtL d first k).1 (first+k) (mk1 1 []):=by
    rw [fmtL,if_neg (by rw [hf];simp)]
   rw [← hstep] at hs2 ⊢
   by_cases he:(fmtL d first (k+1)).2=0
   · refine goS he ?_
     refine goR he ?_
     refine ⟨_,_,?_,zca,k+1,G2,by omega,rfl,he,hs2,rfl⟩
     omega
   · have hfin:∀ j,k+1≤j→fmtL d first j=fmtL d first (k+1):=by
      intro j hj
      induction j with
      | zero=>omega
      | succ j ih =>
       rcases Nat.lt_or_ge k j with h|h
       · rw [fmtL,if_pos (by rw [ih (by omega)];exact he),ih (by omega)]
       · have:j=k:=by omega
         rw [this]
     have hr:fmtR d first m=fmtL d first (k+1):=by
      unfold fmtR
      rw [if_neg (by rw [hp];simp),Int.toNat_natCast,hfin _ (by omega),if_pos he]
     rw [hr]
     refine goS he ?_
     refine goR he ?_
     exact Fin.eq rfl ⟨rfl,_,⟨rfl,rfl⟩,hs2⟩
 · obtain rfl:k=2 * m:=by omega
   have hup:=(zpp hok first (2 * m) (by omega)).2.2
   have hr:fmtR d first m=sy (fmtL d first (2 * m)).1:=by
    unfold fmtR
    rw [if_neg (by rw [hp];simp),Int.toNat_natCast,if_neg (by rw [hf];simp)]
   rw [hr]
   refine goR trivial ?_
   (refine goM (zu4 p (fmtL d first (2 * m)).1 (by omega)) (hs1) ?_)
   rintro _ _ G2 ⟨rfl,rfl⟩ hs2
   refine goS trivial ?_
   refine goR trivial ?_
   exact Fin.eq rfl ⟨rfl,_,⟨rfl,rfl⟩,hs2⟩
end Go.Proofs.Ytlejjdbmmdghmaa
namespace Go.Proofs.Ytlejjdbmmdghmaa
open Go Go.E2 C22
set_option maxHeartbeats 1000000
theorem zss {d:Dk} {first:Int} {k:Nat} (h:(openN d first k).2.2≠0):∀ j,k≤j→openN d first j=openN d first k:=by
 intro j hj
 induction j with
 | zero =>
  obtain rfl:k=0:=by omega
  rfl
 | succ j ih =>
  rcases Nat.lt_or_ge j k with h1|h1
  · have:k=j+1:=by omega
    rw [this]
  · rw [openN,if_pos (by rw [ih h1];exact h),ih h1]
def StA (q p:Nat) (first n:Int):As:=ze q [.gp p 0,.int .i64 first,.int .i64 n]
theorem zn5 (f:Fnd):(List.drop 65 (f.s.1.map eB++[D.int .i64 f.at']++[D.bool f.good])).head?=some (.bool f.good):=by
 rw [List.drop_left' (by rw [List.length_append,zaj];rfl)];rfl
theorem zxp (p:Nat) (d:Dk) (first n:Int) (hn:d.steps≤800000000) :
 zy Try.prog f_zz52 [.gp p 0,.int .i64 first,.int .i64 n] [zp p d] (fun r post =>
  ((zhc d first n).2.2=0∧∃ q,r=.tup [.gp q 0,.list ((zhc d first n).2.1.map eI),.int .i64 0]∧post=[StA q p first n,zp p (zhc d first n).1]) ∨
  ((zhc d first n).2.2≠0∧r=.tup [.nilP,.nilS,.int .i64 (zhc d first n).2.2]∧post=[zp p (zhc d first n).1])):=by
 refine zf fol zz52_cp fun R G σ hs=>?_
 have hok:Okd d:=by obtain ⟨_,_,_,_,h⟩:=zbi.open hs;exact h.ok
 have hmost:=hok.most
 have bad:zb1 d first n=false→zhc d first n=(d,[],1):=fun h=>by unfold zhc;rw [if_pos h]
 by_cases p1:n<1
 · rw [bad (by unfold zb1;simp [p1])]
   refine goS p1 ?_
   refine goR p1 ?_
   exact Fin.eq rfl ⟨rfl,_,.inr ⟨by simp,rfl,rfl⟩,hs⟩
 by_cases p2:first<0
 · rw [bad (by unfold zb1;simp [p2])]
   refine goS (nn p1 p2) ?_
   refine goR (nn p1 p2) ?_
   exact Fin.eq rfl ⟨rfl,_,.inr ⟨by simp,rfl,rfl⟩,hs⟩
 by_cases p3:(d.cs.length:Int)<first
 · rw [bad (by unfold zb1;simp [p3])]
   refine goS (nn p1 (nn p2 p3)) ?_
   (refine zg1 (nn p1 (nn p2 p3)) ((zh3 p d).q hs) ?_;(repeat' (with_reducible apply Br.mk<;>intro _)))
   exact Fin.eq rfl ⟨rfl,_,.inr ⟨by simp,rfl,rfl⟩,hs⟩
 have ht:((d.cs.length:Int) - first).tdiv 2=((d.cs.length:Int) - first) / 2:=Int.tdiv_eq_ediv_of_nonneg (by omega)
 by_cases p4:((d.cs.length:Int) - first) / 2<n
 · rw [bad (by unfold zb1;simp [p4])]
   refine goS (nn p1 (nn p2 (nn p3 (nn p4 ht)))) ?_
   (refine zg1 (nn p1 (nn p2 (nn p3 (nn p4 ht)))) ((zh3 p d).q hs) ?_;(repeat' (with_reducible apply Br.mk<;>intro _)))
   exact Fin.eq rfl ⟨rfl,_,.inr ⟨by simp,rfl,rfl⟩,hs⟩
 have hp:zb1 d first n=true:=by unfold zb1;simp [p1,p2,p3,p4]
 obtain ⟨q1,q2,q3⟩:=zgk hp
 obtain ⟨m,rfl⟩:∃ m:Nat,n=m:=⟨n.toNat,by omega⟩
 have hR:∀ k,k≤m→(openN d first k).2.2≠0→zhc d first m=((openN d first k).1,[],(openN d first k).2.2):=fun k hk h=>by
  unfold zhc
  rw [if_neg (by rw [hp];simp),Int.toNat_natCast,zss h m hk,if_pos h]
 refine goS (nn p1 (nn p2 (nn p3 (nn p4 ht)))) ?_
 (refine zg1 (nn p1 (nn p2 (nn p3 (nn p4 ht)))) ((zh3 p d).q hs) ?_;(repeat' (with_reducible apply Br.mk<;>intro _)))
 refine zam fun q hq=>?_
 have hs1:=Sep.new (cs:=[.gp p 0,.int .i64 first,.int .i64 (m:Int)]) hq hs
 generalize G.set q (some [.gp p 0,.int .i64 first,.int .i64 (m:Int)])=G1 at hs1 ⊢
 refine goS trivial ?_
 refine goR trivial ?_
 refine W.loop (fun z st=>∃ (k:Nat) (b12 b13:Blk) (G:Gh),k≤m∧z=m - k∧(openN d first k).2.2=0∧(openN d first k).2.1.length≤k∧Sep (zp p (openN d first k).1::ze q [.gp p 0,.int .i64 first,.int .i64 (m:Int)]::R) G ∧
  st=(E [(0,.d (.gp p 0)),(1,.d (.int .i64 first)),(9,.d (.gp q 0)),(10,.own 1 ((openN d first k).2.1.map eI)),(42,.d (.int .i64 m)),(43,.d (.int .i64 k))],HB [(12,b12),(13,b13)],σ,G))
  ⟨_,_,zt (zdr [] [12,13] rfl).symm,0,_,_,G1,by omega,rfl,rfl,by simp [openN],hs1.swap,rfl⟩ ?_
 rintro z st ⟨k,b12,b13,G2,hk,rfl,he,hll,hs2,rfl⟩
 refine goR trivial ?_
 refine zni (fun h1=>?_) (fun h1=>?_)
 · have hk':k<m:=by omega
   have hup:=zx0 hok first k (by omega)
   have hup2:=hup.2.2
   have hlen:=hup.2.1
   have hokk:=hup.1
   have hcq:=hs2.swap.get
   have hstep:openN d first (k+1)=((zj9 (openN d first k).1 first k).1,(if (zj9 (openN d first k).1 first k).2.1=true then (openN d first k).2.1++[(k:Int)] else (openN d first k).2.1),(zj9 (openN d first k).1 first k).2.2):=by
    rw [openN,if_neg (by rw [he];simp)]
   have hRk:=hR (k+1) (by omega)
   generalize hdk:(openN d first k).1=dk at *
   generalize hlk:(openN d first k).2.1=lk at *
   refine goR hcq ?_
   (refine goM (zvc p dk first m k q2 (by omega) (by omega)) (hs2) ?_)
   rintro _ _ G3 ⟨rfl,rfl⟩ hs3
   have hs3:Sep (zp p dk::ze q [.gp p 0,.int .i64 first,.int .i64 (m:Int)]::R) G3:=hs3
   have hcq3:=hs3.swap.get
   have ho1:zj9 dk first k=if (slotR dk first k).2.2≠0 then (dk,false,(slotR dk first k).2.2) else if (slotR dk first k).1.good=true then ((healR dk (slotR dk first k).1 (slotR dk first k).2.1).1,false,(healR dk (slotR dk first k).1 (slotR dk first k).2.1).2) else
    ((fmtR dk (first+2 * k) 1).1,true,(fmtR dk (first+2 * k) 1).2):=rfl
   generalize (slotR dk first k).1=best at *
   generalize (slotR dk first k).2.1=other at *
   generalize (slotR dk first k).2.2=er at *
   have kl1:=zf4 best
   have kl2:=zf4 other
   by_cases her:er=0
   · subst her
     rw [if_neg (by simp)] at ho1
     obtain ⟨bs,ba,bg⟩:=best
     cases bg
     · rw [if_neg (by simp)] at ho1
       have hkb:=zn5 ⟨bs,ba,false⟩
       rw [ho1] at hstep
       simp only [if_true] at hstep
       rw [hstep] at hRk
       refine goS (nn kl1 (nn kl2 hkb)) ?_
       refine goR (nn kl1 (nn kl2 (nn hkb hcq3))) ?_
       (refine goM (zn4 p dk (first+2 * k) 1 (by omega)) (hs3) ?_)
       rintro _ _ G4 ⟨rfl,rfl⟩ hs4
       have hs4:Sep (zp p (fmtR dk (first+2 * k) 1).1::ze q [.gp p 0,.int .i64 first,.int .i64 (m:Int)]::R) G4:=hs4
       by_cases hf:(fmtR dk (first+2 * k) 1).2=0
       · refine goS hf ?_
         refine goR hf ?_
         refine ⟨_,_,?_,zt3 (l':=[(0,.d (.gp p 0)),(1,.d (.int .i64 first)),(9,.d (.gp q 0)),(10,.own 1 ((lk++[(k:Int)]).map eI)),(42,.d (.int .i64 m)),(43,.d (.int .i64 (k+1:Nat)))]) (by rw [List.map_append];(simp -dsimp (disch:=first|omega|(simp only [go_sem];omega)) only [go_sem,seval,Nat.reduceEqDiff,Nat.reduceLeDiff]<;>((repeat' apply And.intro)<;>first|exact VLe.refl _|(apply zd2;omega)|(apply zd2;simp;done)|exact VLe.own _ _|exact VLe.nilown _|exact VLe.norm _))),k+1,_,_,G4,by omega,rfl,by rw [hstep];exact hf,by rw [hstep];simp;omega,by rw [hstep];exact hs4,by rw [hstep]⟩
         omega
       · rw [hRk hf]
         refine goS hf ?_
         refine goR hf ?_
         exact Fin.eq rfl ⟨rfl,_,.inr ⟨hf,rfl,rfl⟩,hs4.cons fun _=>Sep.tail⟩
     · rw [if_pos rfl] at ho1
       have hkb:=zn5 ⟨bs,ba,true⟩
       rw [ho1] at hstep
       simp only [Bool.false_eq_true,if_false] at hstep
       rw [hstep] at hRk
       refine goS (nn kl1 (nn kl2 hkb)) ?_
       refine goR (nn kl1 (nn kl2 (nn hkb hcq3))) ?_
       (refine goM (zvd p dk first m ⟨bs,ba,true⟩ other (by omega)) (hs3) ?_)
       rintro _ _ G4 ⟨rfl,rfl⟩ hs4
       have hs4:Sep (zp p (healR dk ⟨bs,ba,true⟩ other).1::ze q [.gp p 0,.int .i64 first,.int .i64 (m:Int)]::R) G4:=hs4
       by_cases hf:(healR dk ⟨bs,ba,true⟩ other).2=0
       · refine goS hf ?_
         refine goR hf ?_
         refine ⟨_,_,?_,zt3 (l':=[(0,.d (.gp p 0)),(1,.d (.int .i64 first)),(9,.d (.gp q 0)),(10,.own 1 (lk.map eI)),(42,.d (.int .i64 m)),(43,.d (.int .i64 (k+1:Nat)))]) (by (simp -dsimp (disch:=first|omega|(simp only [go_sem];omega)) only [go_sem,seval,Nat.reduceEqDiff,Nat.reduceLeDiff]<;>((repeat' apply And.intro)<;>first|exact VLe.refl _|(apply zd2;omega)|(apply zd2;simp;done)|exact VLe.own _ _|exact VLe.nilown _|exact VLe.norm _))),k+1,_,_,G4,by omega,rfl,by rw [hstep];exact hf,by rw [hstep];simp;omega,by rw [hstep];exact hs4,by rw [hstep]⟩
         omega
       · rw [hRk hf]
         refine goS hf ?_
         refine goR hf ?_
         exact Fin.eq rfl ⟨rfl,_,.inr ⟨hf,rfl,rfl⟩,hs4.cons fun _=>Sep.tail⟩
   · rw [if_pos her] at ho1
     rw [hstep,ho1] at hRk
     rw [hRk her]
     refine goS (nn her (nn kl1 kl2)) ?_
     refine goR (nn her (nn kl1 kl2)) ?_
     exact Fin.eq rfl ⟨rfl,_,.inr ⟨her,rfl,rfl⟩,hs3.cons fun _=>Sep.tail⟩
 · obtain rfl:k=m:=by omega
   have hr:zhc d first k=openN d first k:=by
    unfold zhc
    rw [if_neg (by rw [hp];simp),Int.toNat_natCast,if_neg (by rw [he];simp)]
   rw [hr]
   refine goR trivial ?_
   exact Fin.eq rfl ⟨rfl,_,.inl ⟨he,q,rfl,rfl⟩,hs2.swap⟩
end Go.Proofs.Ytlejjdbmmdghmaa
