/-
 Layer 22 (slots),continued: Open.
 Conditions: of each contract as it says.
-/
import Derived.Test.YtlejjdbmmdghmaaF22t
import Derived.Test.YtlejjdbmmdghmaaF22q
set_option linter.unusedSimpArgs false
namespace Go.Proofs.Ytlejjdbmmdghmaa
open Go Go.E2 C22
set_option maxHeartbeats 1000000
theorem zs9 {d:Dk} {first:Int} {k:Nat} (h:(openN d first k).2.2≠0):∀ j,k≤j→openN d first j=openN d first k:=by
 intro j hj
 induction j with
 | zero =>
  obtain rfl:k=0:=by omega
  rfl
 | succ j ih =>
  rcases Nat.lt_or_ge j k with h1|h1
  · have:k=j+1:=by omega
    rw [this]
  · rw [openN,if_pos (by rw [ih h1];exact h),ih h1]
def StA (q p:Nat) (first n:Int):As:=ze q [.gp p 0,.int .i64 first,.int .i64 n]
theorem zof (f:Fnd):(List.drop 65 (f.s.1.map eB++[D.int .i64 f.at']++[D.bool f.good])).head?=some (.bool f.good):=by
 rw [List.drop_left' (by rw [List.length_append,zaj];rfl)];rfl
theorem zyd (p:Nat) (d:Dk) (first n:Int) (hn:d.steps≤800000000) :
 zy Try.prog f_zz63 [.gp p 0,.int .i64 first,.int .i64 n] [zp p d] (fun r post =>
  ((zhf d first n).2.2=0∧∃ q,r=.tup [.gp q 0,.list ((zhf d first n).2.1.map eI),.int .i64 0]∧post=[StA q p first n,zp p (zhf d first n).1]) ∨
  ((zhf d first n).2.2≠0∧r=.tup [.nilP,.nilS,.int .i64 (zhf d first n).2.2]∧post=[zp p (zhf d first n).1])):=by
 refine zg fol zz63_cp fun R G σ hs=>?_
 have hok:Okd d:=by obtain ⟨_,_,_,_,h⟩:=zbi.open hs;exact h.ok
 have hmost:=hok.most
 have bad:zbx d first n=false→zhf d first n=(d,[],1):=fun h=>by unfold zhf;rw [if_pos h]
 by_cases p1:n<1
 · rw [bad (by unfold zbx;simp [p1])]
   refine goS p1 ?_
   refine goR p1 ?_
   exact Fin.eq rfl ⟨rfl,_,.inr ⟨by simp,rfl,rfl⟩,hs⟩
 by_cases p2:first<0
 · rw [bad (by unfold zbx;simp [p2])]
   refine goS (nn p1 p2) ?_
   refine goR (nn p1 p2) ?_
   exact Fin.eq rfl ⟨rfl,_,.inr ⟨by simp,rfl,rfl⟩,hs⟩
 by_cases p3:(d.cs.length:Int)<first
 · rw [bad (by unfold zbx;simp [p3])]
   refine goS (nn p1 (nn p2 p3)) ?_
   (refine zb1 (nn p1 (nn p2 p3)) ((zid p d).q hs) ?_;(repeat' (with_reducible apply Br.mk<;>intro _)))
   exact Fin.eq rfl ⟨rfl,_,.inr ⟨by simp,rfl,rfl⟩,hs⟩
 have ht:((d.cs.length:Int) - first).tdiv 2=((d.cs.length:Int) - first) / 2:=Int.tdiv_eq_ediv_of_nonneg (by omega)
 by_cases p4:((d.cs.length:Int) - first) / 2<n
 · rw [bad (by unfold zbx;simp [p4])]
   refine goS (nn p1 (nn p2 (nn p3 (nn p4 ht)))) ?_
   (refine zb1 (nn p1 (nn p2 (nn p3 (nn p4 ht)))) ((zid p d).q hs) ?_;(repeat' (with_reducible apply Br.mk<;>intro _)))
   exact Fin.eq rfl ⟨rfl,_,.inr ⟨by simp,rfl,rfl⟩,hs⟩
 have hp:zbx d first n=true:=by unfold zbx;simp [p1,p2,p3,p4]
 obtain ⟨q1,q2,q3⟩:=zgo hp
 obtain ⟨m,rfl⟩:∃ m:Nat,n=m:=⟨n.toNat,by omega⟩
 have hR:∀ k,k≤m→(openN d first k).2.2≠0→zhf d first m=((openN d first k).1,[],(openN d first k).2.2):=fun k hk h=>by
  unfold zhf
  rw [if_neg (by rw [hp];simp),Int.toNat_natCast,zs9 h m hk,if_pos h]
 refine goS (nn p1 (nn p2 (nn p3 (nn p4 ht)))) ?_
 (refine zb1 (nn p1 (nn p2 (nn p3 (nn p4 ht)))) ((zid p d).q hs) ?_;(repeat' (with_reducible apply Br.mk<;>intro _)))
 refine zam fun q hq=>?_
 have hs1:=Sep.new (cs:=[.gp p 0,.int .i64 first,.int .i64 (m:Int)]) hq hs
 generalize G.set q (some [.gp p 0,.int .i64 first,.int .i64 (m:Int)])=G1 at hs1 ⊢
 refine goS trivial ?_
 refine goR trivial ?_
 refine W.loop (fun z st=>∃ (k:Nat) (b12 b13:Blk) (G:Gh),k≤m∧z=m - k∧(openN d first k).2.2=0∧(openN d first k).2.1.length≤k∧Sep (zp p (openN d first k).1::ze q [.gp p 0,.int .i64 first,.int .i64 (m:Int)]::R) G ∧
  st=(E [(0,.d (.gp p 0)),(1,.d (.int .i64 first)),(9,.d (.gp q 0)),(10,.own 1 ((openN d first k).2.1.map eI)),(42,.d (.int .i64 m)),(43,.d (.int .i64 k))],HB [(12,b12),(13,b13)],σ,G))
  ⟨_,_,zt (zcx [] [12,13] rfl).symm,0,_,_,G1,by omega,rfl,rfl,by simp [openN],hs1.swap,rfl⟩ ?_
 rintro z st ⟨k,b12,b13,G2,hk,rfl,he,hll,hs2,rfl⟩
 refine goR trivial ?_
 refine zns (fun h1=>?_) (fun h1=>?_)
 · have hk':k<m:=by omega
   have hup:=zyc hok first k (by omega)
   have hup2:=hup.2.2
   have hlen:=hup.2.1
   have hokk:=hup.1
   have hcq:=hs2.swap.get
   have hstep:openN d first (k+1)=((zkc (openN d first k).1 first k).1,(if (zkc (openN d first k).1 first k).2.1=true then (openN d first k).2.1++[(k:Int)] else (openN d first k).2.1),(zkc (openN d first k).1 first k).2.2):=by
    rw [openN,if_neg (by rw [he];simp)]
   have hRk:=hR (k+1) (by omega)
   generalize hdk:(openN d first k).1=dk at *
   generalize hlk:(openN d first k).2.1=lk at *
   refine goR hcq ?_
   (refine goM (zvq p dk first m k q2 (by omega) (by omega)) (hs2) ?_)
   rintro _ _ G3 ⟨rfl,rfl⟩ hs3
   have hs3:Sep (zp p dk::ze q [.gp p 0,.int .i64 first,.int .i64 (m:Int)]::R) G3:=hs3
   have hcq3:=hs3.swap.get
   have ho1:zkc dk first k=if (slotR dk first k).2.2≠0 then (dk,false,(slotR dk first k).2.2) else if (slotR dk first k).1.good=true then ((healR dk (slotR dk first k).1 (slotR dk first k).2.1).1,false,(healR dk (slotR dk first k).1 (slotR dk first k).2.1).2) else
    ((fmtR dk (first+2 * k) 1).1,true,(fmtR dk (first+2 * k) 1).2):=rfl
   generalize (slotR dk first k).1=best at *
   generalize (slotR dk first k).2.1=other at *
   generalize (slotR dk first k).2.2=er at *
   have kl1:=zf9 best
   have kl2:=zf9 other
   by_cases her:er=0
   · subst her
     rw [if_neg (by simp)] at ho1
     obtain ⟨bs,ba,bg⟩:=best
     cases bg
     · rw [if_neg (by simp)] at ho1
       have hkb:=zof ⟨bs,ba,false⟩
       rw [ho1] at hstep
       simp only [if_true] at hstep
       rw [hstep] at hRk
       refine goS (nn kl1 (nn kl2 hkb)) ?_
       refine goR (nn kl1 (nn kl2 (nn hkb hcq3))) ?_
       (refine goM (zoe p dk (first+2 * k) 1 (by omega)) (hs3) ?_)
       rintro _ _ G4 ⟨rfl,rfl⟩ hs4
       have hs4:Sep (zp p (fmtR dk (first+2 * k) 1).1::ze q [.gp p 0,.int .i64 first,.int .i64 (m:Int)]::R) G4:=hs4
       by_cases hf:(fmtR dk (first+2 * k) 1).2=0
       · refine goS hf ?_
         refine goR hf ?_
         refine ⟨_,_,?_,zuk (l':=[(0,.d (.gp p 0)),(1,.d (.int .i64 first)),(9,.d (.gp q 0)),(10,.own 1 ((lk++[(k:Int)]).map eI)),(42,.d (.int .i64 m)),(43,.d (.int .i64 (k+1:Nat)))]) (by rw [List.map_append];(simp -dsimp (disch:=first|omega|(simp only [go_sem];omega)) only [go_sem,seval,Nat.reduceEqDiff,Nat.reduceLeDiff]<;>((repeat' apply And.intro)<;>first|exact VLe.refl _|(apply zcz;omega)|(apply zcz;simp;done)|exact VLe.own _ _|exact VLe.nilown _|exact VLe.norm _))),k+1,_,_,G4,by omega,rfl,by rw [hstep];exact hf,by rw [hstep];simp;omega,by rw [hstep];exact hs4,by rw [hstep]⟩
         omega
       · rw [hRk hf]
         refine goS hf ?_
         refine goR hf ?_
         exact Fin.eq rfl ⟨rfl,_,.inr ⟨hf,rfl,rfl⟩,hs4.cons fun _=>Sep.tail⟩
     · rw [if_pos rfl] at ho1
       have hkb:=zof ⟨bs,ba,true⟩
       rw [ho1] at hstep
       simp only [Bool.false_eq_true,if_false] at hstep
       rw [hstep] at hRk
       refine goS (nn kl1 (nn kl2 hkb)) ?_
       refine goR (nn kl1 (nn kl2 (nn hkb hcq3))) ?_
       (refine goM (zvr p dk first m ⟨bs,ba,true⟩ other (by omega)) (hs3) ?_)
       rintro _ _ G4 ⟨rfl,rfl⟩ hs4
       have hs4:Sep (zp p (healR dk ⟨bs,ba,true⟩ other).1::ze q [.gp p 0,.int .i64 first,.int .i64 (m:Int)]::R) G4:=hs4
       by_cases hf:(healR dk ⟨bs,ba,true⟩ other).2=0
       · refine goS hf ?_
         refine goR hf ?_
         refine ⟨_,_,?_,zuk (l':=[(0,.d (.gp p 0)),(1,.d (.int .i64 first)),(9,.d (.gp q 0)),(10,.own 1 (lk.map eI)),(42,.d (.int .i64 m)),(43,.d (.int .i64 (k+1:Nat)))]) (by (simp -dsimp (disch:=first|omega|(simp only [go_sem];omega)) only [go_sem,seval,Nat.reduceEqDiff,Nat.reduceLeDiff]<;>((repeat' apply And.intro)<;>first|exact VLe.refl _|(apply zcz;omega)|(apply zcz;simp;done)|exact VLe.own _ _|exact VLe.nilown _|exact VLe.norm _))),k+1,_,_,G4,by omega,rfl,by rw [hstep];exact hf,by rw [hstep];simp;omega,by rw [hstep];exact hs4,by rw [hstep]⟩
         omega
       · rw [hRk hf]
         refine goS hf ?_
         refine goR hf ?_
         exact Fin.eq rfl ⟨rfl,_,.inr ⟨hf,rfl,rfl⟩,hs4.cons fun _=>Sep.tail⟩
   · rw [if_pos her] at ho1
     rw [hstep,ho1] at hRk
     rw [hRk her]
     refine goS (nn her (nn kl1 kl2)) ?_
     refine goR (nn her (nn kl1 kl2)) ?_
     exact Fin.eq rfl ⟨rfl,_,.inr ⟨her,rfl,rfl⟩,hs3.cons fun _=>Sep.tail⟩
 · obtain rfl:k=m:=by omega
   have hr:zhf d first k=openN d first k:=by
    unfold zhf
    rw [if_neg (by rw [hp];simp),Int.toNat_natCast,if_neg (by rw [he];simp)]
   rw [hr]
   refine goR trivial ?_
   exact Fin.eq rfl ⟨rfl,_,.inl ⟨he,q,rfl,rfl⟩,hs2.swap⟩
end Go.Proofs.Ytlejjdbmmdghmaa
namespace Go.Proofs.Ytlejjdbmmdghmaa
open Go Go.E2 C22
set_option maxHeartbeats 1000000
theorem zlr (q p:Nat) (d:Dk) (first n i:Int) (b:Str) (h0:0≤first) (h1:0≤i) (h2:first+2 * i+1≤1000000) (hb:b.length≤55) (hn:d.steps≤800000000) :
 zy Try.prog f_zz20 [.gp q 0,.int .i64 i,.str b] [StA q p first n,zp p d] (fun r post=>r=.d (.int .i64 (zd4 d first i b).2)∧post=[StA q p first n,zp p (zd4 d first i b).1]):=by
 refine zg fol zz20_cp fun R G σ hs=>?_
 have hok:Okd d:=by obtain ⟨_,_,_,_,h⟩:=zbi.open hs.swap;exact h.ok
 have hs:Sep (ze q [.gp p 0,.int .i64 first,.int .i64 n]::zp p d::R) G:=hs
 have hc:=hs.get
 have hch:zd4 d first i b=if (slotR d first i).2.2≠0 then (d,(slotR d first i).2.2) else
  if (healR d (slotR d first i).1 (slotR d first i).2.1).2≠0 then healR d (slotR d first i).1 (slotR d first i).2.1 else
  zkd (healR d (slotR d first i).1 (slotR d first i).2.1).1 first i (mk1 (zs6 (slotR d first i).1) b):=rfl
 rw [hch]
 refine goS trivial ?_
 (refine goX hc ?_;(repeat' (with_reducible apply Br.mk<;>intro _)))
 (refine goM (zvq p d first n i h0 h1 h2) (hs.swap) ?_)
 rintro _ _ G2 ⟨rfl,rfl⟩ hs2
 have hs2:Sep (zp p d::ze q [.gp p 0,.int .i64 first,.int .i64 n]::R) G2:=hs2
 have hc2:=hs2.swap.get
 generalize (slotR d first i).1=best at *
 generalize (slotR d first i).2.1=other at *
 generalize (slotR d first i).2.2=er at *
 have kl1:=zf9 best
 have kl2:=zf9 other
 by_cases her:er=0
 · subst her
   rw [if_neg (by simp)]
   have hup:=(zre hok (by omega) best other).2.2
   refine goS (nn kl1 kl2) ?_
   (refine goX (nn kl1 (nn kl2 hc2)) ?_;(repeat' (with_reducible apply Br.mk<;>intro _)))
   (refine goM (zvr p d first n best other (by omega)) (hs2) ?_)
   rintro _ _ G3 ⟨rfl,rfl⟩ hs3'
   have hs3:Sep (zp p (healR d best other).1::ze q [.gp p 0,.int .i64 first,.int .i64 n]::R) G3:=hs3'
   clear hs3'
   have hc3:=hs3.swap.get
   by_cases hf:(healR d best other).2=0
   · rw [if_neg (by rw [hf];simp)]
     generalize (healR d best other).1=d3 at hs3 hup ⊢
     obtain ⟨bs,ba,bg⟩:=best
     cases bg
     · have hkb:=zof ⟨bs,ba,false⟩
       have hnq:zs6 ⟨bs,ba,false⟩=1:=rfl
       rw [hnq]
       refine goS hf ?_
       (refine zb1 (nn hf (nn hkb (nn hc3 (nn kl1 kl2)))) (zml 1 (by omega) (by omega) b hb) ?_;(repeat' (with_reducible apply Br.mk<;>intro _)))
       generalize mk1 1 b=ns
       have hc2':zkd d3 first i ns=if (writeR d3 (first+2 * i+1) ns).2≠0 then writeR d3 (first+2 * i+1) ns else writeR (writeR d3 (first+2 * i+1) ns).1 (first+2 * i) ns:=rfl
       rw [hc2']
       have hok3:Okd d3:=by obtain ⟨_,_,_,_,h⟩:=zbi.open hs3;exact h.ok
       have hup3:=(zke hok3 (by omega) (first+2 * i+1) ns).2.2
       (refine goM (zeb p d3 first n (first+2 * i+1) ns (by omega)) (hs3) ?_)
       rintro _ _ G4 ⟨rfl,rfl⟩ hs4
       have hs4:Sep (zp p (writeR d3 (first+2 * i+1) ns).1::ze q [.gp p 0,.int .i64 first,.int .i64 n]::R) G4:=hs4
       have hc4:=hs4.swap.get
       by_cases hw:(writeR d3 (first+2 * i+1) ns).2=0
       · rw [if_neg (by rw [hw];simp)]
         refine goS hw ?_
         (refine goX (nn hw hc4) ?_;(repeat' (with_reducible apply Br.mk<;>intro _)))
         (refine goM (zeb p (writeR d3 (first+2 * i+1) ns).1 first n (first+2 * i) ns (by omega)) (hs4) ?_)
         rintro _ _ G5 ⟨rfl,rfl⟩ hs5
         refine goS trivial ?_
         refine goR trivial ?_
         exact Fin.eq rfl ⟨rfl,_,⟨rfl,rfl⟩,hs5.swap⟩
       · rw [if_pos hw]
         refine goS hw ?_
         (refine goX hw ?_;(repeat' (with_reducible apply Br.mk<;>intro _)))
         exact Fin.eq rfl ⟨rfl,_,⟨rfl,rfl⟩,hs4.swap⟩
     · have hkb:=zof ⟨bs,ba,true⟩
       have hnq:zs6 ⟨bs,ba,true⟩=((zch bs 0:Int)+1) % 4294967296:=rfl
       obtain ⟨nq,hnq2⟩:∃ nq:Int,nq=((zch bs 0:Int)+1) % 4294967296:=⟨_,rfl⟩
       have hw32:IntKind.u32.wrap ((zch bs 0:Int)+1)=nq:=by rw [hnq2];rfl
       have q0:0≤nq:=by omega
       have q1:nq<4294967296:=by omega
       rw [hnq,← hnq2]
       clear hnq hnq2
       refine goS hf ?_
       (refine znq (nn hf (nn hkb (nn hc3 (nn hw32 (nn kl1 kl2))))) (zdp bs 0 (by omega)) (zml nq q0 q1 b hb) ?_;(repeat' (with_reducible apply Br.mk<;>intro _)))
       generalize mk1 nq b=ns
       have hc2':zkd d3 first i ns=if (writeR d3 (first+2 * i+1) ns).2≠0 then writeR d3 (first+2 * i+1) ns else writeR (writeR d3 (first+2 * i+1) ns).1 (first+2 * i) ns:=rfl
       rw [hc2']
       have hok3:Okd d3:=by obtain ⟨_,_,_,_,h⟩:=zbi.open hs3;exact h.ok
       have hup3:=(zke hok3 (by omega) (first+2 * i+1) ns).2.2
       (refine goM (zeb p d3 first n (first+2 * i+1) ns (by omega)) (hs3) ?_)
       rintro _ _ G4 ⟨rfl,rfl⟩ hs4
       have hs4:Sep (zp p (writeR d3 (first+2 * i+1) ns).1::ze q [.gp p 0,.int .i64 first,.int .i64 n]::R) G4:=hs4
       have hc4:=hs4.swap.get
       by_cases hw:(writeR d3 (first+2 * i+1) ns).2=0
       · rw [if_neg (by rw [hw];simp)]
         refine goS hw ?_
         (refine goX (nn hw hc4) ?_;(repeat' (with_reducible apply Br.mk<;>intro _)))
         (refine goM (zeb p (writeR d3 (first+2 * i+1) ns).1 first n (first+2 * i) ns (by omega)) (hs4) ?_)
         rintro _ _ G5 ⟨rfl,rfl⟩ hs5
         refine goS trivial ?_
         refine goR trivial ?_
         exact Fin.eq rfl ⟨rfl,_,⟨rfl,rfl⟩,hs5.swap⟩
       · rw [if_pos hw]
         refine goS hw ?_
         (refine goX hw ?_;(repeat' (with_reducible apply Br.mk<;>intro _)))
         exact Fin.eq rfl ⟨rfl,_,⟨rfl,rfl⟩,hs4.swap⟩
   · rw [if_pos hf]
     refine goS hf ?_
     (refine goX hf ?_;(repeat' (with_reducible apply Br.mk<;>intro _)))
     exact Fin.eq rfl ⟨rfl,_,⟨rfl,rfl⟩,hs3.swap⟩
 · rw [if_pos her]
   refine goS (nn her (nn kl1 kl2)) ?_
   (refine goX (nn her (nn kl1 kl2)) ?_;(repeat' (with_reducible apply Br.mk<;>intro _)))
   exact Fin.eq rfl ⟨rfl,_,⟨rfl,rfl⟩,hs2.swap⟩
theorem z5p (q p:Nat) (d:Dk) (first n i:Int) (b:Str) (h0:0≤first) (h2:first+2 * n≤1000000) (hn:d.steps≤800000000) :
 zy Try.prog f_zz39 [.gp q 0,.int .i64 i,.str b] [StA q p first n,zp p d] (fun r post=>r=.d (.int .i64 (zya d first n i b).2)∧post=[StA q p first n,zp p (zya d first n i b).1]):=by
 refine zg fol zz39_cp fun R G σ hs=>?_
 have hc:=Sep.get (b:=q) (cs:=[.gp p 0,.int .i64 first,.int .i64 n]) hs
 by_cases p1:i<0∨n≤i∨b.length<1∨55<b.length
 · have hr:zya d first n i b=(d,1):=by unfold zya;rw [if_pos p1]
   rw [hr]
   refine goS trivial ?_
   (refine goX hc ?_;(repeat' (with_reducible apply Br.mk<;>intro _)))
   all_goals first|exact Fin.eq rfl ⟨rfl,_,⟨rfl,rfl⟩,hs⟩|(exfalso;omega)
 · have hr:zya d first n i b=zd4 d first i b:=by unfold zya;rw [if_neg p1]
   rw [hr]
   have e1:(i<0)=False:=eq_false (by omega)
   have e2:(n≤i)=False:=eq_false (by omega)
   have e3:((b.length:Int)<1)=False:=eq_false (by omega)
   have e4:(55<(b.length:Int))=False:=eq_false (by omega)
   refine goS (nn e1 (nn e2 (nn e3 e4))) ?_
   (refine goX (nn hc (nn e1 (nn e2 (nn e3 e4)))) ?_;(repeat' (with_reducible apply Br.mk<;>intro _)))
   (refine goM (zlr q p d first n i b h0 (by omega) (by omega) (by omega) hn) (hs) ?_)
   rintro _ _ G2 ⟨rfl,rfl⟩ hs2
   refine goS trivial ?_
   refine goR trivial ?_
   exact Fin.eq rfl ⟨rfl,_,⟨rfl,rfl⟩,hs2⟩
theorem z1g (q p:Nat) (d:Dk) (first n i:Int) (h0:0≤first) (h2:first+2 * n≤1000000) (hn:d.steps≤800000000) :
 zy Try.prog f_zz31 [.gp q 0,.int .i64 i] [StA q p first n,zp p d] (fun r post=>r=.d (.int .i64 (zmm d first n i).2)∧post=[StA q p first n,zp p (zmm d first n i).1]):=by
 refine zg fol zz31_cp fun R G σ hs=>?_
 have hc:=Sep.get (b:=q) (cs:=[.gp p 0,.int .i64 first,.int .i64 n]) hs
 by_cases p1:i<0∨n≤i
 · have hr:zmm d first n i=(d,1):=by unfold zmm;rw [if_pos p1]
   rw [hr]
   refine goS trivial ?_
   (refine goX hc ?_;(repeat' (with_reducible apply Br.mk<;>intro _)))
   all_goals first|exact Fin.eq rfl ⟨rfl,_,⟨rfl,rfl⟩,hs⟩|(exfalso;omega)
 · have hr:zmm d first n i=zd4 d first i []:=by unfold zmm;rw [if_neg p1]
   rw [hr]
   have e1:(i<0)=False:=eq_false (by omega)
   have e2:(n≤i)=False:=eq_false (by omega)
   refine goS (nn e1 e2) ?_
   (refine goX (nn hc (nn e1 e2)) ?_;(repeat' (with_reducible apply Br.mk<;>intro _)))
   (refine goM (zlr q p d first n i [] h0 (by omega) (by omega) (by simp) hn) (hs) ?_)
   rintro _ _ G2 ⟨rfl,rfl⟩ hs2
   refine goS trivial ?_
   refine goR trivial ?_
   exact Fin.eq rfl ⟨rfl,_,⟨rfl,rfl⟩,hs2⟩
end Go.Proofs.Ytlejjdbmmdghmaa
namespace Go.Proofs.Ytlejjdbmmdghmaa
open Go Go.E2 C22
set_option maxHeartbeats 1000000
theorem zye {s:Sec} (h:zf6 s=true):zaa s 36≤55:=by
 unfold zf6 at h
 simp only [Bool.and_eq_true,decide_eq_true_eq] at h
 exact h.2
theorem zrg {d:Dk} {a:Int} (h:(readC d a).1.good=true):zaa (readC d a).1.s 36≤55:=by
 unfold readC at h ⊢
 simp only [Bool.and_eq_true] at h
 exact zye h.2
theorem zyf {d:Dk} {first i:Int} (h:(slotR d first i).1.good=true):zaa (slotR d first i).1.s 36≤55:=by
 unfold slotR at h ⊢
 split at h
 · cases h
 · split at h
   · cases h
   · split at h
     · rename_i h1 h2 h3
       rw [if_neg h1,if_neg h2,if_pos h3]
       exact zrg h
     · rename_i h1 h2 h3
       rw [if_neg h1,if_neg h2,if_neg h3]
       exact zrg h
theorem zkf:∀ l:List UInt8,zag (l.map eB)=l.map eB
 | []=>rfl
 | a::l=>by rw [List.map_cons,z7,zkf l];rfl
theorem zvs (l:List UInt8):(l.map eB).all (zb 1)=true:=by
 rw [List.all_eq_true]
 intro x hx
 obtain ⟨b,_,rfl⟩:=List.mem_map.1 hx
 rfl
theorem zog {G:Gh} {g off len cap:Nat} {s:Sec} {x y:D} (h:G.c g=some (s.1.map eB++[x]++[y])) (hl:off+len≤64):zb2 G 1 (.gs g off len cap)=some (len,((s.1.drop off).take len).map eB):=by
 have hlen:(s.1.map eB++[x]++[y]).length=66:=by rw [List.length_append,List.length_append,zaj];rfl
 simp only [zb2,h,hlen]
 rw [if_pos (by omega),Nat.mul_one,List.append_assoc,List.drop_append_of_le_length (by rw [zaj];omega),List.take_append_of_le_length (by rw [List.length_drop,zaj];omega),List.map_take,List.map_drop]
theorem zyg (q p:Nat) (d:Dk) (X:As) (hX:∀ R G,Sep (X::R) G→Sep (zp p d::R) G) (first n i:Int) (h0:0≤first) (h2:first+2 * n≤1000000) :
 zy Try.prog f_zz38 [.gp q 0,.int .i64 i] [StA q p first n,X] (fun r post=>r=.tup [.str (getR d first n i).1,.int .i64 (getR d first n i).2]∧post=[StA q p first n,X]):=by
 refine zg fol zz38_cp fun R G σ hs=>?_
 have hs:Sep (ze q [.gp p 0,.int .i64 first,.int .i64 n]::X::R) G:=hs
 have hc:=hs.get
 by_cases p1:i<0∨n≤i
 · have hr:getR d first n i=([],1):=by unfold getR;rw [if_pos p1]
   rw [hr]
   refine goS trivial ?_
   (refine goX hc ?_;(repeat' (with_reducible apply Br.mk<;>intro _)))
   all_goals first|exact Fin.eq rfl ⟨rfl,_,⟨rfl,rfl⟩,hs⟩|(exfalso;omega)
 have e1:(i<0)=False:=eq_false (by omega)
 have e2:(n≤i)=False:=eq_false (by omega)
 have hg:getR d first n i=if (slotR d first i).2.2≠0 then ([],(slotR d first i).2.2) else if (slotR d first i).1.good=false then ([],14) else
  if zaa (slotR d first i).1.s 36=0 then ([],8) else (zgn (slotR d first i).1.s,0):=by unfold getR;rw [if_neg p1]
 have hle:=zyf (d:=d) (first:=first) (i:=i)
 rw [hg]
 refine goS (nn e1 e2) ?_
 (refine goX (nn hc (nn e1 e2)) ?_;(repeat' (with_reducible apply Br.mk<;>intro _)))
 (refine goM (zrf p d X hX first n i h0 (by omega) (by omega)) (hs.swap) ?_)
 rintro _ _ G2 ⟨rfl,rfl⟩ hs2'
 have hs2:Sep (X::ze q [.gp p 0,.int .i64 first,.int .i64 n]::R) G2:=hs2'
 clear hs2'
 generalize (slotR d first i).1=best at *
 generalize (slotR d first i).2.1=other at *
 generalize (slotR d first i).2.2=er at *
 have kl1:=zf9 best
 have kl2:=zf9 other
 refine goS (nn kl1 kl2) ?_
 refine goR (nn kl1 kl2) ?_
 refine zam fun g6 hg6=>?_
 have hs3:=Sep.new (cs:=best.s.1.map eB++[D.int .i64 best.at']++[D.bool best.good]) hg6 hs2
 have hc6:=hs3.get
 have zl:(z0.1.map eB++[D.int .i64 0,D.bool false]).length=66:=rfl
 have zd:List.drop 66 (z0.1.map eB++[D.int .i64 0,D.bool false])=[]:=rfl
 have k65:=zof best
 have b36:(List.drop 36 (best.s.1.map eB++[D.int .i64 best.at']++[D.bool best.good])).head?=some (.int .u8 (zaa best.s 36:Int)):=by
  rw [List.head?_drop,List.append_assoc,List.getElem?_append_left (by rw [zaj];decide),List.getElem?_map,List.getElem?_eq_getElem (by rw [best.s.2];decide),zh7 best.s (by decide)];rfl
 rw [List.append_assoc,List.drop_append_of_le_length (by rw [zaj];decide),← List.append_assoc] at b36
 simp only [Gh.set_c] at hc6
 by_cases her:er=0
 · subst her
   rw [if_neg (by simp)]
   obtain ⟨bs,ba,bg⟩:=best
   cases bg
   · refine goS (nn zl (nn zd (nn kl1 kl2))) ?_
     (refine goX (nn zl (nn zd (nn kl1 (nn kl2 (nn hc6 k65))))) ?_;(repeat' (with_reducible apply Br.mk<;>intro _)))
     exact Fin.eq rfl ⟨rfl,_,⟨rfl,rfl⟩,hs3.tail.swap⟩
   · rw [if_neg (by simp)]
     by_cases hz:zaa bs 36=0
     · rw [if_pos hz]
       rw [hz] at b36
       refine goS (nn zl (nn zd (nn kl1 kl2))) ?_
       (refine goX (nn zl (nn zd (nn kl1 (nn kl2 (nn hc6 (nn k65 (nn b36 hz))))))) ?_;(repeat' (with_reducible apply Br.mk<;>intro _)))
       exact Fin.eq rfl ⟨rfl,_,⟨rfl,rfl⟩,hs3.tail.swap⟩
     · rw [if_neg hz]
       have hle2:=hle rfl
       have hz':((zaa bs 36:Int)=0)=False:=eq_false (by omega)
       simp only at hle2
       refine goS (nn zl (nn zd (nn kl1 kl2))) ?_
       (refine goX (nn zl (nn zd (nn kl1 (nn kl2 (nn hc6 (nn k65 (nn b36 hz'))))))) ?_;(repeat' (with_reducible apply Br.mk<;>intro _)))
       refine zam fun g9 hg9=>?_
       have hs4:=Sep.toSl (sz:=1) (n:=0) (cap:=0) (es:=[]) (Sep.new (cs:=[]) hg9 hs3) ⟨rfl,rfl,Nat.le_refl _,Nat.zero_le _,rfl⟩
       rw [zw4]
       generalize (G2.set g6 (some (bs.1.map eB++[D.int .i64 ba]++[D.bool true]))).set g9 (some [])=G4 at hs4 ⊢
       have hc6':=hs4.tail.get
       have hmin:(4+min (zaa bs 36:Int) 28).toNat - 4=min (zaa bs 36) 28:=by omega
       refine goS hmin ?_
       refine goR (nn hc6' (nn hmin kl1)) ?_
       refine za0 (es2:=((bs.1.drop 4).take (min (zaa bs 36) 28)).map eB) (m:=min (zaa bs 36) 28) hs4.gv ?_ ?_ ?_ rfl ?_ fun x' G5 hv5 hto=>?_
       · rw [zkf];exact zog hc6' (by omega)
       · simp;omega
       · exact zvs _
       · rw [zo];simp;omega
       have hs5:=Sep.grow hs4 hto hv5
       have hc65:=hs5.tail.get
       by_cases hbig:28<zaa bs 36
       · have hbig':(28<(zaa bs 36:Int))=True:=eq_true (by omega)
         have hm2:(37+(zaa bs 36:Int) - 28).toNat - 37=zaa bs 36 - 28:=by omega
         refine goS (nn hbig' hm2) ?_
         (refine goX (nn hbig' (nn hm2 (nn hc65 kl1))) ?_;(repeat' (with_reducible apply Br.mk<;>intro _)))
         refine za0 (es2:=((bs.1.drop 37).take (zaa bs 36 - 28)).map eB) (m:=zaa bs 36 - 28) hs5.gv ?_ ?_ ?_ rfl ?_ fun x2 G6 hv6 hto6=>?_
         · rw [zkf];exact zog hc65 (by omega)
         · simp;omega
         · exact zvs _
         · rw [zo];simp;omega
         have hs6:=Sep.grow hs5 hto6 hv6
         refine goS trivial ?_
         refine goR trivial ?_
         have ev:gdD .b2s [x2] G6=some (.d (.str (zgn bs)),G6):=by
          simp only [gdD,hv6.view]
          rw [List.nil_append,← List.map_append,zkf,zfs]
          rfl
         refine zjx ev ?_
         refine goS trivial ?_
         refine goR trivial ?_
         exact Fin.eq rfl ⟨rfl,_,⟨rfl,rfl⟩,hs6.tail.tail.swap⟩
       · have hbig':(28<(zaa bs 36:Int))=False:=eq_false (by omega)
         refine goS hbig' ?_
         (refine goX hbig' ?_;(repeat' (with_reducible apply Br.mk<;>intro _)))
         have ev:gdD .b2s [x'] G5=some (.d (.str (zgn bs)),G5):=by
          have e0:zaa bs 36 - 28=0:=by omega
          simp only [gdD,hv5.view,zgn,e0,List.take_zero,List.append_nil]
          rw [List.nil_append,zkf,zfs]
          rfl
         refine zjx ev ?_
         refine goS trivial ?_
         refine goR trivial ?_
         exact Fin.eq rfl ⟨rfl,_,⟨rfl,rfl⟩,hs5.tail.tail.swap⟩
 · rw [if_pos her]
   refine goS (nn her (nn zl (nn zd (nn kl1 kl2)))) ?_
   (refine goX (nn her (nn zl (nn zd (nn kl1 kl2)))) ?_;(repeat' (with_reducible apply Br.mk<;>intro _)))
   exact Fin.eq rfl ⟨rfl,_,⟨rfl,rfl⟩,hs3.tail.swap⟩
theorem z1h (q p:Nat) (d:Dk) (first n i:Int) (h0:0≤first) (h2:first+2 * n≤1000000) :
 zy Try.prog f_zz38 [.gp q 0,.int .i64 i] [StA q p first n,zp p d] (fun r post=>r=.tup [.str (getR d first n i).1,.int .i64 (getR d first n i).2]∧post=[StA q p first n,zp p d]) :=
 zyg q p d (zp p d) (fun _ _ h=>h) first n i h0 h2
end Go.Proofs.Ytlejjdbmmdghmaa
namespace C22
structure Lv (d:Dk) (n:Int):Prop where
 ok:Okd d
 live:d.dead=false
 aft:d.after=-1
 good:∀ c∈d.cs,c.bad=false
 st:d.steps≤n
def z75 (c:Cel):Sec:=(c.op.getLast?).getD c.s
def zcl (d:Dk) (i:Nat):Sec:=z75 ((d.cs[i]?).getD zon)
section
variable {d:Dk} {n:Int}
theorem Lv.mono (h:Lv d n) {m:Int} (hm:n≤m):Lv d m:=⟨h.ok,h.live,h.aft,h.good,by have:=h.st;omega⟩
theorem Lv.rd (h:Lv d n) {i:Nat} (hi:i<d.cs.length):rd d i=(zcl d i,0):=by
 rw [z1b h.live (List.getElem?_eq_getElem hi)]
 have hg:=h.good _ (List.getElem_mem hi)
 unfold zcl z75 zoo
 rw [List.getElem?_eq_getElem hi]
 simp only [Option.getD_some]
 cases d.cs[i].op.getLast? with
 | some s=>rfl
 | none=>simp [hg]
theorem Lv.chk (h:Lv d n) {i:Nat} (hi:i<d.cs.length):chk d i=0:=by
 unfold C22.chk
 rw [if_neg (by rw [h.live];simp),if_neg (by omega)]
theorem Lv.wr (h:Lv d n) (hn:n≤900000000) {a:Nat} (ha:a<d.cs.length) (s:Sec) :
 (wr d a s).2=0∧Lv (wr d a s).1 (n+1)∧(wr d a s).1.cs.length=d.cs.length∧∀ i,zcl (wr d a s).1 i=if i=a then s else zcl d i:=by
 have hs:=h.st
 have ho:=(zys h.ok (by omega) a s).1
 have e:C22.wr d a s=({ d with steps:=d.steps+1,cs:=d.cs.modify a fun c=>{ c with op:=c.op++[s] } },0):=by
  unfold C22.wr
  rw [if_neg (by rw [h.chk ha];simp),zrc h.aft,if_neg (by simp),Int.toNat_natCast]
 rw [e] at ho ⊢
 refine ⟨rfl,⟨ho,h.live,h.aft,fun c hc=>?_,by simp only;omega⟩,by simp,fun i=>?_⟩
 · rcases zed hc with hc|⟨y,hy,rfl⟩
   · exact h.good c hc
   · exact h.good y hy
 · unfold zcl
   simp only [List.getElem?_modify]
   by_cases e1:i=a
   · subst e1
     rw [if_pos rfl,List.getElem?_eq_getElem ha]
     simp [z75]
   · rw [if_neg e1]
     cases hx:d.cs[i]? with
     | none=>rfl
     | some c=>simp [Ne.symm e1]
theorem Lv.sy (h:Lv d n) (hn:n≤900000000) :
 (sy d).2=0∧Lv (sy d).1 (n+1)∧(sy d).1.cs.length=d.cs.length∧∀ i,zcl (sy d).1 i=zcl d i:=by
 have hs:=h.st
 have ho:=(zyt h.ok (by omega)).1
 have e:C22.sy d=({ d with steps:=d.steps+1,cs:=d.cs.map syC },0):=by
  unfold C22.sy
  rw [if_neg (by rw [h.live];simp),zrc h.aft,if_neg (by simp)]
 rw [e] at ho ⊢
 refine ⟨rfl,⟨ho,h.live,h.aft,fun c hc=>?_,by simp only;omega⟩,by simp,fun i=>?_⟩
 · obtain ⟨y,hy,rfl⟩:=List.mem_map.1 hc
   unfold syC
   split
   · rfl
   · exact h.good y hy
 · unfold zcl
   simp only [List.getElem?_map]
   cases hx:d.cs[i]? with
   | none=>rfl
   | some c =>
    simp only [Option.map_some,Option.getD_some,z75,syC]
    cases hl:c.op.getLast? with
    | none=>simp [hl]
    | some s=>rfl
theorem Lv.writeR (h:Lv d n) (hn:n≤800000000) {a:Nat} (ha:a<d.cs.length) (s:Sec) :
 (writeR d a s).2=0∧Lv (writeR d a s).1 (n+2)∧(writeR d a s).1.cs.length=d.cs.length∧∀ i,zcl (writeR d a s).1 i=if i=a then s else zcl d i:=by
 obtain ⟨h1,h2,h3,h4⟩:=h.wr (by omega) ha s
 obtain ⟨g1,g2,g3,g4⟩:=h2.sy (by omega)
 unfold C22.writeR
 rw [if_neg (by rw [h1];simp)]
 exact ⟨g1,g2.mono (by omega),g3.trans h3,fun i=>by rw [g4,h4]⟩
theorem Lv.readC (h:Lv d n) {a:Nat} (ha:a<d.cs.length):readC d a=(⟨zcl d a,a,zf6 (zcl d a)⟩,0):=by
 unfold C22.readC
 rw [h.rd ha]
 simp
def fOf (d:Dk) (a:Nat):Fnd:=⟨zcl d a,a,zf6 (zcl d a)⟩
theorem Lv.slotR (h:Lv d n) {f i:Nat} (hi:f+2 * i+1<d.cs.length) :
 slotR d f i=if zf6 (zcl d (f+2 * i+1))=true∧(zf6 (zcl d (f+2 * i))=false∨zch (zcl d (f+2 * i)) 0<zch (zcl d (f+2 * i+1)) 0) then (fOf d (f+2 * i+1),fOf d (f+2 * i),0) else (fOf d (f+2 * i),fOf d (f+2 * i+1),0):=by
 have h0:=h.readC (a:=f+2 * i) (by omega)
 have h1:=h.readC (a:=f+2 * i+1) hi
 have e0:((f+2 * i:Nat):Int)=(f:Int)+2 * (i:Int):=by omega
 have e1:((f+2 * i+1:Nat):Int)=(f:Int)+2 * (i:Int)+1:=by omega
 rw [e0] at h0
 rw [e1] at h1
 unfold C22.slotR
 rw [h0,h1,if_neg (by simp),if_neg (by simp)]
 unfold fOf
 rw [e0,e1]
theorem Lv.fmtL (h:Lv d n) {f:Nat}:∀ (k:Nat),n+k≤800000000→f+k≤d.cs.length →
 (fmtL d f k).2=0∧Lv (fmtL d f k).1 (n+k)∧(fmtL d f k).1.cs.length=d.cs.length∧∀ j,zcl (fmtL d f k).1 j=if f≤j∧j<f+k then mk1 1 [] else zcl d j
 | 0,_,_=>⟨rfl,h.mono (by omega),rfl,fun j=>by rw [if_neg (by omega)];rfl⟩
 | k+1,hn,hk=>by
   obtain ⟨h1,h2,h3,h4⟩:=h.fmtL (f:=f) k (by omega) (by omega)
   unfold C22.fmtL
   rw [if_neg (by rw [h1];simp)]
   obtain ⟨g1,g2,g3,g4⟩:=h2.wr (by omega) (a:=f+k) (by omega) (mk1 1 [])
   have e:(f:Int)+(k:Int)=((f+k:Nat):Int):=by omega
   rw [e]
   refine ⟨g1,g2.mono (by omega),by omega,fun j=>?_⟩
   rw [g4,h4]
   by_cases e1:j=f+k
   · rw [if_pos e1,if_pos (by omega)]
   · rw [if_neg e1]
     by_cases e2:f≤j∧j<f+k
     · rw [if_pos e2,if_pos (by omega)]
     · rw [if_neg e2,if_neg (by omega)]
theorem Lv.fmtR (h:Lv d n) (hn:n≤700000000) {f m:Nat} (hm:1≤m) (hl:f+2 * m≤d.cs.length) :
 (fmtR d f m).2=0∧Lv (fmtR d f m).1 (n+2 * m+1)∧(fmtR d f m).1.cs.length=d.cs.length∧∀ j,zcl (fmtR d f m).1 j=if f≤j∧j<f+2 * m then mk1 1 [] else zcl d j:=by
 have hp:zbx d f m=true:=by
  unfold zbx
  simp
  omega
 have hmost:=h.ok.most
 obtain ⟨h1,h2,h3,h4⟩:=h.fmtL (f:=f) (2 * m) (by omega) hl
 obtain ⟨g1,g2,g3,g4⟩:=h2.sy (by omega)
 unfold C22.fmtR
 rw [if_neg (by rw [hp];simp),Int.toNat_natCast,if_neg (by rw [h1];simp)]
 exact ⟨g1,g2.mono (by omega),by omega,fun j=>by rw [g4,h4]⟩
end
theorem Lv.openN {d:Dk} {n:Int} (h:Lv d n) {f:Nat}:∀ (k:Nat),f+2 * k≤d.cs.length→(∀ i,i<k→zcl d (f+2 * i)=zcl d (f+2 * i+1)∧zf6 (zcl d (f+2 * i))=true)→openN d f k=(d,[],0)
 | 0,_,_=>rfl
 | k+1,hk,hg=>by
   have ih:=h.openN k (by omega) fun i hi=>hg i (by omega)
   obtain ⟨e1,e2⟩:=hg k (by omega)
   have ho:zkc d f k=(d,false,0):=by
    have hsl:C22.slotR d f k=(fOf d (f+2 * k),fOf d (f+2 * k+1),0):=by rw [h.slotR (by omega),if_neg (by rw [← e1,e2];simp)]
    have hg2:(fOf d (f+2 * k)).good=true:=e2
    unfold zkc
    rw [hsl]
    simp only [hg2,if_true]
    rw [if_neg (by simp)]
    have:C22.healR d (fOf d (f+2 * k)) (fOf d (f+2 * k+1))=(d,0):=by
     unfold C22.healR
     rw [if_pos (.inr ⟨by unfold fOf;simp only;rw [← e1];exact e2,by unfold fOf;exact e1.symm⟩)]
    rw [this]
   unfold C22.openN
   rw [ih,if_neg (by simp),ho]
   simp
end C22
