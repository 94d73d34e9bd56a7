/-
 Layer 23: the reference: headers are written;Format.
 Conditions: of each contract as it says.
-/
import Derived.Test.YtpplfpnjfjnkdaaGreatDoorJ31
import Derived.Test.YtpplfpnjfjnkdaaGreatDoorS22
set_option linter.unusedSimpArgs false
namespace Go.Proofs.YtpplfpnjfjnkdaaGreatDoor
open Go Go.E2 C22 C23 CW
set_option maxHeartbeats 16000000
theorem zxm (n:Nat) (hn:n<4294967296):zw Tryz.prog f_zz69 [eI n] (·=.d (.list ((zd8 n).map eB))):=by
 refine zh fol zz69_cp ?_
 have t1:(n:Int).tdiv 16777216=((n / 16777216:Nat):Int):=by rw [ylqQ (by omega)];omega
 have t2:(n:Int).tdiv 65536=((n / 65536:Nat):Int):=by rw [ylqQ (by omega)];omega
 have t3:(n:Int).tdiv 256=((n / 256:Nat):Int):=by rw [ylqQ (by omega)];omega
 have c1:=zhv (n / 16777216)
 have c2:=zhv (n / 65536)
 have c3:=zhv (n / 256)
 have c4:=zhv n
 have e4:(zd8 n).map eB=[eB (UInt8.ofNat (n / 16777216)),eB (UInt8.ofNat (n / 65536)),eB (UInt8.ofNat (n / 256)),eB (UInt8.ofNat n)]:=rfl
 rw [e4]
 generalize UInt8.ofNat (n / 16777216)=x1 at *
 generalize UInt8.ofNat (n / 65536)=x2 at *
 generalize UInt8.ofNat (n / 256)=x3 at *
 generalize UInt8.ofNat n=x4 at *
 refine goS trivial ?_
 (refine goX (nn t1 (nn t2 (nn t3 (nn c1 (nn c2 (nn c3 c4)))))) ?_;(repeat' (with_reducible apply Br.mk<;>intro _)))
 exact Fin.n rfl rfl
def pf (l:List UInt8) (k:Nat):List D:=(l.take k++List.replicate (64 - k) 0).map eB
theorem z2a {l:List UInt8} (h:l.length=64) {k:Nat} (hk:k≤64):(pf l k).length=64:=by simp [pf,h];omega
theorem zxn {l:List UInt8} (h:l.length=64) {k:Nat} (hk:k<64):List.take k (pf l k)++[eB (l[k]'(by omega))]++List.drop (k+1) (pf l k)=pf l (k+1):=by
 have hl:((l.take k).map eB).length=k:=by rw [yk3Q,yk4Q];omega
 unfold pf
 rw [yk6Q,ylnQ hl,List.drop_append,yk7Q (by omega),hl,List.nil_append,yldQ (by omega)]
 simp only [yk6Q,List.map_replicate,List.drop_replicate,List.map_cons,List.map_nil]
 congr 2
 omega
theorem zxo (b d:List UInt8) (hb:b.length=48) (hd:d.length=16):zw Tryz.prog f_zz51 [.list (b.map eB),eDg d] (·=.d (eS (ziu (b++d)))):=by
 refine zh fol zz51_cp ?_
 obtain ⟨d1,d2,d3,d4⟩:=z1z hd
 obtain ⟨l,hle⟩:∃ l,l=b++d:=⟨_,rfl⟩
 have hl:l.length=64:=by rw [hle,yk2Q,hb,hd]
 have ez:(zr 64 (D.int .u8 0))=pf l 0:=by simp [pf];rfl
 have hs64:(eS (ziu (b++d)))=.agg (pf l 64):=by
  show D.agg ((ziu (b++d)).1.map eB)=_
  rw [← hle,zjq hl,pf,yk1Q (by omega)];simp
 rw [hs64]
 have hg1:∀ k (h:k<b.length),eB (l[k]'(by omega))=eB b[k]:=fun k h=>by subst hle;rw [List.getElem_append_left h]
 have hg2:∀ k (h:k<d.length),eB (l[48+k]'(by omega))=eB d[k]:=fun k h=>by
  subst hle
  rw [List.getElem_append_right (by omega)]
  congr 2;omega
 clear hle
 have z64:List.drop 64 (zr 64 (D.int .u8 0))=[]:=rfl
 refine goS trivial ?_
 (refine goX (nn d1 (nn d2 (nn d3 z64))) ?_;(repeat' (with_reducible apply Br.mk<;>intro _)))
 refine W.loop (fun m st=>∃ k,k≤48∧m=48 - k ∧
  st=(E [(6,.d (eI k)),(5,.ptr 0 5 1 0),(4,.ptr 0 4 1 0),(3,.ptr 0 3 1 0),(0,.d (.list (b.map eB)))],HB [(3,⟨1,some (d.map eB)⟩),(4,⟨1,some (zr 64 (D.int .u8 0))⟩),(5,⟨1,some (pf l k)⟩)],[],noGh))
  ⟨_,_,z7 (by rw [← ez]),0,by omega,rfl,rfl⟩ ?_
 rintro m st ⟨k,hk,rfl,rfl⟩
 have hpl:=z2a hl (k:=k) (by omega)
 by_cases hk2:k=48
 case neg =>
  have hkI:((k:Int)<48)=True:=eq_true (by omega)
  have hkb:k<b.length:=by omega
  have hps:=zxn hl (k:=k) (by omega)
  rw [hg1 k hkb] at hps
  have hps2:zau (pf l k) (eB b[k]).cells (k * 1)=pf l (k+1):=by rw [ylsQ];exact hps
  have hfit:k * 1+1≤(pf l k).length:=by omega
  have ec:(eB b[k]).cells=[eB b[k]]:=rfl
  rw [ec] at hps2
  obtain ⟨c,hc⟩:∃ c,c=pf l k:=⟨_,rfl⟩
  rw [← hc] at hps2 hfit ⊢
  (refine goX (nn hkI hfit) ?_;(repeat' (with_reducible apply Br.mk<;>intro _)))
  refine ⟨_,_,?_,z7 (by rw [← hps2];rfl),k+1,by omega,rfl,rfl⟩
  omega
 subst hk2
 have hkI:(((48:Nat):Int)<48)=False:=eq_false (by decide)
 (refine goX hkI ?_;(repeat' (with_reducible apply Br.mk<;>intro _)))
 refine W.loop (fun m st=>∃ k,k≤16∧m=16 - k ∧
  st=(E [(7,.d (eI k)),(5,.ptr 0 5 1 0),(4,.ptr 0 4 1 0),(3,.ptr 0 3 1 0)],HB [(3,⟨1,some (d.map eB)⟩),(4,⟨1,some (zr 64 (D.int .u8 0))⟩),(5,⟨1,some (pf l (48+k))⟩)],[],noGh))
  ⟨_,_,z7 rfl,0,by omega,rfl,rfl⟩ ?_
 rintro m st ⟨k,hk,rfl,rfl⟩
 have hpl:=z2a hl (k:=48+k) (by omega)
 by_cases hk2:k=16
 case neg =>
  have hkI:((k:Int)<16)=True:=eq_true (by omega)
  have hkb:k<d.length:=by omega
  have hps:=zxn hl (k:=48+k) (by omega)
  rw [hg2 k hkb] at hps
  have hcg:=zm8 hkb
  have hps2:zau (pf l (48+k)) (eB d[k]).cells ((48+k) * 1)=pf l (48+(k+1)):=by rw [ylsQ];exact hps
  have hps3:zau (pf l (48+k)) [eB d[k]] ((48+k) * 1)=pf l (48+(k+1)):=hps2
  have hcg2:(List.drop (k * 1) (d.map eB)).head?=some (eB d[k]):=by rw [ylsQ,List.head?_drop,ylhQ,yliQ hkb];rfl
  have e48:(48+(k:Int)).toNat=48+k:=by omega
  have hfit:(48+k) * 1+1≤(pf l (48+k)).length:=by omega
  obtain ⟨c,hc⟩:∃ c,c=pf l (48+k):=⟨_,rfl⟩
  rw [← hc] at hps3 hfit ⊢
  (refine goX (nn hkI (nn d1 (nn hcg2 (nn e48 hfit)))) ?_;(repeat' (with_reducible apply Br.mk<;>intro _)))
  refine ⟨_,_,?_,z7 (by rw [← hps3];rfl),k+1,by omega,rfl,rfl⟩
  omega
 subst hk2
 have hkI:(((16:Nat):Int)<16)=False:=eq_false (by decide)
 have e64:48+16=64:=rfl
 rw [e64] at hpl ⊢
 have ho:(pf l 64).all D.one=true:=zbx _
 have zl:(zr 64 (D.int .u8 0)).length=64:=rfl
 generalize pf l 64=F at *
 generalize zr 64 (D.int .u8 0)=Z at *
 have ht:List.take 64 F=F:=yk1Q (by omega)
 (refine goX (nn hkI (nn hpl (nn ho (nn ht (nn zl (nn z64 lan)))))) ?_;(repeat' (with_reducible apply Br.mk<;>intro _)))
 exact Fin.eq (r:=.d (.agg F)) (goE (nn hpl (nn ho ht))) ⟨rfl,rfl,rfl⟩
theorem zt4 (g n s:Nat) (hg:g<4294967296) (hn:n<4294967296) (hs:s<1000000):zw Tryz.prog f_zz49 [eI g,eI n,eI s] (·=.d (eS (mkH g n s))):=by
 refine zh fol zz49_cp ?_
 have hm:=zsl
 have h1:=zxm g hg
 have h2:=zxm n hn
 have hbl:=zx1 g n
 have hd:=zxf (hdB g n) s (by rw [hbl];decide) hs
 have hdl:=zfv (hdB g n) s
 have hsl:=zxo (hdB g n) (zfu (hdB g n) s) hbl hdl
 have hmk:ziu (hdB g n++zfu (hdB g n) s)=mkH g n s:=rfl
 rw [hmk] at hsl
 have hxl:=zj (mkH g n s)
 have z64:List.drop 64 (zr 64 (D.int .u8 0))=[]:=rfl
 generalize mkH g n s=X at *
 generalize zfu (hdB g n) s=dg at *
 have hB:hdB g n=zft++zd8 g++zd8 n++List.replicate 32 0:=rfl
 have l1:(zd8 g).length=4:=rfl
 have l2:(zd8 n).length=4:=rfl
 have l3:zft.length=8:=rfl
 rw [hB] at hd hsl
 generalize zd8 g=x1 at *
 generalize zd8 n=x2 at *
 generalize zft=mg at *
 refine goS trivial ?_
 have hc:List.map eB mg++List.map eB x1++List.map eB x2++List.replicate 32 (D.int .u8 0)=(mg++x1++x2++List.replicate 32 0).map eB:=by
  simp only [yk6Q,List.map_replicate];rfl
 obtain ⟨B,hBe⟩:∃ B,B=mg++x1++x2++List.replicate 32 0:=⟨_,rfl⟩
 rw [← hBe] at hd hsl hc
 simp only [List.replicate] at hc
 have hdo:eDg dg=.agg (dg.map eB):=rfl
 rw [show eS X=.agg (X.1.map eB) from rfl] at hsl ⊢
 have hxo:(X.1.map eB).all D.one=true:=zbx _
 generalize X.1.map eB=XC at *
 have ht:List.take 64 XC=XC:=yk1Q (by omega)
 (repeat' (first|(with_reducible first|refine W.seq ?_|refine W.block ?_|refine W.scope ?_)|((first|(with_reducible first|refine W.reg ?_|refine W.skip ?_|refine W.exit ?_|refine W.ret ?_|refine W.ifc ?_)|(apply z1k (hm);(focus (simp -dsimp (disch:=first|omega|(simp only [go_sem];omega)) only [go_sem,seval,Nat.reduceEqDiff,Nat.reduceLeDiff]<;>rfl));rintro _ rfl)|(apply z1k (h1);(focus (simp -dsimp (disch:=first|omega|(simp only [go_sem];omega)) only [go_sem,seval,Nat.reduceEqDiff,Nat.reduceLeDiff]<;>rfl));rintro _ rfl)|(apply z1k (h2);(focus (simp -dsimp (disch:=first|omega|(simp only [go_sem];omega)) only [go_sem,seval,Nat.reduceEqDiff,Nat.reduceLeDiff]<;>rfl));rintro _ rfl)|(apply z1k (hd);(focus (simp -dsimp (disch:=first|omega|(simp only [go_sem];omega)) only [go_sem,seval,Nat.reduceEqDiff,Nat.reduceLeDiff]<;>rfl));rintro _ rfl)|(apply z1k (hsl);(focus (simp -dsimp (disch:=first|omega|(simp only [go_sem];omega)) only [go_sem,seval,Nat.reduceEqDiff,Nat.reduceLeDiff]<;>rfl));rintro _ rfl)|((with_reducible first|refine zbo (fun _ hG=>?_) (fun _ hG=>?_)|refine za1 (fun _ hG=>?_) (fun _ hG=>?_))<;>(try simp -dsimp only [hG,decide_true,decide_false,not_true_eq_false,not_false_eq_true])<;>clear hG))<;>(try simp -dsimp (disch:=first|omega|(simp only [go_sem];omega)) only [go_sem,seval,Nat.reduceEqDiff,Nat.reduceLeDiff,hxl,hxo,ht,z64,l1,l2,l3,hc]))|simp -dsimp (disch:=first|omega|(simp only [go_sem];omega)) only [go_sem,seval,Nat.reduceEqDiff,Nat.reduceLeDiff,hxl,hxo,ht,z64,l1,l2,l3,hc]))
 exact Fin.eq (r:=.d (.agg XC)) (goE (nn hxl (nn hxo ht))) ⟨rfl,rfl,rfl⟩
theorem zso (p:Nat) (d:Dk) (at_:Int) (s:Sec) (hn:d.steps≤999999990) (h1:0≤at_∧at_<1000000):zaq Tryz.prog f_zz60 [.gp p 0,eI at_,eS s] [zd2 p d] (fun r post=>r=.d (eI (wr2 d at_ s).2)∧post=[zd2 p (wr2 d at_ s).1]):=by
 refine zu fol zz60_cp fun R G σ hs=>?_
 have hs:Sep (zd2 p d::R) G:=hs
 have hss:=zj s
 have hok:Okd d:=by obtain ⟨cb,cap,hd⟩:=zil.open hs;exact hd.ok
 refine goS trivial ?_
 (refine goX hss ?_;(repeat' (with_reducible apply Br.mk<;>intro _)))
 (refine goM (zo0 p d at_ s (by omega)) (hs) ?_)
 rintro _ _ G2 ⟨rfl,rfl⟩ hs2
 by_cases c:(wr d at_ s).2=0
 · have c1:=eq_true c
   have e:wr2 d at_ s=wr (wr d at_ s).1 (at_+1) s:=if_neg (fun h=>h c)
   have hst:=(wr_ok hok (by omega) at_ s).2
   rw [e]
   refine goS trivial ?_
   (refine goX (nn hss c1) ?_;(repeat' (with_reducible apply Br.mk<;>intro _)))
   (refine goM (zo0 p (wr d at_ s).1 (at_+1) s (by omega)) (hs2) ?_)
   rintro _ _ G3 ⟨rfl,rfl⟩ hs3
   refine goS trivial ?_
   (refine goX trivial ?_;(repeat' (with_reducible apply Br.mk<;>intro _)))
   exact Fin.eq rfl ⟨rfl,_,⟨rfl,rfl⟩,hs3⟩
 · have c1:=eq_false c
   have e:wr2 d at_ s=wr d at_ s:=if_pos c
   rw [e]
   refine goS trivial ?_
   (refine goX c1 ?_;(repeat' (with_reducible apply Br.mk<;>intro _)))
   exact Fin.eq rfl ⟨rfl,_,⟨rfl,rfl⟩,hs2⟩
end Go.Proofs.YtpplfpnjfjnkdaaGreatDoor
namespace Go.Proofs.YtpplfpnjfjnkdaaGreatDoor
open Go Go.E2 C22 C23 CW
set_option maxHeartbeats 16000000
theorem zxp {p:Nat} {d:Dk} {R:List As} {G:Gh} (hs:Sep (zd2 p d::R) G):Okd d:=by obtain ⟨cb,cap,hd⟩:=zil.open hs;exact hd.ok
theorem zt5 (p:Nat) (d:Dk) (first n:Int) (hn:d.steps≤999990000):zaq Tryz.prog f_zz48 [.gp p 0,eI first,eI n] [zd2 p d] (fun r post=>r=.d (eI (fmt d first n).2)∧post=[zd2 p (fmt d first n).1]):=by
 refine zu fol zz48_cp fun R G σ hs=>?_
 have hs:Sep (zd2 p d::R) G:=hs
 have hok:=zxp hs
 have hm:=hok.most
 by_cases h0:za9 d first n=0
 case neg =>
  have hf:fmt d first n=(d,za9 d first n):=if_pos h0
  rw [hf]
  have h0':=eq_false h0
  have hfd:=(zna p d first n).q hs
  rw [if_neg h0] at hfd
  generalize za9 d first n=e at *
  refine goS trivial ?_
  (refine zb7 h0' (hfd) ?_;(repeat' (with_reducible apply Br.mk<;>intro _)))
  exact Fin.eq rfl ⟨rfl,_,⟨rfl,rfl⟩,hs⟩
 obtain ⟨g1,g2,g3,g4⟩:=zeh h0
 obtain ⟨half,hhalf⟩:∃ half:Nat,half=(n / 2).toNat:=⟨_,rfl⟩
 have hhi:n / 2=(half:Int):=by omega
 have hf1:fmt d first n=if 4294967295<zz d first half then (d,2) else
  if (wr2 d first (mkH 1 (zz d first half) 0)).2≠0 then ((wr2 d first (mkH 1 (zz d first half) 0)).1,12) else
  if (wr2 (wr2 d first (mkH 1 (zz d first half) 0)).1 (first+half) z0).2≠0 then ((wr2 (wr2 d first (mkH 1 (zz d first half) 0)).1 (first+half) z0).1,12) else
  sy (wr2 (wr2 d first (mkH 1 (zz d first half) 0)).1 (first+half) z0).1:=by
  unfold fmt
  rw [if_neg (fun h=>h h0),← hhalf,hhi]
 have hfd:=(zna p d first n).q hs
 rw [if_pos h0,h0,hhi] at hfd
 have hbe:=(zmd p d first half 0 0 0 [] 0 .nilS (.inl rfl) (by omega) (by omega)).q hs
 have hbl:=zh3 d first half
 generalize zz d first half=ses at *
 unfold eRJ at hfd hbe
 by_cases h5:4294967295<ses
 · rw [if_pos h5] at hf1
   rw [hf1]
   have h5':(4294967295<(ses:Int))=True:=eq_true (by omega)
   refine goS trivial ?_
   (refine zgi h5' (hfd) (hbe) ?_;(repeat' (with_reducible apply Br.mk<;>intro _)))
   exact Fin.eq rfl ⟨rfl,_,⟨rfl,rfl⟩,hs⟩
 rw [if_neg h5] at hf1
 have h5':(4294967295<(ses:Int))=False:=eq_false (by omega)
 have hh0:=zpd p first half 0 0 0 [] 0 .nilS 0 (.inl rfl) (by omega) (by omega) (.inl rfl)
 have hh1:=zpd p first half 0 0 0 [] 0 .nilS 1 (.inl rfl) (by omega) (by omega) (.inr rfl)
 have e0:first+((0:Nat):Int) * (half:Int)=first:=by omega
 have e1:first+((1:Nat):Int) * (half:Int)=first+half:=by omega
 rw [e0] at hh0
 rw [e1] at hh1
 unfold eRJ at hh0 hh1
 have hsec:=zt4 1 ses 0 (by decide) (by omega) (by decide)
 obtain ⟨x,hx⟩:∃ x,x=mkH 1 ses 0:=⟨_,rfl⟩
 rw [← hx] at hsec hf1
 have hw1:=zsw hok (by omega) first x
 obtain ⟨w1,hw1e⟩:∃ w,w=wr2 d first x:=⟨_,rfl⟩
 rw [← hw1e] at hf1 hw1
 have hb1:=zso p d first x (by omega) (by omega)
 rw [← hw1e] at hb1
 have hxl:=zj x
 refine goS trivial ?_
 (refine zuj (nn h5' hxl) (hfd) (hbe) (hh0) (hsec) ?_;(repeat' (with_reducible apply Br.mk<;>intro _)))
 (refine goM (hb1) (hs) ?_)
 rintro _ _ G3 ⟨rfl,rfl⟩ hs3
 by_cases h6:w1.2=0
 case neg =>
  rw [if_pos h6] at hf1
  rw [hf1]
  have h6':=eq_false h6
  refine goS h6' ?_
  (refine goX h6' ?_;(repeat' (with_reducible apply Br.mk<;>intro _)))
  exact Fin.eq rfl ⟨rfl,_,⟨rfl,rfl⟩,hs3⟩
 rw [if_neg (fun h=>h h6)] at hf1
 have h6':=eq_true h6
 have ez:(zr 64 (D.int .u8 0))=z0.1.map eB:=rfl
 have hz0:=zj z0
 have hb2:=zso p w1.1 (first+half) z0 (by omega) (by omega)
 have hw2:=zsw hw1.1 (by omega) (first+half) z0
 obtain ⟨w2,hw2e⟩:∃ w,w=wr2 w1.1 (first+half) z0:=⟨_,rfl⟩
 rw [← hw2e] at hf1 hb2 hw2
 have hb2':zaq Tryz.prog f_zz60 [.gp p 0,eI (first+half),.agg (zr 64 (D.int .u8 0))] [zd2 p w1.1] (fun r post=>r=.d (eI w2.2)∧post=[zd2 p w2.1]):=hb2
 refine goS h6' ?_
 (refine zb7 h6' (hh1) ?_;(repeat' (with_reducible apply Br.mk<;>intro _)))
 (refine goM (hb2') (hs3) ?_)
 rintro _ _ G4 ⟨rfl,rfl⟩ hs4
 by_cases h7:w2.2=0
 case neg =>
  rw [if_pos h7] at hf1
  rw [hf1]
  have h7':=eq_false h7
  refine goS h7' ?_
  (refine goX h7' ?_;(repeat' (with_reducible apply Br.mk<;>intro _)))
  exact Fin.eq rfl ⟨rfl,_,⟨rfl,rfl⟩,hs4⟩
 rw [if_neg (fun h=>h h7)] at hf1
 rw [hf1]
 have h7':=eq_true h7
 refine goS h7' ?_
 (refine goX h7' ?_;(repeat' (with_reducible apply Br.mk<;>intro _)))
 (refine goM (zse p w2.1 (by omega)) (hs4) ?_)
 rintro _ _ G5 ⟨rfl,rfl⟩ hs5
 refine goS trivial ?_
 (refine goX trivial ?_;(repeat' (with_reducible apply Br.mk<;>intro _)))
 exact Fin.eq rfl ⟨rfl,_,⟨rfl,rfl⟩,hs5⟩
end Go.Proofs.YtpplfpnjfjnkdaaGreatDoor
namespace Go.Proofs.YtpplfpnjfjnkdaaGreatDoor
open Go Go.E2 C22 C23 CW
set_option maxHeartbeats 16000000
theorem z9l:isF z0 0 0=false:=by decide +kernel
theorem zt6 (p:Nat) (d:Dk) (first:Int) (half:Nat) (g ses:Nat) (ch:List UInt8) (used:Nat) (L:D) (hL:NL L) (h1:0≤first∧first<1000000) (h2:4≤half∧half<1000000) (hz:∀ k:Nat,k<2→rd d (first+2+k)=(z0,0)) :
 ze1 Tryz.prog f_zz4 [eRJ p first half 0 g ses ch used L,eI 0,.str ch,.bool true] [zd2 p d] (·=.tup [eS z0,.bool false]):=by
 refine zap fol zz4_cp fun R G σ hs=>?_
 have hat:=zpd p first half 0 g ses ch used L 0 hL h1 (by omega) (.inl rfl)
 have ha:first+((0:Nat):Int) * (half:Int)=first:=by omega
 rw [ha] at hat
 obtain ⟨jc,hjc⟩:∃ jc,eRJ p first half 0 g ses ch used L=.agg jc:=⟨_,rfl⟩
 have hj0:jc.head?=some (.gp p 0):=by
  have:jc=(eRJ p first half 0 g ses ch used L).cells:=by rw [hjc];rfl
  rw [this];rfl
 have hj3:(List.drop 3 jc).head?=some (eI 0):=by
  have:jc=(eRJ p first half 0 g ses ch used L).cells:=by rw [hjc];rfl
  rw [this];rfl
 have hjl:jc.length=9:=by
  have:jc=(eRJ p first half 0 g ses ch used L).cells:=by rw [hjc];rfl
  rw [this];rfl
 have hja:jc.all D.one=true:=by
  have:jc=(eRJ p first half 0 g ses ch used L).cells:=by rw [hjc];rfl
  rw [this];rcases hL with rfl|⟨es,rfl⟩<;>rfl
 have hjt:List.take 9 jc=jc:=yk1Q (by omega)
 rw [hjc] at hat ⊢
 have ezr:zr 64 (D.int .u8 0)=z0.1.map eB:=rfl
 have zl:=zj z0
 have zo:(z0.1.map eB).all D.one=true:=zbx _
 have zt:List.take 64 (z0.1.map eB)=z0.1.map eB:=yk1Q (by omega)
 have zd:List.drop 64 (z0.1.map eB)=[]:=yk7Q (by omega)
 rw [show (eS z0)=.agg (z0.1.map eB) from rfl]
 have hH:=zhy z0 0 0 (by decide) (by decide)
 rw [z9l] at hH
 have z65:List.drop 65 (zr 64 (D.int .u8 0)++[D.int .i64 0])=[]:=rfl
 obtain ⟨GC,hGC⟩:∃ GC,GC=z0.1.map eB++[D.int .i64 0]:=⟨_,rfl⟩
 have g1:GC.length=65:=by rw [hGC,yk2Q,zl];rfl
 have g2:GC.all D.one=true:=by rw [hGC,ylmQ,zbx];rfl
 have g3:(List.drop 64 GC).head?=some (.int .i64 0):=by rw [hGC,yloQ zl];rfl
 have g4:List.take 64 GC=z0.1.map eB:=by rw [hGC,ylnQ zl]
 have g5:List.take 65 GC=GC:=yk1Q (by omega)
 have g24:(List.drop 24 GC).head?=some (.int .u8 0):=by rw [hGC];rfl
 have hread:∀ k:Nat,k<2→zld Tryz.prog f_zz27 [.gp p 0,eI (first+2+0+k)] G (·=.d (.agg GC)):=fun k hk=>by
  have:=(zm7 p d (first+2+0+k)).q hs
  rw [show first+2+0+(k:Int)=first+2+k by omega] at this ⊢
  rw [hz k hk] at this
  rw [hGC];exact this
 clear hGC
 have hSe:eS z0=.agg (z0.1.map eB):=rfl
 rw [hSe] at hH
 generalize z0.1.map eB=Z at *
 refine goS trivial ?_
 (refine goX (nn hja (nn hjl (nn zl (nn zo (nn ezr (nn zd lan)))))) ?_;(repeat' (with_reducible apply Br.mk<;>intro _)))
 refine W.loop (fun m st=>∃ (k:Nat) (b13:Blk),k≤2∧m=2 - k ∧
  st=(E [(12,.d (eI k)),(11,.d (.bool false)),(10,.ptr 0 10 1 0),(8,.ptr 0 8 1 0),(4,.ptr 0 4 1 0),(1,.d (eI 0)),(2,.d (.str ch)),(3,.d (.bool true))],HB [(4,⟨1,some jc⟩),(8,⟨1,some Z⟩),(10,⟨1,some Z⟩),(13,b13)],σ,G))
  ⟨_,_,z7 (zkd [(4,⟨1,some jc⟩),(8,⟨1,some Z⟩),(10,⟨1,some Z⟩)] [13] rfl).symm,0,⟨0,none⟩,by omega,rfl,rfl⟩ ?_
 rintro m st ⟨k,b13,hk,rfl,rfl⟩
 by_cases hk2:k=2
 · subst hk2
   have hkI:(((2:Nat):Int)<2)=False:=eq_false (by decide)
   (refine goX (nn hkI (nn zl (nn zo (nn zt (nn zd lan))))) ?_;(repeat' (with_reducible apply Br.mk<;>intro _)))
   exact Fin.eq (r:=.tup [.agg Z,.bool false]) (goE (nn zl (nn zo zt))) ⟨rfl,rfl,rfl⟩
 have hkI:((k:Int)<2)=True:=eq_true (by omega)
 have hread:=hread k (by omega)
 (refine zla (nn hkI (nn hja (nn hjl (nn hjt (nn hj0 (nn hj3 (nn g1 (nn g2 (nn g3 (nn g4 (nn g5 (nn g24 (nn z65 lan))))))))))))) (hat) (hread) (hH) ?_;(repeat' (with_reducible apply Br.mk<;>intro _)))
 refine ⟨_,_,?_,z7 rfl,k+1,_,by omega,rfl,rfl⟩
 omega
theorem z0l (p:Nat) (d:Dk) (first:Int) (half:Nat) (g ses:Nat) (ch:List UInt8) (used:Nat) (L:D) (hL:NL L) (h1:0≤first∧first<1000000) (h2:4≤half∧half<1000000) (hz:∀ k:Nat,k<2→rd d (first+2+k)=(z0,0)) :
 ze1 Tryz.prog f_zz10 [eRJ p first half 0 g ses ch used L] [zd2 p d] (·=.d (eRJ p first half 0 g ses ch used L)):=by
 refine zap fol zz10_cp fun R G σ hs=>?_
 have hsl:=zpe p first half 0 g ses ch used L hL h2
 have hlk:=(zt6 p d first half g ses ch used L hL h1 h2 hz).q hs
 obtain ⟨jc,hjc⟩:∃ jc,eRJ p first half 0 g ses ch used L=.agg jc:=⟨_,rfl⟩
 have hj6:(List.drop 6 jc).head?=some (.str ch):=by
  have:jc=(eRJ p first half 0 g ses ch used L).cells:=by rw [hjc];rfl
  rw [this];rfl
 have hjl:jc.length=9:=by
  have:jc=(eRJ p first half 0 g ses ch used L).cells:=by rw [hjc];rfl
  rw [this];rfl
 have hja:jc.all D.one=true:=by
  have:jc=(eRJ p first half 0 g ses ch used L).cells:=by rw [hjc];rfl
  rw [this];rcases hL with rfl|⟨es,rfl⟩<;>rfl
 have hjt:List.take 9 jc=jc:=yk1Q (by omega)
 have zl:=zj z0
 rw [hjc] at hsl hlk ⊢
 (refine goX (nn hja (nn hjl hj6)) ?_;(repeat' (with_reducible apply Br.mk<;>intro _)))
 refine W.loop (fun m st=>m=0∧st=(E [(6,.d (eI 0)),(5,.d (.bool true)),(4,.d (.str [])),(3,.d (.str ch)),(2,.ptr 0 2 1 0),(1,.ptr 0 1 1 0)],HB [(1,⟨1,some jc⟩),(2,⟨1,some [.nilP,eI 0,eI 0,eI 0,eI 0,eI 0,.str [],eI 0,.nilS]⟩)],σ,G))
  ⟨_,_,z7 rfl,rfl,rfl⟩ ?_
 rintro m st ⟨rfl,rfl⟩
 have hkI:(0<((half / 2 - 1:Nat):Int))=True:=eq_true (by omega)
 generalize half / 2 - 1=q at *
 (refine zgi (nn hkI (nn hja (nn hjl (nn hjt zl)))) (hsl) (hlk) ?_;(repeat' (with_reducible apply Br.mk<;>intro _)))
 exact Fin.eq (r:=.d (.agg jc)) (goE (nn hjl (nn hja hjt))) ⟨rfl,rfl,rfl⟩
end Go.Proofs.YtpplfpnjfjnkdaaGreatDoor
namespace Go.Proofs.YtpplfpnjfjnkdaaGreatDoor
open Go Go.E2 C22 C23 CW
set_option maxHeartbeats 16000000
def noJ:List D:=[.nilP,eI 0,eI 0,eI 0,eI 0,eI 0,.str [],eI 0,.nilS]
theorem zpf (p:Nat) (d:Dk) (first n:Int) (hX:za9 d first n=0→(z1 (hds d first 0)=none∧z1 (hds d (first+(n / 2).toNat) 1)=none) ∨
 (∃ b0:Nat,z1 (hds d first 0)=some ⟨1,b0⟩∧z1 (hds d (first+(n / 2).toNat) 1)=none∧zz d first (n / 2).toNat≤4294967295∧∀ k:Nat,k<2→rd d (first+2+k)=(z0,0))):ze1 Tryz.prog f_zz67 [.gp p 0,eI first,eI n] [zd2 p d] (fun r=>∃ J:List D,J.length=9∧J.all D.one=true∧r=.d (.agg (J++[eI (zg3 d first n)]))):=by
 refine zap fol zz67_cp fun R G σ hs=>?_
 have hs2:Sep (zd2 p d::R) G:=hs
 have hok:=zxp hs2
 have hm:=hok.most
 have hfd:=(zna p d first n).q hs2
 by_cases h0:za9 d first n=0
 case neg =>
  have ho:zg3 d first n=za9 d first n:=if_pos h0
  rw [ho]
  have h0':=eq_false h0
  rw [if_neg h0] at hfd
  generalize za9 d first n=e at *
  refine goS trivial ?_
  (refine zb7 h0' (hfd) ?_;(repeat' (with_reducible apply Br.mk<;>intro _)))
  exact Fin.eq (r:=.d (.agg (noJ++[eI e]))) rfl ⟨rfl,rfl,noJ,rfl,rfl,rfl⟩
 obtain ⟨g1,g2,g3,g4⟩:=zeh h0
 obtain ⟨half,hhalf⟩:∃ half:Nat,half=(n / 2).toNat:=⟨_,rfl⟩
 have hhi:n / 2=(half:Int):=by omega
 rw [if_pos h0,h0,hhi] at hfd
 have ho:zg3 d first n=if z1 (hds d first 0)=none∧z1 (hds d (first+half) 1)=none then 14 else if 4294967295<zz d first half then 2 else 0:=by
  unfold zg3
  rw [if_neg (fun h=>h h0),← hhalf]
 have hX:=hX h0
 rw [← hhalf] at hX
 have ha:=zge p d first half 0 0 0 [] 0 .nilS 0 (.inl rfl) (by omega) (by omega) (.inl rfl)
 have hb:=zge p d first half 0 0 0 [] 0 .nilS 1 (.inl rfl) (by omega) (by omega) (.inr rfl)
 have hbe:=(zmd p d first half 0 0 0 [] 0 .nilS (.inl rfl) (by omega) (by omega)).q hs2
 have e0:first+((0:Nat):Int) * (half:Int)=first:=by omega
 have e1:first+((1:Nat):Int) * (half:Int)=first+half:=by omega
 rw [e0] at ha
 rw [e1] at hb
 have hzl:([D.bool false]++zr 64 (.int .u8 0)++[D.int .i64 0,.int .i64 0,.int .i64 0]).length=68:=rfl
 have hzd:List.drop 68 ([D.bool false]++zr 64 (.int .u8 0)++[D.int .i64 0,.int .i64 0,.int .i64 0])=[]:=rfl
 unfold eRJ at hfd ha hb hbe
 obtain ⟨n0,hn0⟩:∃ m,m=most ((hds d first 0).map (·.n)):=⟨_,rfl⟩
 obtain ⟨n1,hn1⟩:∃ m,m=most ((hds d (first+half) 1).map (·.n)):=⟨_,rfl⟩
 rw [← hn0] at ha
 rw [← hn1] at hb
 rcases hX with ⟨q0,q1⟩|⟨b0,q0,q1,hB,hz⟩
 · rw [if_pos ⟨q0,q1⟩] at ho
   rw [ho]
   rw [q0] at ha
   rw [q1] at hb
   refine goS trivial ?_
   (refine zb7 trivial (hfd) ?_;(repeat' (with_reducible apply Br.mk<;>intro _)))
   refine zi5 (xs:=[.agg [D.gp p 0,eI first,eI half,eN 0,eN 0,eN 0,D.str [],eN 0,D.nilS],eI ((0:Nat):Int)]) (Q:=fun r G'=>G'=G∧∃ S,r=.d (.agg (FDc false S 0 0 n0))) (fun σ=>(ha.q hs2 σ).mono fun r σ' G' ⟨a,b,c⟩=>⟨a,b,c⟩) (fun _ _ h=>by rw [h.1];exact zez.refl _) goD goD ?_
   rintro _ G2 ⟨hG2,S1,rfl⟩
   rw [hG2]
   have l0:=zcr false S1 0 0 n0
   have o0:=zfq false S1 0 0 n0
   have r0:=(zd4 false S1 0 0 n0).1
   generalize FDc false S1 0 0 n0=F0 at *
   have t0:List.take 68 F0=F0:=yk1Q (by omega)
   refine goS (nn l0 (nn o0 t0)) ?_
   (refine goX (nn l0 (nn o0 (nn t0 (nn hzl hzd)))) ?_;(repeat' (with_reducible apply Br.mk<;>intro _)))
   refine zi5 (xs:=[.agg [D.gp p 0,eI first,eI half,eN 0,eN 0,eN 0,D.str [],eN 0,D.nilS],eI ((1:Nat):Int)]) (Q:=fun r G'=>G'=G∧∃ S,r=.d (.agg (FDc false S 0 0 n1))) (fun σ=>(hb.q hs2 σ).mono fun r σ' G' ⟨a,b,c⟩=>⟨a,b,c⟩) (fun _ _ h=>by rw [h.1];exact zez.refl _) goD goD ?_
   rintro _ G3 ⟨hG3,S2,rfl⟩
   rw [hG3]
   have l1:=zcr false S2 0 0 n1
   have o1:=zfq false S2 0 0 n1
   have r1:=(zd4 false S2 0 0 n1).1
   generalize FDc false S2 0 0 n1=F1 at *
   have t1:List.take 68 F1=F1:=yk1Q (by omega)
   refine goS (nn l1 (nn o1 t1)) ?_
   (refine goX (nn l0 (nn o0 (nn t0 (nn l1 (nn o1 (nn t1 (nn r0 (nn r1 (nn hzl hzd))))))))) ?_;(repeat' (with_reducible apply Br.mk<;>intro _)))
   exact Fin.eq (r:=.d (.agg (noJ++[eI 14]))) rfl ⟨rfl,rfl,noJ,rfl,rfl,rfl⟩
 rw [if_neg (fun h=>by rw [h.1] at q0;cases q0),if_neg (by omega)] at ho
 rw [ho]
 rw [q0] at ha
 rw [q1] at hb
 have hsc:=fun ch=>(z0l p d first half 1 (zz d first half) ch 0 .nilS (.inl rfl) (by omega) (by omega) hz).q hs2
 unfold eRJ at hsc
 have hB':(4294967295<((zz d first half:Nat):Int))=False:=eq_false (by omega)
 generalize zz d first half=B at *
 refine goS trivial ?_
 (refine zb7 trivial (hfd) ?_;(repeat' (with_reducible apply Br.mk<;>intro _)))
 refine zi5 (xs:=[.agg [D.gp p 0,eI first,eI half,eN 0,eN 0,eN 0,D.str [],eN 0,D.nilS],eI ((0:Nat):Int)]) (Q:=fun r G'=>G'=G∧∃ S,r=.d (.agg (FDc true S 1 b0 n0))) (fun σ=>(ha.q hs2 σ).mono fun r σ' G' ⟨a,b,c⟩=>⟨a,b,c⟩) (fun _ _ h=>by rw [h.1];exact zez.refl _) goD goD ?_
 rintro _ G2 ⟨hG2,S1,rfl⟩
 rw [hG2]
 have ht:=zcq S1 48 64 (by decide) (by decide)
 have l0:=zcr true S1 1 b0 n0
 have o0:=zfq true S1 1 b0 n0
 have r0:=(zd4 true S1 1 b0 n0).1
 have r65:=(zd4 true S1 1 b0 n0).2.1
 have s0:List.take 64 (List.drop 1 (FDc true S1 1 b0 n0))=S1.1.map eB:=by
  show List.take 64 (S1.1.map eB++_)=_
  rw [ylnQ (zj S1)]
 have hsl:=zj S1
 have hso:(S1.1.map eB).all D.one=true:=zbx _
 rw [show eS S1=.agg (S1.1.map eB) from rfl] at ht
 generalize S1.1.map eB=X at *
 generalize tx S1 48 64=ch at *
 generalize FDc true S1 1 b0 n0=F0 at *
 have t0:List.take 68 F0=F0:=yk1Q (by omega)
 refine goS (nn l0 (nn o0 t0)) ?_
 (refine goX (nn l0 (nn o0 (nn t0 (nn hzl hzd)))) ?_;(repeat' (with_reducible apply Br.mk<;>intro _)))
 refine zi5 (xs:=[.agg [D.gp p 0,eI first,eI half,eN 0,eN 0,eN 0,D.str [],eN 0,D.nilS],eI ((1:Nat):Int)]) (Q:=fun r G'=>G'=G∧∃ S,r=.d (.agg (FDc false S 0 0 n1))) (fun σ=>(hb.q hs2 σ).mono fun r σ' G' ⟨a,b,c⟩=>⟨a,b,c⟩) (fun _ _ h=>by rw [h.1];exact zez.refl _) goD goD ?_
 rintro _ G3 ⟨hG3,S2,rfl⟩
 rw [hG3]
 have l1:=zcr false S2 0 0 n1
 have o1:=zfq false S2 0 0 n1
 have r1:=(zd4 false S2 0 0 n1).1
 generalize FDc false S2 0 0 n1=F1 at *
 have t1:List.take 68 F1=F1:=yk1Q (by omega)
 have hsc:=hsc ch
 refine goS (nn l1 (nn o1 t1)) ?_
 (refine zb7 (nn l0 (nn o0 (nn t0 (nn l1 (nn o1 (nn t1 (nn r0 (nn r1 (nn r65 (nn s0 (nn hsl (nn hso (nn hzl (nn hzd hB')))))))))))))) (hbe) ?_;(repeat' (with_reducible apply Br.mk<;>intro _)))
 (refine zgi (nn l0 (nn o0 (nn t0 (nn l1 (nn o1 (nn t1 (nn r0 (nn r1 (nn r65 (nn s0 (nn hsl (nn hso (nn hzl (nn hzd hB')))))))))))))) (ht) (hsc) ?_;(repeat' (with_reducible apply Br.mk<;>intro _)))
 exact Fin.eq rfl ⟨rfl,rfl,[D.gp p 0,eI first,eI half,eN 0,eN 1,eN B,D.str ch,eN 0,D.nilS],rfl,rfl,rfl⟩
end Go.Proofs.YtpplfpnjfjnkdaaGreatDoor
namespace Go.Proofs.YtpplfpnjfjnkdaaGreatDoor
open Go Go.E2 C22 C23 CW
set_option maxHeartbeats 16000000
theorem zxq (p:Nat) (d:Dk) (first n:Int):zaq Tryz.prog f_zz100 [.gp p 0,eI first,eI n] [zf p d] (fun r post=>∃ x rest,D.one x=true∧r=.tup [x,eI (zg3 d first n)]∧post=zf p d::rest):=by
 by_cases hE:zg3 d first n=0
 · refine zaq.mono (zks p d first n _ rfl hE) fun r post=>?_
   rintro ⟨j,rec,rfl,rfl⟩
   rw [hE]
   exact ⟨_,_,rfl,rfl,rfl⟩
 · refine zaq.mono (z0d p d first n hE) fun r post=>?_
   rintro ⟨rfl,rfl⟩
   exact ⟨_,_,rfl,rfl,rfl⟩
theorem zt7 (first n:Int) (c:Bool) :
 zw Tryz.prog f_zz0 [eI first,eI n,.bool c] (·=.d (.bool true)):=by
 refine zw.of_deep (zm fol zz0_cp ?_)
 have hs0:Sep ([]++[]) noGh:=trivial
 refine goS trivial ?_
 (refine goX trivial ?_;(repeat' (with_reducible apply Br.mk<;>intro _)))
 (refine goM (zwj 20 (by decide) (by decide)) (hs0) ?_)
 rintro _ _ G1 ⟨p,rfl,rfl⟩ hs1
 have hs1:Sep ([zf p (fresh 20)]++[]) G1:=hs1
 have hs1':Sep ([]++([zf p (fresh 20)]++[])) G1:=hs1
 refine goS trivial ?_
 (refine goX trivial ?_;(repeat' (with_reducible apply Br.mk<;>intro _)))
 (refine goM (z3x 20 (by decide) (by decide)) (hs1') ?_)
 rintro _ _ G2 ⟨q,rfl,rfl⟩ hs2
 have hs2:Sep ([zd2 q (fresh 20)]++([zf p (fresh 20)]++[])) G2:=hs2
 have hs2:Sep (zd2 q (fresh 20)::zf p (fresh 20)::[]) G2:=hs2
 have hs2:=hs2.swap
 have key:∀ d:Dk,d.steps≤10→(za9 d first n=0→d=fresh 20)→(za9 d first n=0→(z1 (hds d first 0)=none∧z1 (hds d (first+(n / 2).toNat) 1)=none) ∨
  (∃ b0:Nat,z1 (hds d first 0)=some ⟨1,b0⟩∧z1 (hds d (first+(n / 2).toNat) 1)=none∧zz d first (n / 2).toNat≤4294967295∧∀ k:Nat,k<2→rd d (first+2+k)=(z0,0))) ∧
  (za9 (fmt d first n).1 first n=0→(z1 (hds (fmt d first n).1 first 0)=none∧z1 (hds (fmt d first n).1 (first+(n / 2).toNat) 1)=none) ∨
  (∃ b0:Nat,z1 (hds (fmt d first n).1 first 0)=some ⟨1,b0⟩∧z1 (hds (fmt d first n).1 (first+(n / 2).toNat) 1)=none∧zz (fmt d first n).1 first (n / 2).toNat≤4294967295∧∀ k:Nat,k<2→rd (fmt d first n).1 (first+2+k)=(z0,0))):=by
  intro d _ h0
  refine ⟨fun h=>?_,fun h=>?_⟩
  · obtain rfl:=h0 h
    obtain ⟨g1,g2,g3,g4⟩:=zeh h
    have gl:(fresh 20).cs.length=20:=by simp [fresh]
    obtain ⟨f0,f1,_⟩:=zml (N:=20) (a:=first.toNat) (half:=(n / 2).toNat) (by omega) (by omega) (by decide)
    rw [show ((first.toNat:Nat):Int)=first by omega] at f0 f1
    exact .inl ⟨f0,f1⟩
  · by_cases hp:za9 d first n=0
    · obtain rfl:=h0 hp
      obtain ⟨g1,g2,g3,g4⟩:=zeh hp
      have gl:(fresh 20).cs.length=20:=by simp [fresh]
      have hF:=zuh (N:=20) (a:=first.toNat) (n:=n) rfl g1 (by omega) (by decide)
      rw [show ((first.toNat:Nat):Int)=first by omega] at hF
      exact .inr hF
    · have hf:fmt d first n=(d,za9 d first n):=if_pos hp
      rw [hf] at h
      exact absurd h hp
 obtain ⟨d0,hd0⟩:∃ d,d=fresh 20:=⟨_,rfl⟩
 have hst0:d0.steps≤10:=by rw [hd0];decide
 rw [← hd0] at hs2 key
 have hdead:∀ d:Dk,d.dead=true→za9 d first n=0→d=d0:=fun d h h2=>by
  obtain ⟨_,_,_,g4⟩:=zeh h2
  rw [h] at g4;cases g4
 cases c
 case' true =>
  refine goS trivial ?_
  (refine goX trivial ?_;(repeat' (with_reducible apply Br.mk<;>intro _)))
  (refine goM (z8q p d0 0 (by decide)) (hs2) ?_)
  rintro _ _ G3 rfl hs3
  have hs3:Sep (zf p (arm d0 0)::zd2 q d0::[]) G3:=hs3
  have hs3:=hs3.swap
  refine goS trivial ?_
  (refine goX trivial ?_;(repeat' (with_reducible apply Br.mk<;>intro _)))
  (refine goM (z3w q d0 0 (by decide)) (hs3) ?_)
  rintro _ _ G4 rfl hs4
  have hs4:Sep (zd2 q (arm d0 0)::zf p (arm d0 0)::[]) G4:=hs4
  have hs4:=hs4.swap
  refine goS trivial ?_
  (refine goX trivial ?_;(repeat' (with_reducible apply Br.mk<;>intro _)))
  (refine goM (zko p (arm d0 0) (by rw [hd0];decide)) (hs4) ?_)
  rintro _ _ G5 ⟨rfl,rfl⟩ hs5
  have hs5:Sep (zf p (sy (arm d0 0)).1::zd2 q (arm d0 0)::[]) G5:=hs5
  have hs5:=hs5.swap
  refine goS trivial ?_
  (refine goX trivial ?_;(repeat' (with_reducible apply Br.mk<;>intro _)))
  (refine goM (zse q (arm d0 0) (by rw [hd0];decide)) (hs5) ?_)
  rintro _ _ G6 ⟨rfl,rfl⟩ hs6
  have hs6:Sep (zd2 q (sy (arm d0 0)).1::zf p (sy (arm d0 0)).1::[]) G6:=hs6
  have hs6:=hs6.swap
  have hy:(sy (arm d0 0)).1.dead=true:=by rw [hd0];rfl
  have hst:(sy (arm d0 0)).1.steps≤10:=by rw [hd0];decide
  have hk:=key _ hst (hdead _ hy)
  generalize (sy (arm d0 0)).2=e at *
  generalize (sy (arm d0 0)).1=d at *
  obtain ⟨hk1,hk2⟩:=hk
 case' false =>
  have hk:=key d0 hst0 (fun _=>rfl)
  obtain ⟨hk1,hk2⟩:=hk
  have hs6:=hs2
  have hst:=hst0
  generalize d0=d at *
 all_goals
  refine goS trivial ?_
  (refine goX trivial ?_;(repeat' (with_reducible apply Br.mk<;>intro _)))
  (refine goM (zxq p d first n) (hs6) ?_)
  rintro _ _ G7 ⟨x1,rest1,hx1,rfl,rfl⟩ hs7
  have hs7:Sep (zd2 q d::(zf p d::rest1++[])) G7:=Sep.perm (List.perm_middle (l₁:=zf p d::rest1) (l₂:=[])) hs7
  have hOr:=(zpf q d first n hk1).q hs7
  refine goS trivial ?_
  (refine goX trivial ?_;(repeat' (with_reducible apply Br.mk<;>intro _)))
  refine zi5 (xs:=[.gp q 0,eI first,eI n]) (Q:=fun r G'=>G'=G7∧∃ J:List D,J.length=9∧J.all D.one=true∧r=.d (.agg (J++[eI (zg3 d first n)]))) (fun σ=>(hOr σ).mono fun r σ' G' ⟨a,b,c⟩=>⟨a,b,c⟩) (fun _ _ h=>by rw [h.1];exact zez.refl _) goD goD ?_
  rintro _ G8 ⟨hG8,J1,hJl,hJo,rfl⟩
  rw [hG8]
  have l1:(J1++[eI (zg3 d first n)]).length=10:=by rw [yk2Q,hJl];rfl
  have o1:(J1++[eI (zg3 d first n)]).all D.one=true:=by rw [ylmQ,hJo];rfl
  have r1:(List.drop 9 (J1++[eI (zg3 d first n)])).head?=some (eI (zg3 d first n)):=by rw [yloQ hJl];rfl
  generalize (J1++[eI (zg3 d first n)])=F1 at *
  have t1:List.take 10 F1=F1:=yk1Q (by omega)
  have hs8:Sep (zf p d::(rest1++(zd2 q d::[]))) G7:=Sep.perm (List.perm_middle (l₁:=zf p d::rest1) (l₂:=[])).symm hs7
  refine goS (nn l1 (nn o1 t1)) ?_
  (refine goX (nn l1 (nn o1 t1)) ?_;(repeat' (with_reducible apply Br.mk<;>intro _)))
  (refine goM (zpa p d first n (by omega)) (hs8) ?_)
  rintro _ _ G9 ⟨rfl,rfl⟩ hs9
  have hs9:Sep (zd2 q d::(zf p (fmt d first n).1::rest1++[])) G9:=Sep.perm (List.perm_middle (l₁:=zf p (fmt d first n).1::rest1) (l₂:=[])) hs9
  refine goS trivial ?_
  (refine goX trivial ?_;(repeat' (with_reducible apply Br.mk<;>intro _)))
  (refine goM (zt5 q d first n (by omega)) (hs9) ?_)
  rintro _ _ G10 ⟨rfl,rfl⟩ hs10
  have hs10:Sep (zf p (fmt d first n).1::(rest1++(zd2 q (fmt d first n).1::[]))) G10:=Sep.perm (List.perm_middle (l₁:=zf p (fmt d first n).1::rest1) (l₂:=[])).symm hs10
  generalize (fmt d first n).2=ef at *
  generalize (fmt d first n).1=d2 at *
  refine goS trivial ?_
  (refine goX trivial ?_;(repeat' (with_reducible apply Br.mk<;>intro _)))
  (refine goM (zxq p d2 first n) (hs10) ?_)
  rintro _ _ G11 ⟨x2,rest2,hx2,rfl,rfl⟩ hs11
  have hs11:Sep (zd2 q d2::(zf p d2::(rest2++rest1)++[])) G11:=by
   have this:Sep (zf p d2::(rest2++(rest1++[zd2 q d2]))) G11:=hs11
   rw [← yk5Q] at this
   exact Sep.perm (List.perm_middle (l₁:=zf p d2::(rest2++rest1)) (l₂:=[])) this
  have hOr2:=(zpf q d2 first n hk2).q hs11
  refine goS trivial ?_
  (refine goX trivial ?_;(repeat' (with_reducible apply Br.mk<;>intro _)))
  refine zi5 (xs:=[.gp q 0,eI first,eI n]) (Q:=fun r G'=>G'=G11∧∃ J:List D,J.length=9∧J.all D.one=true∧r=.d (.agg (J++[eI (zg3 d2 first n)]))) (fun σ=>(hOr2 σ).mono fun r σ' G' ⟨a,b,c⟩=>⟨a,b,c⟩) (fun _ _ h=>by rw [h.1];exact zez.refl _) goD goD ?_
  rintro _ G12 ⟨hG12,J2,hJl2,hJo2,rfl⟩
  rw [hG12]
  have l2:(J2++[eI (zg3 d2 first n)]).length=10:=by rw [yk2Q,hJl2];rfl
  have o2:(J2++[eI (zg3 d2 first n)]).all D.one=true:=by rw [ylmQ,hJo2];rfl
  have r2:(List.drop 9 (J2++[eI (zg3 d2 first n)])).head?=some (eI (zg3 d2 first n)):=by rw [yloQ hJl2];rfl
  generalize (J2++[eI (zg3 d2 first n)])=F2 at *
  have t2:List.take 10 F2=F2:=yk1Q (by omega)
  have hs12:Sep ([]++(zd2 q d2::(zf p d2::(rest2++rest1)++[]))) G11:=hs11
  refine goS (nn l1 (nn o1 (nn t1 (nn l2 (nn o2 t2))))) ?_
  (refine goX (nn l1 (nn o1 (nn t1 (nn l2 (nn o2 t2))))) ?_;(repeat' (with_reducible apply Br.mk<;>intro _)))
  (refine goM (zxi) (hs12) ?_)
  rintro _ _ G13 ⟨rfl,rfl⟩ hs13
  refine goS trivial ?_
  (refine goX (nn l1 (nn o1 (nn t1 (nn l2 (nn o2 (nn t2 (nn r1 r2))))))) ?_;(repeat' (with_reducible apply Br.mk<;>intro _)))
  exact Fin.eq rfl ⟨rfl,_,.refl _,rfl⟩
