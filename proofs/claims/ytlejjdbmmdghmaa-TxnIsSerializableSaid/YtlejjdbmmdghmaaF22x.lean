/-
 Layer 22 (slots),continued: change,Put,Kill,Get.
 Conditions: of each contract as it says.
-/
import Derived.Test.YtlejjdbmmdghmaaF22v
set_option linter.unusedSimpArgs false
namespace Go.Proofs.Ytlejjdbmmdghmaa
open Go Go.E2 C22
set_option maxHeartbeats 1000000
theorem zli (q p:Nat) (d:Dk) (first n i:Int) (b:Str) (h0:0≤first) (h1:0≤i) (h2:first+2 * i+1≤1000000) (hb:b.length≤55) (hn:d.steps≤800000000) :
 zy Try.prog f_zz15 [.gp q 0,.int .i64 i,.str b] [StA q p first n,zp p d] (fun r post=>r=.d (.int .i64 (changeR d first i b).2)∧post=[StA q p first n,zp p (changeR d first i b).1]):=by
 refine zf fol zz15_cp fun R G σ hs=>?_
 have hok:Okd d:=by obtain ⟨_,_,_,_,h⟩:=zbi.open hs.swap;exact h.ok
 have hs:Sep (ze q [.gp p 0,.int .i64 first,.int .i64 n]::zp p d::R) G:=hs
 have hc:=hs.get
 have hch:changeR d first i b=if (slotR d first i).2.2≠0 then (d,(slotR d first i).2.2) else
  if (healR d (slotR d first i).1 (slotR d first i).2.1).2≠0 then healR d (slotR d first i).1 (slotR d first i).2.1 else
  zh6 (healR d (slotR d first i).1 (slotR d first i).2.1).1 first i (mk1 (zpo (slotR d first i).1) b):=rfl
 rw [hch]
 refine goS trivial ?_
 (refine goX hc ?_;(repeat' (with_reducible apply Br.mk<;>intro _)))
 (refine goM (zvc p d first n i h0 h1 h2) (hs.swap) ?_)
 rintro _ _ G2 ⟨rfl,rfl⟩ hs2
 have hs2:Sep (zp p d::ze q [.gp p 0,.int .i64 first,.int .i64 n]::R) G2:=hs2
 have hc2:=hs2.swap.get
 generalize (slotR d first i).1=best at *
 generalize (slotR d first i).2.1=other at *
 generalize (slotR d first i).2.2=er at *
 have kl1:=zf4 best
 have kl2:=zf4 other
 by_cases her:er=0
 · subst her
   rw [if_neg (by simp)]
   have hup:=(zrb hok (by omega) best other).2.2
   refine goS (nn kl1 kl2) ?_
   (refine goX (nn kl1 (nn kl2 hc2)) ?_;(repeat' (with_reducible apply Br.mk<;>intro _)))
   (refine goM (zvd p d first n best other (by omega)) (hs2) ?_)
   rintro _ _ G3 ⟨rfl,rfl⟩ hs3'
   have hs3:Sep (zp p (healR d best other).1::ze q [.gp p 0,.int .i64 first,.int .i64 n]::R) G3:=hs3'
   clear hs3'
   have hc3:=hs3.swap.get
   by_cases hf:(healR d best other).2=0
   · rw [if_neg (by rw [hf];simp)]
     generalize (healR d best other).1=d3 at hs3 hup ⊢
     obtain ⟨bs,ba,bg⟩:=best
     cases bg
     · have hkb:=zn5 ⟨bs,ba,false⟩
       have hnq:zpo ⟨bs,ba,false⟩=1:=rfl
       rw [hnq]
       refine goS hf ?_
       (refine zg1 (nn hf (nn hkb (nn hc3 (nn kl1 kl2)))) (zmd 1 (by omega) (by omega) b hb) ?_;(repeat' (with_reducible apply Br.mk<;>intro _)))
       generalize mk1 1 b=ns
       have hc2':zh6 d3 first i ns=if (writeR d3 (first+2 * i+1) ns).2≠0 then writeR d3 (first+2 * i+1) ns else writeR (writeR d3 (first+2 * i+1) ns).1 (first+2 * i) ns:=rfl
       rw [hc2']
       have hok3:Okd d3:=by obtain ⟨_,_,_,_,h⟩:=zbi.open hs3;exact h.ok
       have hup3:=(zka hok3 (by omega) (first+2 * i+1) ns).2.2
       (refine goM (zee p d3 first n (first+2 * i+1) ns (by omega)) (hs3) ?_)
       rintro _ _ G4 ⟨rfl,rfl⟩ hs4
       have hs4:Sep (zp p (writeR d3 (first+2 * i+1) ns).1::ze q [.gp p 0,.int .i64 first,.int .i64 n]::R) G4:=hs4
       have hc4:=hs4.swap.get
       by_cases hw:(writeR d3 (first+2 * i+1) ns).2=0
       · rw [if_neg (by rw [hw];simp)]
         refine goS hw ?_
         (refine goX (nn hw hc4) ?_;(repeat' (with_reducible apply Br.mk<;>intro _)))
         (refine goM (zee p (writeR d3 (first+2 * i+1) ns).1 first n (first+2 * i) ns (by omega)) (hs4) ?_)
         rintro _ _ G5 ⟨rfl,rfl⟩ hs5
         refine goS trivial ?_
         refine goR trivial ?_
         exact Fin.eq rfl ⟨rfl,_,⟨rfl,rfl⟩,hs5.swap⟩
       · rw [if_pos hw]
         refine goS hw ?_
         (refine goX hw ?_;(repeat' (with_reducible apply Br.mk<;>intro _)))
         exact Fin.eq rfl ⟨rfl,_,⟨rfl,rfl⟩,hs4.swap⟩
     · have hkb:=zn5 ⟨bs,ba,true⟩
       have hnq:zpo ⟨bs,ba,true⟩=((zbz bs 0:Int)+1) % 4294967296:=rfl
       obtain ⟨nq,hnq2⟩:∃ nq:Int,nq=((zbz bs 0:Int)+1) % 4294967296:=⟨_,rfl⟩
       have hw32:IntKind.u32.wrap ((zbz bs 0:Int)+1)=nq:=by rw [hnq2];rfl
       have q0:0≤nq:=by omega
       have q1:nq<4294967296:=by omega
       rw [hnq,← hnq2]
       clear hnq hnq2
       refine goS hf ?_
       (refine z6b (nn hf (nn hkb (nn hc3 (nn hw32 (nn kl1 kl2))))) (zdm bs 0 (by omega)) (zmd nq q0 q1 b hb) ?_;(repeat' (with_reducible apply Br.mk<;>intro _)))
       generalize mk1 nq b=ns
       have hc2':zh6 d3 first i ns=if (writeR d3 (first+2 * i+1) ns).2≠0 then writeR d3 (first+2 * i+1) ns else writeR (writeR d3 (first+2 * i+1) ns).1 (first+2 * i) ns:=rfl
       rw [hc2']
       have hok3:Okd d3:=by obtain ⟨_,_,_,_,h⟩:=zbi.open hs3;exact h.ok
       have hup3:=(zka hok3 (by omega) (first+2 * i+1) ns).2.2
       (refine goM (zee p d3 first n (first+2 * i+1) ns (by omega)) (hs3) ?_)
       rintro _ _ G4 ⟨rfl,rfl⟩ hs4
       have hs4:Sep (zp p (writeR d3 (first+2 * i+1) ns).1::ze q [.gp p 0,.int .i64 first,.int .i64 n]::R) G4:=hs4
       have hc4:=hs4.swap.get
       by_cases hw:(writeR d3 (first+2 * i+1) ns).2=0
       · rw [if_neg (by rw [hw];simp)]
         refine goS hw ?_
         (refine goX (nn hw hc4) ?_;(repeat' (with_reducible apply Br.mk<;>intro _)))
         (refine goM (zee p (writeR d3 (first+2 * i+1) ns).1 first n (first+2 * i) ns (by omega)) (hs4) ?_)
         rintro _ _ G5 ⟨rfl,rfl⟩ hs5
         refine goS trivial ?_
         refine goR trivial ?_
         exact Fin.eq rfl ⟨rfl,_,⟨rfl,rfl⟩,hs5.swap⟩
       · rw [if_pos hw]
         refine goS hw ?_
         (refine goX hw ?_;(repeat' (with_reducible apply Br.mk<;>intro _)))
         exact Fin.eq rfl ⟨rfl,_,⟨rfl,rfl⟩,hs4.swap⟩
   · rw [if_pos hf]
     refine goS hf ?_
     (refine goX hf ?_;(repeat' (with_reducible apply Br.mk<;>intro _)))
     exact Fin.eq rfl ⟨rfl,_,⟨rfl,rfl⟩,hs3.swap⟩
 · rw [if_pos her]
   refine goS (nn her (nn kl1 kl2)) ?_
   (refine goX (nn her (nn kl1 kl2)) ?_;(repeat' (with_reducible apply Br.mk<;>intro _)))
   exact Fin.eq rfl ⟨rfl,_,⟨rfl,rfl⟩,hs2.swap⟩
theorem z5j (q p:Nat) (d:Dk) (first n i:Int) (b:Str) (h0:0≤first) (h2:first+2 * n≤1000000) (hn:d.steps≤800000000) :
 zy Try.prog f_zz28 [.gp q 0,.int .i64 i,.str b] [StA q p first n,zp p d] (fun r post=>r=.d (.int .i64 (zxy d first n i b).2)∧post=[StA q p first n,zp p (zxy d first n i b).1]):=by
 refine zf fol zz28_cp fun R G σ hs=>?_
 have hc:=Sep.get (b:=q) (cs:=[.gp p 0,.int .i64 first,.int .i64 n]) hs
 by_cases p1:i<0∨n≤i∨b.length<1∨55<b.length
 · have hr:zxy d first n i b=(d,1):=by unfold zxy;rw [if_pos p1]
   rw [hr]
   refine goS trivial ?_
   (refine goX hc ?_;(repeat' (with_reducible apply Br.mk<;>intro _)))
   all_goals first|exact Fin.eq rfl ⟨rfl,_,⟨rfl,rfl⟩,hs⟩|(exfalso;omega)
 · have hr:zxy d first n i b=changeR d first i b:=by unfold zxy;rw [if_neg p1]
   rw [hr]
   have e1:(i<0)=False:=eq_false (by omega)
   have e2:(n≤i)=False:=eq_false (by omega)
   have e3:((b.length:Int)<1)=False:=eq_false (by omega)
   have e4:(55<(b.length:Int))=False:=eq_false (by omega)
   refine goS (nn e1 (nn e2 (nn e3 e4))) ?_
   (refine goX (nn hc (nn e1 (nn e2 (nn e3 e4)))) ?_;(repeat' (with_reducible apply Br.mk<;>intro _)))
   (refine goM (zli q p d first n i b h0 (by omega) (by omega) (by omega) hn) (hs) ?_)
   rintro _ _ G2 ⟨rfl,rfl⟩ hs2
   refine goS trivial ?_
   refine goR trivial ?_
   exact Fin.eq rfl ⟨rfl,_,⟨rfl,rfl⟩,hs2⟩
theorem z01 (q p:Nat) (d:Dk) (first n i:Int) (h0:0≤first) (h2:first+2 * n≤1000000) (hn:d.steps≤800000000) :
 zy Try.prog f_zz20 [.gp q 0,.int .i64 i] [StA q p first n,zp p d] (fun r post=>r=.d (.int .i64 (zme d first n i).2)∧post=[StA q p first n,zp p (zme d first n i).1]):=by
 refine zf fol zz20_cp fun R G σ hs=>?_
 have hc:=Sep.get (b:=q) (cs:=[.gp p 0,.int .i64 first,.int .i64 n]) hs
 by_cases p1:i<0∨n≤i
 · have hr:zme d first n i=(d,1):=by unfold zme;rw [if_pos p1]
   rw [hr]
   refine goS trivial ?_
   (refine goX hc ?_;(repeat' (with_reducible apply Br.mk<;>intro _)))
   all_goals first|exact Fin.eq rfl ⟨rfl,_,⟨rfl,rfl⟩,hs⟩|(exfalso;omega)
 · have hr:zme d first n i=changeR d first i []:=by unfold zme;rw [if_neg p1]
   rw [hr]
   have e1:(i<0)=False:=eq_false (by omega)
   have e2:(n≤i)=False:=eq_false (by omega)
   refine goS (nn e1 e2) ?_
   (refine goX (nn hc (nn e1 e2)) ?_;(repeat' (with_reducible apply Br.mk<;>intro _)))
   (refine goM (zli q p d first n i [] h0 (by omega) (by omega) (by simp) hn) (hs) ?_)
   rintro _ _ G2 ⟨rfl,rfl⟩ hs2
   refine goS trivial ?_
   refine goR trivial ?_
   exact Fin.eq rfl ⟨rfl,_,⟨rfl,rfl⟩,hs2⟩
end Go.Proofs.Ytlejjdbmmdghmaa
namespace Go.Proofs.Ytlejjdbmmdghmaa
open Go Go.E2 C22
set_option maxHeartbeats 1000000
theorem zxq {s:Sec} (h:zd4 s=true):zaa s 36≤55:=by
 unfold zd4 at h
 simp only [Bool.and_eq_true,decide_eq_true_eq] at h
 exact h.2
theorem zq9 {d:Dk} {a:Int} (h:(readC d a).1.good=true):zaa (readC d a).1.s 36≤55:=by
 unfold readC at h ⊢
 simp only [Bool.and_eq_true] at h
 exact zxq h.2
theorem zxr {d:Dk} {first i:Int} (h:(slotR d first i).1.good=true):zaa (slotR d first i).1.s 36≤55:=by
 unfold slotR at h ⊢
 split at h
 · cases h
 · split at h
   · cases h
   · split at h
     · rename_i h1 h2 h3
       rw [if_neg h1,if_neg h2,if_pos h3]
       exact zq9 h
     · rename_i h1 h2 h3
       rw [if_neg h1,if_neg h2,if_neg h3]
       exact zq9 h
theorem zj6:∀ l:List UInt8,flat (l.map eB)=l.map eB
 | []=>rfl
 | a::l=>by rw [List.map_cons,z7,zj6 l];rfl
theorem zve (l:List UInt8):(l.map eB).all (za 1)=true:=by
 rw [List.all_eq_true]
 intro x hx
 obtain ⟨b,_,rfl⟩:=List.mem_map.1 hx
 rfl
theorem zn6 {G:Gh} {g off len cap:Nat} {s:Sec} {x y:D} (h:G.c g=some (s.1.map eB++[x]++[y])) (hl:off+len≤64):zbv G 1 (.gs g off len cap)=some (len,((s.1.drop off).take len).map eB):=by
 have hlen:(s.1.map eB++[x]++[y]).length=66:=by rw [List.length_append,List.length_append,zaj];rfl
 simp only [zbv,h,hlen]
 rw [if_pos (by omega),Nat.mul_one,List.append_assoc,List.drop_append_of_le_length (by rw [zaj];omega),List.take_append_of_le_length (by rw [List.length_drop,zaj];omega),List.map_take,List.map_drop]
theorem zxs (q p:Nat) (d:Dk) (X:As) (hX:∀ R G,Sep (X::R) G→Sep (zp p d::R) G) (first n i:Int) (h0:0≤first) (h2:first+2 * n≤1000000) :
 zy Try.prog f_zz27 [.gp q 0,.int .i64 i] [StA q p first n,X] (fun r post=>r=.tup [.str (getR d first n i).1,.int .i64 (getR d first n i).2]∧post=[StA q p first n,X]):=by
 refine zf fol zz27_cp fun R G σ hs=>?_
 have hs:Sep (ze q [.gp p 0,.int .i64 first,.int .i64 n]::X::R) G:=hs
 have hc:=hs.get
 by_cases p1:i<0∨n≤i
 · have hr:getR d first n i=([],1):=by unfold getR;rw [if_pos p1]
   rw [hr]
   refine goS trivial ?_
   (refine goX hc ?_;(repeat' (with_reducible apply Br.mk<;>intro _)))
   all_goals first|exact Fin.eq rfl ⟨rfl,_,⟨rfl,rfl⟩,hs⟩|(exfalso;omega)
 have e1:(i<0)=False:=eq_false (by omega)
 have e2:(n≤i)=False:=eq_false (by omega)
 have hg:getR d first n i=if (slotR d first i).2.2≠0 then ([],(slotR d first i).2.2) else if (slotR d first i).1.good=false then ([],14) else
  if zaa (slotR d first i).1.s 36=0 then ([],8) else (zgj (slotR d first i).1.s,0):=by unfold getR;rw [if_neg p1]
 have hle:=zxr (d:=d) (first:=first) (i:=i)
 rw [hg]
 refine goS (nn e1 e2) ?_
 (refine goX (nn hc (nn e1 e2)) ?_;(repeat' (with_reducible apply Br.mk<;>intro _)))
 (refine goM (zq8 p d X hX first n i h0 (by omega) (by omega)) (hs.swap) ?_)
 rintro _ _ G2 ⟨rfl,rfl⟩ hs2'
 have hs2:Sep (X::ze q [.gp p 0,.int .i64 first,.int .i64 n]::R) G2:=hs2'
 clear hs2'
 generalize (slotR d first i).1=best at *
 generalize (slotR d first i).2.1=other at *
 generalize (slotR d first i).2.2=er at *
 have kl1:=zf4 best
 have kl2:=zf4 other
 refine goS (nn kl1 kl2) ?_
 refine goR (nn kl1 kl2) ?_
 refine zam fun g6 hg6=>?_
 have hs3:=Sep.new (cs:=best.s.1.map eB++[D.int .i64 best.at']++[D.bool best.good]) hg6 hs2
 have hc6:=hs3.get
 have zl:(z0.1.map eB++[D.int .i64 0,D.bool false]).length=66:=rfl
 have zd:List.drop 66 (z0.1.map eB++[D.int .i64 0,D.bool false])=[]:=rfl
 have k65:=zn5 best
 have b36:(List.drop 36 (best.s.1.map eB++[D.int .i64 best.at']++[D.bool best.good])).head?=some (.int .u8 (zaa best.s 36:Int)):=by
  rw [List.head?_drop,List.append_assoc,List.getElem?_append_left (by rw [zaj];decide),List.getElem?_map,List.getElem?_eq_getElem (by rw [best.s.2];decide),zh5 best.s (by decide)];rfl
 rw [List.append_assoc,List.drop_append_of_le_length (by rw [zaj];decide),← List.append_assoc] at b36
 simp only [Gh.set_c] at hc6
 by_cases her:er=0
 · subst her
   rw [if_neg (by simp)]
   obtain ⟨bs,ba,bg⟩:=best
   cases bg
   · refine goS (nn zl (nn zd (nn kl1 kl2))) ?_
     (refine goX (nn zl (nn zd (nn kl1 (nn kl2 (nn hc6 k65))))) ?_;(repeat' (with_reducible apply Br.mk<;>intro _)))
     exact Fin.eq rfl ⟨rfl,_,⟨rfl,rfl⟩,hs3.tail.swap⟩
   · rw [if_neg (by simp)]
     by_cases hz:zaa bs 36=0
     · rw [if_pos hz]
       rw [hz] at b36
       refine goS (nn zl (nn zd (nn kl1 kl2))) ?_
       (refine goX (nn zl (nn zd (nn kl1 (nn kl2 (nn hc6 (nn k65 (nn b36 hz))))))) ?_;(repeat' (with_reducible apply Br.mk<;>intro _)))
       exact Fin.eq rfl ⟨rfl,_,⟨rfl,rfl⟩,hs3.tail.swap⟩
     · rw [if_neg hz]
       have hle2:=hle rfl
       have hz':((zaa bs 36:Int)=0)=False:=eq_false (by omega)
       simp only at hle2
       refine goS (nn zl (nn zd (nn kl1 kl2))) ?_
       (refine goX (nn zl (nn zd (nn kl1 (nn kl2 (nn hc6 (nn k65 (nn b36 hz'))))))) ?_;(repeat' (with_reducible apply Br.mk<;>intro _)))
       refine zam fun g9 hg9=>?_
       have hs4:=Sep.toSl (sz:=1) (n:=0) (cap:=0) (es:=[]) (Sep.new (cs:=[]) hg9 hs3) ⟨rfl,rfl,Nat.le_refl _,Nat.zero_le _,rfl⟩
       rw [zwh]
       generalize (G2.set g6 (some (bs.1.map eB++[D.int .i64 ba]++[D.bool true]))).set g9 (some [])=G4 at hs4 ⊢
       have hc6':=hs4.tail.get
       have hmin:(4+min (zaa bs 36:Int) 28).toNat - 4=min (zaa bs 36) 28:=by omega
       refine goS hmin ?_
       refine goR (nn hc6' (nn hmin kl1)) ?_
       refine zg4 (es2:=((bs.1.drop 4).take (min (zaa bs 36) 28)).map eB) (m:=min (zaa bs 36) 28) hs4.gv ?_ ?_ ?_ rfl ?_ fun x' G5 hv5 hto=>?_
       · rw [zj6];exact zn6 hc6' (by omega)
       · simp;omega
       · exact zve _
       · rw [za0];simp;omega
       have hs5:=Sep.grow hs4 hto hv5
       have hc65:=hs5.tail.get
       by_cases hbig:28<zaa bs 36
       · have hbig':(28<(zaa bs 36:Int))=True:=eq_true (by omega)
         have hm2:(37+(zaa bs 36:Int) - 28).toNat - 37=zaa bs 36 - 28:=by omega
         refine goS (nn hbig' hm2) ?_
         (refine goX (nn hbig' (nn hm2 (nn hc65 kl1))) ?_;(repeat' (with_reducible apply Br.mk<;>intro _)))
         refine zg4 (es2:=((bs.1.drop 37).take (zaa bs 36 - 28)).map eB) (m:=zaa bs 36 - 28) hs5.gv ?_ ?_ ?_ rfl ?_ fun x2 G6 hv6 hto6=>?_
         · rw [zj6];exact zn6 hc65 (by omega)
         · simp;omega
         · exact zve _
         · rw [za0];simp;omega
         have hs6:=Sep.grow hs5 hto6 hv6
         refine goS trivial ?_
         refine goR trivial ?_
         have ev:gdD .b2s [x2] G6=some (.d (.str (zgj bs)),G6):=by
          simp only [gdD,hv6.view]
          rw [List.nil_append,← List.map_append,zj6,zd7]
          rfl
         refine zjr ev ?_
         refine goS trivial ?_
         refine goR trivial ?_
         exact Fin.eq rfl ⟨rfl,_,⟨rfl,rfl⟩,hs6.tail.tail.swap⟩
       · have hbig':(28<(zaa bs 36:Int))=False:=eq_false (by omega)
         refine goS hbig' ?_
         (refine goX hbig' ?_;(repeat' (with_reducible apply Br.mk<;>intro _)))
         have ev:gdD .b2s [x'] G5=some (.d (.str (zgj bs)),G5):=by
          have e0:zaa bs 36 - 28=0:=by omega
          simp only [gdD,hv5.view,zgj,e0,List.take_zero,List.append_nil]
          rw [List.nil_append,zj6,zd7]
          rfl
         refine zjr ev ?_
         refine goS trivial ?_
         refine goR trivial ?_
         exact Fin.eq rfl ⟨rfl,_,⟨rfl,rfl⟩,hs5.tail.tail.swap⟩
 · rw [if_pos her]
   refine goS (nn her (nn zl (nn zd (nn kl1 kl2)))) ?_
   (refine goX (nn her (nn zl (nn zd (nn kl1 kl2)))) ?_;(repeat' (with_reducible apply Br.mk<;>intro _)))
   exact Fin.eq rfl ⟨rfl,_,⟨rfl,rfl⟩,hs3.tail.swap⟩
theorem z02 (q p:Nat) (d:Dk) (first n i:Int) (h0:0≤first) (h2:first+2 * n≤1000000) :
 zy Try.prog f_zz27 [.gp q 0,.int .i64 i] [StA q p first n,zp p d] (fun r post=>r=.tup [.str (getR d first n i).1,.int .i64 (getR d first n i).2]∧post=[StA q p first n,zp p d]) :=
 zxs q p d (zp p d) (fun _ _ h=>h) first n i h0 h2
end Go.Proofs.Ytlejjdbmmdghmaa
