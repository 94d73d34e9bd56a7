/-
 Layer 23: the sector of a fragment,by the program.
 Conditions: of each contract as it says.
-/
import Derived.Test.YtpplfpnjfjnkdaaGreatDoorJ1
set_option linter.unusedSimpArgs false
namespace Go.Proofs.YtpplfpnjfjnkdaaGreatDoor
open Go Go.E2 C22 C23 CW
set_option maxHeartbeats 8000000
theorem z0m {G:Gh} {b off len cap:Nat} {cs:List D} {l:List UInt8} (hG:G.c b=some cs) (h:off+len≤cs.length) (he:List.take len (List.drop off cs)=l.map eB):zbn G 1 (.gs b off len cap)=some (len,l.map eB):=by
 have e:G b=some cs:=hG
 simp only [zbn,e,ylsQ,if_pos h,he]
theorem zt8 (f:Fr) (hf:z9d f) (side slot:Nat) (hg:f.g<4611686018427387904) (hn:f.n<4611686018427387904) (h1:side<1000000) (h2:slot<1000000) :
 zw Tryz.prog f_zz17 [eFr f,eI side,eI slot] (·=.d (eS (frS f side slot))):=by
 refine zw.of_deep (zm fol zz17_cp ?_)
 obtain ⟨g,n,lk,fl,ln,pc⟩:=f
 have hg:g<4611686018427387904:=hg
 have hn:n<4611686018427387904:=hn
 have hlk:lk.length=8:=hf.lk
 have hpl:List.length pc=30:=hf.pc
 obtain ⟨z64,hz⟩:∃ z,z=zr 64 (D.int .u8 0):=⟨_,rfl⟩
 have hz1:zr 64 (D.int .u8 0)=z64:=hz.symm
 have hzl:z64.length=64:=by rw [hz];rfl
 have e1:zau z64 ((zd8 g).map eB) 0=(zd8 g++List.replicate 60 0).map eB:=by
  rw [hz]
  exact zkr (l:=List.replicate 64 0) (pre:=[]) (mid:=List.replicate 4 0) (post:=List.replicate 60 0) rfl rfl rfl
 obtain ⟨c1,hc1⟩:∃ c,c=zd8 g++List.replicate 60 (0:UInt8):=⟨_,rfl⟩
 have hl1:(c1.map eB).length=64:=by rw [hc1];rfl
 have e2:zau (c1.map eB) ((zd8 n).map eB) 4=(zd8 g++zd8 n++List.replicate 56 0).map eB:=zkr (pre:=zd8 g) (mid:=List.replicate 4 0) (post:=List.replicate 56 0) hc1 rfl rfl
 obtain ⟨c2,hc2⟩:∃ c,c=zd8 g++zd8 n++List.replicate 56 (0:UInt8):=⟨_,rfl⟩
 have hl2:(c2.map eB).length=64:=by rw [hc2];rfl
 have e3:zau (c2.map eB) (lk.map eB) 8=(zd8 g++zd8 n++lk++List.replicate 48 0).map eB:=zkr (pre:=zd8 g++zd8 n) (mid:=List.replicate 8 0) (post:=List.replicate 48 0) (by rw [hc2];rfl) rfl (by rw [hlk];rfl)
 obtain ⟨p,hp⟩:∃ p,p=zd8 g++zd8 n++lk:=⟨_,rfl⟩
 have hpn:p.length=16:=by rw [hp,yk2Q,hlk];rfl
 rw [← hp] at e3
 obtain ⟨c3,hc3⟩:∃ c,c=p++List.replicate 48 (0:UInt8):=⟨_,rfl⟩
 rw [← hc3] at e3
 have hl3:(c3.map eB).length=64:=by rw [yk3Q,hc3,yk2Q,hpn];rfl
 have e4:zau (c3.map eB) ([fl].map eB) 24=(p++List.replicate 8 0++[fl]++List.replicate 39 0).map eB:=zkr (pre:=p++List.replicate 8 0) (mid:=[0]) (post:=List.replicate 39 0) (by rw [hc3,yk5Q,yk5Q];rfl) (by rw [yk2Q,hpn];rfl) rfl
 obtain ⟨c4,hc4⟩:∃ c,c=p++List.replicate 8 0++[fl]++List.replicate 39 (0:UInt8):=⟨_,rfl⟩
 rw [← hc4] at e4
 have hl4:(c4.map eB).length=64:=by rw [← e4,zhw (by rw [hl3];exact Nat.le_of_ble_eq_true rfl),hl3]
 have e5:zau (c4.map eB) ([ln].map eB) 25=(p++List.replicate 8 0++[fl,ln]++List.replicate 38 0).map eB:=by
  have:=zkr (l:=c4) (pre:=p++List.replicate 8 0++[fl]) (mid:=[0]) (post:=List.replicate 38 0) (ys:=[ln]) (n:=25) (by rw [hc4,yk5Q (p++List.replicate 8 0++[fl])];rfl) (by rw [yk2Q,yk2Q,hpn];rfl) rfl
  rw [this]
  simp only [yk5Q,List.cons_append,List.nil_append]
 obtain ⟨c5,hc5⟩:∃ c,c=p++List.replicate 8 0++[fl,ln]++List.replicate 38 (0:UInt8):=⟨_,rfl⟩
 rw [← hc5] at e5
 have hl5:(c5.map eB).length=64:=by rw [← e5,zhw (by rw [hl4];exact Nat.le_of_ble_eq_true rfl),hl4]
 have e6:zau (c5.map eB) (pc.map eB) 26=(p++List.replicate 8 0++[fl,ln]++pc++List.replicate 8 0).map eB :=
  zkr (pre:=p++List.replicate 8 0++[fl,ln]) (mid:=List.replicate 30 0) (post:=List.replicate 8 0) (by rw [hc5,yk5Q (p++List.replicate 8 0++[fl,ln])];rfl) (by rw [yk2Q,yk2Q,hpn];rfl) (by rw [hpl];rfl)
 obtain ⟨c6,hc6⟩:∃ c,c=p++List.replicate 8 0++[fl,ln]++pc++List.replicate 8 (0:UInt8):=⟨_,rfl⟩
 rw [← hc6] at e6
 have hl6:c6.length=64:=by rw [← yk3Q (f:=eB),← e6,zhw (by rw [hl5,yk3Q,hpl];decide),hl5]
 have t1:tx ⟨c6,hl6⟩ 0 16=p:=by
  have:tx ⟨c6,hl6⟩ 0 16=c6.take 16:=rfl
  rw [this,hc6,yk5Q,yk5Q,yk5Q,ylnQ hpn]
 have t2:tx ⟨c6,hl6⟩ 24 56=[fl,ln]++pc:=by
  have:tx ⟨c6,hl6⟩ 24 56=(c6.take 56).drop 24:=rfl
  have hq:(p++List.replicate 8 0++[fl,ln]++pc).length=56:=by simp only [yk2Q,hpn,hpl];rfl
  rw [this,hc6,ylnQ hq,yk5Q (p++List.replicate 8 0),yloQ (by rw [yk2Q,hpn];rfl)]
 have hsm:=z14 ⟨c6,hl6⟩ side slot h1 h2
 rw [t1,t2] at hsm
 have hd:=zd6 (p++([fl,ln]++pc)) side slot
 have hfin:(frS ⟨g,n,lk,fl,ln,pc⟩ side slot).1=p++(zeb (p++([fl,ln]++pc)) side slot).take 8++([fl,ln]++pc)++(zeb (p++([fl,ln]++pc)) side slot).drop 8:=by
  rw [hp]
  refine zjq ?_
  have:frP ⟨g,n,lk,fl,ln,pc⟩=p:=hp.symm
  simp only [this,yk2Q,hpn,hpl,yk4Q,ylfQ,hd]
  rfl
 generalize zeb (p++([fl,ln]++pc)) side slot=dg at *
 generalize frS ⟨g,n,lk,fl,ln,pc⟩ side slot=m at *
 have e7:zau (c6.map eB) ((dg.take 8).map eB) 16=(p++dg.take 8++([fl,ln]++pc)++List.replicate 8 0).map eB:=by
  have:=zkr (l:=c6) (pre:=p) (mid:=List.replicate 8 0) (post:=[fl,ln]++pc++List.replicate 8 0) (ys:=dg.take 8) (n:=16) (by rw [hc6];simp only [yk5Q]) hpn (by rw [yk4Q,hd];rfl)
  rw [this];simp only [yk5Q]
 obtain ⟨c7,hc7⟩:∃ c,c=p++dg.take 8++([fl,ln]++pc)++List.replicate 8 (0:UInt8):=⟨_,rfl⟩
 rw [← hc7] at e7
 have hl7:(c7.map eB).length=64:=by rw [← e7,zhw (by rw [yk3Q,yk3Q,hl6,yk4Q,hd];decide),yk3Q,hl6]
 have e8:zau (c7.map eB) ((dg.drop 8).map eB) 56=m.1.map eB:=by
  have:=zkr (l:=c7) (pre:=p++dg.take 8++([fl,ln]++pc)) (mid:=List.replicate 8 0) (post:=[]) (ys:=dg.drop 8) (n:=56) (by rw [hc7,ylvQ]) (by simp only [yk2Q,hpn,hpl,yk4Q,hd];rfl) (by rw [ylfQ,hd];rfl)
  rw [this,ylvQ,hfin]
 obtain ⟨fc,hfc⟩:∃ cs,cs=[eN g,eN n]++lk.map eB++[eB fl,eB ln]++pc.map eB:=⟨_,rfl⟩
 have hfl:fc.length=42:=by rw [hfc];simp [hlk,hpl]
 have f0:eFr ⟨g,n,lk,fl,ln,pc⟩=.agg fc:=by rw [hfc];rfl
 rw [f0]
 rw [← hc1] at e1
 rw [← hc2] at e2
 have hfo:fc.all D.one=true:=by rw [hfc];simp only [ylmQ,zbx,Bool.and_true];rfl
 refine goS (nn hz1 (nn hfl hfo)) ?_
 refine goR (nn hfl hfo) ?_
 refine zx fun f hfn=>?_
 refine goS (nn hz1 (nn hfl hfo)) ?_
 refine goR (nn hfl hzl) ?_
 refine zx fun b hbn=>?_
 have hne:f≠b:=by rintro rfl;rw [Gh.set_c,zbp] at hbn;cases hbn
 have hu:∀ v,upd (upd noGh.c f (some fc)) b v f=some fc:=fun v=>by rw [zcm hne,zbp]
 have hfb:∀ v,((noGh.set f (some fc)).set b v).c f=some fc:=hu
 have v0:zae false 1 (some fc) 0=some (.d (eN g)):=by rw [hfc];rfl
 have v1:zae false 1 (some fc) 1=some (.d (eN n)):=by rw [hfc];rfl
 have hpre:∀ i,List.drop (10+i) fc=List.drop i ([eB fl,eB ln]++pc.map eB):=fun i=>by
  rw [hfc,yk5Q,yk5Q,← List.drop_drop]
  congr 1
  rw [← yk5Q,yloQ (by simp [hlk])]
 have v2:zae false 1 (some fc) 10=some (.d (eB fl)):=by
  have:=hpre 0
  simp only [zae,zbv,Bool.false_eq_true,if_false,this];rfl
 have v3:zae false 1 (some fc) 11=some (.d (eB ln)):=by
  have:=hpre 1
  simp only [zae,zbv,Bool.false_eq_true,if_false,this];rfl
 have w1:List.take 8 (List.drop 2 fc)=lk.map eB:=by
  rw [hfc]
  show List.take 8 (lk.map eB++[eB fl,eB ln]++pc.map eB)=_
  rw [yk5Q,ylnQ (by rw [yk3Q,hlk])]
 have w2:List.take 30 (List.drop 12 fc)=pc.map eB:=by
  have:List.drop 12 fc=pc.map eB:=hpre 2
  rw [this,zbq hpl]
 have x1:=fun v=>z0m (off:=2) (len:=8) (cap:=8) (hfb v) (by rw [hfl];decide) w1
 have x2:=fun v=>z0m (off:=12) (len:=30) (cap:=30) (hfb v) (by rw [hfl];decide) w2
 have setE:∀ v w,((noGh.set f (some fc)).set b v).set b w=(noGh.set f (some fc)).set b w:=fun v w=>Gh.set_set _ _ _ _
 have getE:∀ v,((noGh.set f (some fc)).set b v).c b=v:=fun v=>by rw [Gh.set_c,zbp]
 refine goS (nn hz1 hfl) ?_
 refine goR (nn hfl (nn hzl (nn hu (nn v0 (nn v1 (nn v2 v3)))))) ?_
 apply zzf (zsj b 0 64 64 z64 g hg (by decide) (by rw [hzl];decide) _ _ (getE _)) goD goD
 rintro _ _ rfl
 rw [setE,e1]
 refine goS trivial ?_
 refine goR (nn hfl (nn hzl (nn hl1 (nn hu (nn v0 (nn v1 (nn v2 v3))))))) ?_
 apply zzf (zsj b 4 60 60 (c1.map eB) n hn (by decide) (by rw [hl1];decide) _ _ (getE _)) goD goD
 rintro _ _ rfl
 rw [setE,e2]
 refine goS trivial ?_
 refine goR (nn hfl (nn hzl (nn hl2 (nn hu (nn v0 (nn v1 (nn v2 v3))))))) ?_
 have hF:∀ v,((noGh.set f (some fc)).set b v) b=v:=getE
 have tk1:List.take (min 56 8 * 1) (lk.map eB)=lk.map eB:=yk1Q (by rw [yk3Q,hlk];decide)
 refine zi4 (b:=b) (off:=8) (len:=56) (cs:=c2.map eB) (getE _) (x1 _) (by rw [hl2];decide) ?_
 rw [tk1,setE,e3]
 have s1:List.take 24 (c3.map eB)++[eB fl]++List.drop 25 (c3.map eB)=c4.map eB:=e4
 have s2:List.take 25 (c4.map eB)++[eB ln]++List.drop 26 (c4.map eB)=c5.map eB:=e5
 refine goS trivial ?_
 refine goR (nn hfl (nn hzl (nn hl3 (nn hl4 (nn hu (nn v0 (nn v1 (nn v2 (nn v3 (nn s1 s2)))))))))) ?_
 have tk2:List.take (min 38 30 * 1) (pc.map eB)=pc.map eB:=yk1Q (by rw [yk3Q,hpl];decide)
 refine zi4 (b:=b) (off:=26) (len:=38) (cs:=c5.map eB) (getE _) (x2 _) (by rw [hl5];decide) ?_
 rw [tk2,setE,e6]
 have hl6':(c6.map eB).length=64:=by rw [yk3Q,hl6]
 have tk6:List.take 64 (c6.map eB)=c6.map eB:=zbq hl6
 have hsm':zw Tryz.prog f_zz106 [.agg (c6.map eB),eI side,eI slot] (·=.d (eDg dg)):=hsm
 refine goS trivial ?_
 refine goR (nn hfl (nn hzl (nn hl6 (nn hl6' (nn tk6 (nn hu hd)))))) ?_
 (refine zb7 (nn hl6 (nn hl6' (nn tk6 (nn hu hd)))) (hsm') ?_;(repeat' (with_reducible apply Br.mk<;>intro _)))
 refine zx fun d hdn=>?_
 have hbd:b≠d:=by rintro rfl;rw [getE] at hdn;cases hdn
 refine goS hd ?_
 refine goR hd ?_
 obtain ⟨G1,hG1⟩:∃ G1,G1=((noGh.set f (some fc)).set b (some (c6.map eB))).set d (some (dg.map eB)):=⟨_,rfl⟩
 rw [← hG1]
 have gb:G1.c b=some (c6.map eB):=by rw [hG1,Gh.set_c,zcm hbd,getE]
 have gd:G1.c d=some (dg.map eB):=by rw [hG1,Gh.set_c,zbp]
 have gd2:∀ v,(G1.set b v).c d=some (dg.map eB):=fun v=>by rw [Gh.set_c,zcm (Ne.symm hbd),gd]
 have gb2:∀ v,(G1.set b v).c b=v:=fun v=>by rw [Gh.set_c,zbp]
 have hdl:(dg.map eB).length=16:=by rw [yk3Q,hd]
 have y1:zbn G1 1 (.gs d 0 8 16)=some (8,(dg.take 8).map eB):=z0m gd (by rw [hdl];decide) (by rw [List.drop_zero,List.map_take])
 have y2:=fun v=>z0m (off:=8) (len:=8) (cap:=8) (l:=dg.drop 8) (gd2 v) (by rw [hdl];decide) (by rw [← List.map_drop];exact zbq (by rw [ylfQ,hd]))
 have tk7:List.take (min 48 8 * 1) ((dg.take 8).map eB)=(dg.take 8).map eB:=yk1Q (by rw [yk3Q,yk4Q,hd];decide)
 have tk8:List.take (min 8 8 * 1) ((dg.drop 8).map eB)=(dg.drop 8).map eB:=yk1Q (by rw [yk3Q,ylfQ,hd];decide)
 refine zi4 (b:=b) (off:=16) (len:=48) (cs:=c6.map eB) gb y1 (by rw [hl6'];decide) ?_
 rw [tk7,e7]
 refine goS trivial ?_
 refine goR (nn hl7 hd) ?_
 refine zi4 (b:=b) (off:=56) (len:=8) (cs:=c7.map eB) (gb2 _) (y2 _) (by rw [hl7];decide) ?_
 rw [tk8,Gh.set_set,e8]
 have hml:=zj m
 have tm:List.take 64 (m.1.map eB)=m.1.map eB:=yk1Q (by rw [hml];exact Nat.le_refl _)
 refine goS trivial ?_
 refine goR (nn hml (nn tm hzl)) ?_
 (apply Fin.eq;(focus (simp -dsimp (disch:=first|omega|(simp only [go_sem];omega)) only [go_sem,seval,Nat.reduceEqDiff,Nat.reduceLeDiff,hml,tm,hzl]<;>rfl)))
 exact ⟨rfl,_,.refl _,rfl⟩
end Go.Proofs.YtpplfpnjfjnkdaaGreatDoor
namespace Go.Proofs.YtpplfpnjfjnkdaaGreatDoor
open Go Go.E2 C22 C23 CW
set_option maxHeartbeats 4000000
theorem zsp (s:List UInt8) (hl:s.length≤1000000):zw Tryz.prog f_zz105 [.str s] (·=.d (.list ((zua s).map .str))):=by
 refine zh fol zz105_cp ?_
 refine goS trivial ?_
 refine goR trivial ?_
 refine W.loop (fun q st=>∃ (k:Nat),k+1≤np s∧q=s.length - k ∧
  st=(E [(0,.d (.str (s.drop (30 * k)))),(3,.own 1 (((List.range k).map (pc s)).map .str))],HB [],[],noGh))
  ⟨_,_,zgm (by (simp -dsimp (disch:=first|omega|(simp only [go_sem];omega)) only [go_sem,seval,Nat.reduceEqDiff,Nat.reduceLeDiff,List.range_zero,List.map_nil,Nat.mul_zero,List.drop_zero]<;>((repeat' apply And.intro)<;>first|exact VLe.refl _|(apply zaa;omega)|(apply zaa;simp;done)|exact VLe.own _ _|exact VLe.nilown _|exact VLe.norm _))) (by rfl),0,by unfold np;omega,rfl,rfl⟩ ?_
 rintro q st ⟨k,hk,rfl,rfl⟩
 have hnp:np s=max 1 ((s.length+29) / 30):=rfl
 have hdl:(s.drop (30 * k)).length=s.length - 30 * k:=ylfQ
 have hr:(List.range (k+1)).map (pc s)=(List.range k).map (pc s)++[pc s k]:=by rw [List.range_succ,yk6Q];rfl
 have hk5:k≤50000:=by omega
 obtain ⟨L,hL⟩:∃ L,L=(List.range k).map (pc s):=⟨_,rfl⟩
 have hLl:L.length=k:=by rw [hL];simp
 have hL':=hL.symm
 rw [← hL] at hr ⊢
 by_cases h:30<s.length - 30 * k
 · have h1:(30<((s.length - 30 * k:Nat):Int))=True:=eq_true (by omega)
   have h2:List.take 30 (s.drop (30 * k))=pc s k:=rfl
   have h3:List.drop 30 (s.drop (30 * k))=s.drop (30 * (k+1)):=by rw [List.drop_drop];congr 1
   have h4:30≤s.length - 30 * k:=by omega
   (refine goX (nn hdl (nn h1 (nn h2 (nn h3 h4)))) ?_;(repeat' (with_reducible apply Br.mk<;>intro _)))
   refine ⟨_,_,?_,zgm (by (simp -dsimp (disch:=first|omega|(simp only [go_sem];omega)) only [go_sem,seval,Nat.reduceEqDiff,Nat.reduceLeDiff,hr,hL',yk6Q,List.map_cons,List.map_nil]<;>((repeat' apply And.intro)<;>first|exact VLe.refl _|(apply zaa;omega)|(apply zaa;simp;done)|exact VLe.own _ _|exact VLe.nilown _|exact VLe.norm _))) (by rfl),k+1,by omega,rfl,rfl⟩
   omega
 · have h1:(30<((s.length - 30 * k:Nat):Int))=False:=eq_false (by omega)
   have hkn:np s=k+1:=by omega
   have h2:s.drop (30 * k)=pc s k:=(yk1Q (by rw [hdl];omega)).symm
   (refine goX (nn hdl h1) ?_;(repeat' (with_reducible apply Br.mk<;>intro _)))
   refine Fin.ple rfl (.own 1 _ _ (.inl rfl)) ?_
   rw [zua,hkn,hr,h2]
   simp only [yk6Q,List.map_cons,List.map_nil]
abbrev eP (p:Nat) (first half:Int):D:=.agg [.gp p 0,eI first,eI half]
theorem zfr (p:Nat) (first half:Int) (side:Nat) (h1:0≤first∧first<1000000) (h2:0≤half∧half<1000000) (h3:side=0∨side=1):zw Tryz.prog f_zz45 [eP p first half,eI side] (·=.d (eI (first+side * half))):=by
 refine zh fol zz45_cp ?_
 rcases h3 with rfl|rfl
 · have w0:=wrap_i64 (x:=((0:Nat):Int) * half) (by omega) (by omega)
   have w1:=wrap_i64 (x:=first+((0:Nat):Int) * half) (by omega) (by omega)
   refine goS trivial ?_
   refine goR (nn w0 w1) ?_
   exact Fin.p rfl (iE (by omega))
 · have w0:=wrap_i64 (x:=((1:Nat):Int) * half) (by omega) (by omega)
   refine goS trivial ?_
   refine goR w0 ?_
   exact Fin.p rfl (iE (by omega))
theorem zhz (p:Nat) (first half:Int) (h2:0≤half∧half<1000000):zw Tryz.prog f_zz54 [eP p first half] (·=.d (eI (half / 2 - 1))):=by
 refine zh fol zz54_cp ?_
 have e:half.tdiv 2=half / 2:=ylqQ h2.1
 refine goS trivial ?_
 refine goR e ?_
 exact Fin.p rfl (iE (by omega))
theorem zra (p:Nat) (first half:Int) (side k:Nat) (h1:0≤first∧first<1000000) (h2:0≤half∧half<1000000) (h3:side=0∨side=1) (h4:k<1000000):zw Tryz.prog f_zz63 [eP p first half,eI side,eI k] (·=.d (eI (first+side * half+2+2 * k))):=by
 refine zh fol zz63_cp ?_
 have hh:=zfr p first half side h1 h2 h3
 have hb:0≤(side:Int) * half∧(side:Int) * half≤1000000:=by rcases h3 with rfl|rfl<;>constructor<;>omega
 generalize (side:Int) * half=m at *
 refine goS trivial ?_
 (refine zb7 trivial (hh) ?_;(repeat' (with_reducible apply Br.mk<;>intro _)))
 exact Fin.p rfl rfl
end Go.Proofs.YtpplfpnjfjnkdaaGreatDoor
namespace Go.Proofs.YtpplfpnjfjnkdaaGreatDoor
open Go Go.E2 C22 C23 CW
set_option maxHeartbeats 4000000
def eF (p:Nat) (d:Dk) (first n:Int):D:=if za9 d first n=0 then eP p first (n / 2) else .agg [.nilP,eI 0,eI 0]
theorem zku (p:Nat) (d:Dk) (first n:Int):ze1 Tryz.prog f_zz101 [.gp p 0,eI first,eI n] [zf p d] (·=.tup [eF p d first n,eI (za9 d first n)]):=by
 refine zap fol zz101_cp fun R G σ hs=>?_
 have hok:Okd d:=by obtain ⟨cb,r,cap,m,hd⟩:=za2.open hs;exact hd.ok
 have hm:=hok.most
 have hF:eF p d first n=if za9 d first n=0 then eP p first (n / 2) else .agg [.nilP,eI 0,eI 0]:=rfl
 have hE:za9 d first n=if n<8∨first<0∨(d.cs.length:Int)<first∨(d.cs.length:Int) - first<n then 1 else if d.dead=true then 12 else 0:=rfl
 by_cases c1:n<8∨first<0∨(d.cs.length:Int)<first∨(d.cs.length:Int) - first<n
 · rw [if_pos c1] at hE
   rw [hE,if_neg (by decide)] at hF
   rw [hF,hE]
   refine goS trivial ?_
   (refine zb7 trivial ((zqo p d).q hs) ?_;(repeat' (with_reducible apply Br.mk<;>intro _)))
   all_goals first|exact Fin.eq rfl ⟨rfl,rfl,rfl⟩|(exfalso;omega)
 rw [if_neg c1] at hE
 have c2:(n<8)=False:=eq_false (by omega)
 have c3:(first<0)=False:=eq_false (by omega)
 have c4:((d.cs.length:Int)<first)=False:=eq_false (by omega)
 have c5:((d.cs.length:Int) - first<n)=False:=eq_false (by omega)
 have e2:n.tdiv 2=n / 2:=ylqQ (by omega)
 by_cases c6:d.dead=true
 · rw [if_pos c6] at hE
   rw [hE,if_neg (by decide)] at hF
   rw [hF,hE]
   refine goS trivial ?_
   (refine zgi (nn c2 (nn c3 (nn c4 (nn c5 c6)))) ((zqo p d).q hs) ((zwi p d).q hs) ?_;(repeat' (with_reducible apply Br.mk<;>intro _)))
   trace_state
   all_goals first|exact Fin.eq rfl ⟨rfl,rfl,rfl⟩|(exfalso;omega)
 · rw [if_neg c6] at hE
   rw [hE,if_pos rfl] at hF
   rw [hF,hE]
   have c6:d.dead=false:=by simpa using c6
   refine goS trivial ?_
   (refine zgi (nn c2 (nn c3 (nn c4 (nn c5 (nn c6 e2))))) ((zqo p d).q hs) ((zwi p d).q hs) ?_;(repeat' (with_reducible apply Br.mk<;>intro _)))
   trace_state
   all_goals first|exact Fin.eq rfl ⟨rfl,rfl,rfl⟩|(exfalso;omega)
theorem zne (p:Nat) (d:Dk) (first half at_:Int) (s:Sec) (hn:d.steps≤999999990) (h1:0≤at_∧at_<1000000):zaq Tryz.prog f_zz62 [eP p first half,eI at_,eS s] [zf p d] (fun r post=>r=.d (eI (wr2 d at_ s).2)∧post=[zf p (wr2 d at_ s).1]):=by
 refine zu fol zz62_cp fun R G σ hs=>?_
 have hss:=zj s
 refine goS trivial ?_
 refine goR trivial ?_
 refine W.loop (fun q st=>∃ (k:Nat) (d':Dk) (G':Gh),q=2 - k∧((k=0∧d'=d)∨(k=1∧d'=(wr d at_ s).1∧(wr d at_ s).2=0)∨(k=2∧d'=(wr2 d at_ s).1∧(wr2 d at_ s).2=0))∧Sep (zf p d'::R) G' ∧
  st=(E [(13,.d (eI k)),(7,.d (.bnd f_zz80 [.gp p 0])),(6,.d (eI 0)),(5,.ptr 0 5 1 0),(1,.d (eI at_))],HB [(3,⟨1,some [.gp p 0,eI first,eI half]⟩),(5,⟨1,some (s.1.map eB)⟩)],σ,G'))
  ⟨_,_,z7 (by rfl),0,d,G,rfl,.inl ⟨rfl,rfl⟩,hs,rfl⟩ ?_
 rintro q st ⟨k,d',G',rfl,hk,hs',rfl⟩
 rcases hk with ⟨rfl,rfl⟩|⟨rfl,rfl,hw⟩|⟨rfl,rfl,hw⟩
 · have e0:at_+0=at_:=by omega
   (refine goX (nn hss e0) ?_;(repeat' (with_reducible apply Br.mk<;>intro _)))
   refine z6y (g:=f_zz80) (xs:=[.gp p 0]) (vs:=[eI at_,eS s]) (zsb p d' at_ s (by omega)) hs' (.inl rfl) ⟨by simp -dsimp (disch:=first|omega|(simp only [go_sem];omega)) only [go_sem,seval,Nat.reduceEqDiff,Nat.reduceLeDiff],by simp -dsimp (disch:=first|omega|(simp only [go_sem];omega)) only [go_sem,seval,Nat.reduceEqDiff,Nat.reduceLeDiff]⟩ ?_
   rintro _ _ G2 ⟨rfl,rfl⟩ hs2
   have hw2:wr2 d' at_ s=if (wr d' at_ s).2≠0 then wr d' at_ s else wr (wr d' at_ s).1 (at_+1) s:=rfl
   by_cases c:(wr d' at_ s).2=0
   · have c1:((wr d' at_ s).2=0)=True:=eq_true c
     refine goS trivial ?_
     (refine goX (nn c1 c) ?_;(repeat' (with_reducible apply Br.mk<;>intro _)))
     exact ⟨_,_,by omega,z7 (by rfl),1,_,_,rfl,.inr (.inl ⟨rfl,rfl,c⟩),hs2,rfl⟩
   · have c1:((wr d' at_ s).2=0)=False:=eq_false c
     rw [if_pos c] at hw2
     rw [hw2]
     refine goS trivial ?_
     (refine goX c1 ?_;(repeat' (with_reducible apply Br.mk<;>intro _)))
     exact Fin.eq rfl ⟨rfl,_,⟨rfl,rfl⟩,hs2⟩
 · have hst:(wr d at_ s).1.steps≤1000000000:=by
    obtain ⟨cb,r,cap,m,hd⟩:=za2.open hs
    have:=(wr_ok hd.ok (by omega) at_ s).2
    omega
   (refine goX hss ?_;(repeat' (with_reducible apply Br.mk<;>intro _)))
   refine z6y (g:=f_zz80) (xs:=[.gp p 0]) (vs:=[eI (at_+1),eS s]) (zsb p (wr d at_ s).1 (at_+1) s hst) hs' (.inl rfl) ⟨by simp -dsimp (disch:=first|omega|(simp only [go_sem];omega)) only [go_sem,seval,Nat.reduceEqDiff,Nat.reduceLeDiff],by simp -dsimp (disch:=first|omega|(simp only [go_sem];omega)) only [go_sem,seval,Nat.reduceEqDiff,Nat.reduceLeDiff]⟩ ?_
   rintro _ _ G2 ⟨rfl,rfl⟩ hs2
   have hw2:wr2 d at_ s=wr (wr d at_ s).1 (at_+1) s:=if_neg (fun h=>h hw)
   rw [← hw2] at hs2 ⊢
   by_cases c:(wr2 d at_ s).2=0
   · have c1:((wr2 d at_ s).2=0)=True:=eq_true c
     refine goS trivial ?_
     (refine goX (nn c1 c) ?_;(repeat' (with_reducible apply Br.mk<;>intro _)))
     exact ⟨_,_,by omega,z7 (by rfl),2,_,_,rfl,.inr (.inr ⟨rfl,rfl,c⟩),hs2,rfl⟩
   · have c1:((wr2 d at_ s).2=0)=False:=eq_false c
     refine goS trivial ?_
     (refine goX c1 ?_;(repeat' (with_reducible apply Br.mk<;>intro _)))
     exact Fin.eq rfl ⟨rfl,_,⟨rfl,rfl⟩,hs2⟩
 · (refine goX hss ?_;(repeat' (with_reducible apply Br.mk<;>intro _)))
   exact Fin.eq rfl ⟨rfl,_,⟨by rw [hw],rfl⟩,hs'⟩
end Go.Proofs.YtpplfpnjfjnkdaaGreatDoor
namespace Go.Proofs.YtpplfpnjfjnkdaaGreatDoor
open Go Go.E2 C22 C23 CW
set_option maxHeartbeats 4000000
theorem Sep.dropM {r:Nat} {o:MO} {R:List As} {G:Gh} (h:Sep (zgu r o::R) G):Sep R (G.setM r none):=by
 obtain ⟨G1,G2,h1,h2,h3,h4,h5⟩:=h
 refine h5.mono ⟨h2.c,fun b v e=>?_⟩
 have hr:G2.m r=none:=(h3.m r).resolve_left (by unfold zgu at h4;rw [h4];simp)
 simp only [Gh.setM_m,upd]
 split
 · rename_i hb;subst hb;rw [hr] at e;cases e
 · exact h2.m _ _ e
theorem lan (l:List D):l++[]=l:=ylvQ l
theorem lna (l:List UInt8):[]++l=l:=rfl
theorem oin:(none:Option Hd).isSome=false:=rfl
theorem ois (h:Hd):(some h).isSome=true:=rfl
theorem sp0 {a:As} {R L:List As} (h:R.Perm L):(a::R).Perm (a::L):=h.cons a
theorem sp1 {a A:As} {R L:List As} (h:(A::R).Perm L):(A::a::R).Perm (a::L):=((List.perm_middle (l₁:=[A]) (a:=a) (l₂:=R))).trans (h.cons a)
theorem sp2 {a A B:As} {R L:List As} (h:(A::B::R).Perm L):(A::B::a::R).Perm (a::L):=((List.perm_middle (l₁:=[A,B]) (a:=a) (l₂:=R))).trans (h.cons a)
theorem sp3 {a A B C:As} {R L:List As} (h:(A::B::C::R).Perm L):(A::B::C::a::R).Perm (a::L):=((List.perm_middle (l₁:=[A,B,C]) (a:=a) (l₂:=R))).trans (h.cons a)
theorem sp4 {a A B C D:As} {R L:List As} (h:(A::B::C::D::R).Perm L):(A::B::C::D::a::R).Perm (a::L):=((List.perm_middle (l₁:=[A,B,C,D]) (a:=a) (l₂:=R))).trans (h.cons a)
theorem sp5 {a A B C D E:As} {R L:List As} (h:(A::B::C::D::E::R).Perm L):(A::B::C::D::E::a::R).Perm (a::L):=((List.perm_middle (l₁:=[A,B,C,D,E]) (a:=a) (l₂:=R))).trans (h.cons a)
theorem sp6 {a A B C D E F:As} {R L:List As} (h:(A::B::C::D::E::F::R).Perm L):(A::B::C::D::E::F::a::R).Perm (a::L):=((List.perm_middle (l₁:=[A,B,C,D,E,F]) (a:=a) (l₂:=R))).trans (h.cons a)
theorem sp7 {a A B C D E F G:As} {R L:List As} (h:(A::B::C::D::E::F::G::R).Perm L):(A::B::C::D::E::F::G::a::R).Perm (a::L):=((List.perm_middle (l₁:=[A,B,C,D,E,F,G]) (a:=a) (l₂:=R))).trans (h.cons a)
theorem sp8 {a A B C D E F G H:As} {R L:List As} (h:(A::B::C::D::E::F::G::H::R).Perm L):(A::B::C::D::E::F::G::H::a::R).Perm (a::L):=((List.perm_middle (l₁:=[A,B,C,D,E,F,G,H]) (a:=a) (l₂:=R))).trans (h.cons a)
theorem sp9 {a A B C D E F G H I:As} {R L:List As} (h:(A::B::C::D::E::F::G::H::I::R).Perm L):(A::B::C::D::E::F::G::H::I::a::R).Perm (a::L):=((List.perm_middle (l₁:=[A,B,C,D,E,F,G,H,I]) (a:=a) (l₂:=R))).trans (h.cons a)
theorem sp10 {a A B C D E F G H I J:As} {R L:List As} (h:(A::B::C::D::E::F::G::H::I::J::R).Perm L):(A::B::C::D::E::F::G::H::I::J::a::R).Perm (a::L):=((List.perm_middle (l₁:=[A,B,C,D,E,F,G,H,I,J]) (a:=a) (l₂:=R))).trans (h.cons a)
theorem sp11 {a A B C D E F G H I J K:As} {R L:List As} (h:(A::B::C::D::E::F::G::H::I::J::K::R).Perm L):(A::B::C::D::E::F::G::H::I::J::K::a::R).Perm (a::L):=((List.perm_middle (l₁:=[A,B,C,D,E,F,G,H,I,J,K]) (a:=a) (l₂:=R))).trans (h.cons a)
theorem pp {l l':List As} (h:l.Perm l':=by
 repeat (first|exact List.Perm.refl _|with_reducible refine sp0 ?_|with_reducible refine sp1 ?_|with_reducible refine sp2 ?_|with_reducible refine sp3 ?_|with_reducible refine sp4 ?_|with_reducible refine sp5 ?_|with_reducible refine sp6 ?_|with_reducible refine sp7 ?_|with_reducible refine sp8 ?_|with_reducible refine sp9 ?_|with_reducible refine sp10 ?_|with_reducible refine sp11 ?_)):l.Perm l':=h
theorem znf {G:Gh} {b:Nat} {v:Option (List D)} (h:G.c b=none):zez G (G.set b v):=zez.set h v
theorem zme {G G' G2:Gh} (h:zez G G') (h2:zez G' G2):zez G G2:=⟨fun b cs e=>h2.1 b cs (h.1 b cs e),fun b o e=>h2.2 b o (h.2 b o e)⟩
theorem zng (p:Nat) (first half at_:Int) (g:FuncId) (cs:List D) (σ:List Hp) (G:Gh):zaz Tryz.prog f_zz44 (([eP p first half,eI at_,.clo g cs]++[]).map .d) σ G fun r σ' G'=>σ'=σ∧zez G G'∧∃ b1 b2 b3,r=.d (.clo f_zz32 [.gp b1 0,.gp b2 0,.gp b3 0])∧∀ R,Sep R G→Sep (za b3 [.clo g cs]::za b2 [eI at_]::za b1 [.gp p 0,eI first,eI half]::R) G':=by
 refine zm fol zz44_cp ?_
 refine goS trivial ?_
 refine goR trivial ?_
 refine zx fun b1 hb1=>?_
 refine goS trivial ?_
 refine goR trivial ?_
 refine zx fun b2 hb2=>?_
 refine goS trivial ?_
 refine goR trivial ?_
 refine zx fun b3 hb3=>?_
 refine goS trivial ?_
 refine goR trivial ?_
 refine Fin.eq rfl ⟨rfl,zme (zme (znf hb1) (znf hb2)) (znf hb3),b1,b2,b3,rfl,fun R hs=>?_⟩
 exact Sep.new (cs:=[.clo g cs]) hb3 (Sep.new (cs:=[.int .i64 at_]) hb2 (Sep.new (cs:=[.gp p 0,.int .i64 first,.int .i64 half]) hb1 hs))
theorem ziq (p:Nat) (d:Dk) (first half at_:Int) (h1:0≤at_∧at_<1000000) (b1 b2 b3 l:Nat) (g:FuncId) (cs:List D) (T:Sec→Bool) (J:Nat→Gh→Prop) (S:Gh→Prop) (σ:List Hp) (G:Gh) (hJ:J 0 G)
 (hb:∀ k G',J k G'→∃ R,Sep (zf p d::za b3 [.clo g cs]::za b2 [eI at_]::za b1 [.gp p 0,eI first,eI half]::R) G')
 (ht:∀ k G',J k G'→∀ s,zld Tryz.prog g ([eS s]++cs) G' (·=.d (.bool (T s))))
 (hskip:∀ k G',k<2→J k G'→¬ ((rd d (at_+k)).2=0∧T (rd d (at_+k)).1=true)→J (k+1) G')
 (hstep:∀ k G',k<2→J k G'→(rd d (at_+k)).2=0→T (rd d (at_+k)).1=true→∀ σ,zlc Tryz.prog l [eS (rd d (at_+k)).1] σ G' fun r lv G2=>lv=σ∧(r=.d (.bool true)∧J (k+1) G2∨r=.d (.bool false)∧S G2)) :
 zaz Tryz.prog f_zz32 ([.yld l,.gp b1 0,.gp b2 0,.gp b3 0].map .d) σ G fun _ σ' G'=>σ'=σ∧(J 2 G'∨S G'):=by
 refine zm fol zz32_cp ?_
 refine goS trivial ?_
 refine goR trivial ?_
 refine W.loop (fun m st=>∃ (k:Nat) (b6:Blk) (G1:Gh),k≤2∧m=2 - k∧J k G1 ∧
  st=(E [(0,.d (.yld l)),(1,.d (.gp b1 0)),(2,.d (.gp b2 0)),(3,.d (.gp b3 0)),(8,.d (eI k))],HB [(6,b6)],σ,G1))
  ⟨_,_,z7 (zkd [] [6] rfl).symm,0,_,G,by omega,rfl,hJ,rfl⟩ ?_
 rintro m st ⟨k,b6,G1,hk,rfl,hJ1,rfl⟩
 refine goR trivial ?_
 refine zl0 (fun h4=>?_) (fun h4=>?_)
 · have hk':k<2:=by omega
   obtain ⟨R,hs⟩:=hb k G1 hJ1
   have hc1:=hs.f4.get
   have hc2:=hs.f3.get
   have hc3:=hs.swap.get
   have hst:=hstep k G1 hk' hJ1
   have hsk:=hskip k G1 hk' hJ1
   obtain ⟨s,e⟩:∃ s,s=(rd d (at_+k)).1:=⟨_,rfl⟩
   have hss:=zj s
   have hts:=ht k G1 hJ1 s
   have hrd:rd d (at_+k)=(s,(rd d (at_+k)).2):=by rw [e]
   rw [← e] at hst hsk
   generalize (rd d (at_+k)).2=er at hrd hst hsk
   have hq:=(z3t p d (at_+k)).q hs
   rw [hrd] at hq
   by_cases e0:er=0
   · subst e0
     (refine zb7 (nn hc1 (nn hc2 (nn hc3 hss))) (hq) ?_;(repeat' (with_reducible apply Br.mk<;>intro _)))
     refine goK (vs:=[eS s]) (cs:=cs) hts ?_
     generalize T s=t at *
     cases t
     · have hJ2:=hsk fun h=>Bool.noConfusion h.2
       refine goS hss ?_
       (refine goX hss ?_;(repeat' (with_reducible apply Br.mk<;>intro _)))
       refine ⟨_,_,?_,z7 (by rfl),k+1,_,G1,by omega,rfl,hJ2,rfl⟩
       omega
     · refine goS hss ?_
       refine goR hss ?_
       apply wC_y (hst rfl rfl _) goD goD
       rintro r G2 (⟨rfl,hJ2⟩|⟨rfl,hS⟩)
       · refine goS trivial ?_
         refine goR trivial ?_
         refine ⟨_,_,?_,z7 (by rfl),k+1,_,G2,by omega,rfl,hJ2,rfl⟩
         omega
       · refine goS trivial ?_
         refine goR trivial ?_
         exact Fin.eq rfl ⟨rfl,.inr hS⟩
   · have hJ2:=hsk fun h=>e0 h.1
     (refine zb7 (nn hc1 (nn hc2 (nn hc3 (nn hss e0)))) (hq) ?_;(repeat' (with_reducible apply Br.mk<;>intro _)))
     refine ⟨_,_,?_,z7 (by rfl),k+1,_,G1,by omega,rfl,hJ2,rfl⟩
     omega
 · obtain rfl:k=2:=by omega
   refine goR trivial ?_
   exact Fin.eq rfl ⟨rfl,.inl hJ1⟩
theorem z9m (b side:Nat) (hside:side<1000000) (s:Sec) (R:List As) (G:Gh) (hs:Sep (za b [eI side]::R) G):zld Tryz.prog f_zz18 ([eS s]++[.gp b 0]) G (·=.d (.bool (isH s side))):=by
 intro σ
 refine zm fol zz18_cp ?_
 have hc:=hs.get
 have hss:=zj s
 refine goS trivial ?_
 (refine zb7 (nn hc hss) (zw4 s side hside) ?_;(repeat' (with_reducible apply Br.mk<;>intro _)))
 exact Fin.eq rfl ⟨rfl,rfl,rfl⟩
theorem z9n (b b' side k:Nat) (hside:side<1000000) (hk:k<1000000) (s:Sec) (R:List As) (G:Gh) (hs:Sep (za b [eI side]::za b' [eI k]::R) G):zld Tryz.prog f_zz19 ([eS s]++[.gp b 0,.gp b' 0]) G (·=.d (.bool (isF s side k))):=by
 intro σ
 refine zm fol zz19_cp ?_
 have hc:=hs.get
 have hc2:=hs.swap.get
 have hss:=zj s
 refine goS trivial ?_
 (refine zb7 (nn hc (nn hc2 hss)) (zhx s side k hside hk) ?_;(repeat' (with_reducible apply Br.mk<;>intro _)))
 exact Fin.eq rfl ⟨rfl,rfl,rfl⟩
end Go.Proofs.YtpplfpnjfjnkdaaGreatDoor
namespace Go.Proofs.YtpplfpnjfjnkdaaGreatDoor
open Go Go.E2 C22 C23 CW
set_option maxHeartbeats 8000000
def hO (o:Option Hd):Hd:=o.getD ⟨0,0⟩
def hC (a b:Option Hd):List D:=[eN (hO a).g,eN (hO a).n,eN (hO b).g,eN (hO b).n]
def sC (a b:Option Hd):List D:=[.bool a.isSome,.bool b.isSome]
theorem z2b (x p:Hd):(0<(if zo7 (x.g:Int) p.g≠0 then zo7 (x.g:Int) p.g else zo7 (x.n:Int) p.n))↔p.lt x=true:=by
 unfold zo7 Hd.lt
 by_cases h1:x.g<p.g
 · have:¬ p.g<x.g:=by omega
   have e:¬ p.g=x.g:=by omega
   simp [h1,this,e]
 · by_cases h2:p.g<x.g
   · simp [h1,h2]
   · have e:p.g=x.g:=by omega
     by_cases h3:x.n<p.n
     · have:¬ p.n<x.n:=by omega
       simp [e,h3,this]
     · by_cases h4:p.n<x.n<;>simp [e,h3,h4]
theorem zg1 (p:Nat) (d:Dk) (first:Int) (half:Nat) (h1:0≤first) (h2:4≤half) (h3:first+2 * half≤100000) :
 zaq Tryz.prog f_zz33 [eP p first half] [zf p d] (fun r post=>r=.tup [.agg (hC (z1 (hds d first 0)) (z1 (hds d (first+half) 1))),.agg (sC (z1 (hds d first 0)) (z1 (hds d (first+half) 1))),eN (zz d first half)]∧post=[zf p d]):=by
 refine zu fol zz33_cp fun R G σ hs=>?_
 have hs:Sep (zf p d::R) G:=hs
 refine goS trivial ?_
 refine goR trivial ?_
 refine zx fun g2 hg2=>?_
 have hs2:=Sep.new (cs:=[.int .i64 0,.int .i64 0,.int .i64 0,.int .i64 0]) hg2 hs
 generalize G.set g2 _=G2 at hs2 ⊢
 refine goS trivial ?_
 refine goR trivial ?_
 refine zx fun g3 hg3=>?_
 have hs3:=Sep.new (cs:=[.bool false,.bool false]) hg3 hs2
 generalize G2.set g3 _=G3 at hs3 ⊢
 refine goS trivial ?_
 refine goR trivial ?_
 refine zx fun g4 hg4=>?_
 have hs4:=Sep.new (cs:=[.int .i64 0]) hg4 hs3
 generalize G3.set g4 _=G4 at hs4 ⊢
 refine goS trivial ?_
 refine goR trivial ?_
 have hs4:Sep (za g4 [eN 0]::za g3 (sC none none)::za g2 (hC none none)::zf p d::R) G4:=hs4
 have hs4:Sep (zf p d::za g2 (hC none none)::za g3 (sC none none)::za g4 [eN 0]::R) G4:=hs4.perm pp
 obtain ⟨a,ha⟩:∃ a,a=z1 (hds d first 0):=⟨_,rfl⟩
 obtain ⟨b,hb⟩:∃ b,b=z1 (hds d (first+half) 1):=⟨_,rfl⟩
 refine W.loop (fun m st=>∃ (k:Nat) (a' b':Option Hd) (n:Nat) (G5:Gh),m=2 - k∧((k=0∧a'=none∧b'=none∧n=0)∨(k=1∧a'=a∧b'=none∧n=max (most ((hds d first 0).map (·.n))) (zkz d first 0 (half / 2 - 1)))∨(k=2∧a'=a∧b'=b∧n+1=zz d first half)) ∧
  Sep (zf p d::za g2 (hC a' b')::za g3 (sC a' b')::za g4 [eN n]::R) G5 ∧
  st=(E [(10,.d (eI k)),(1,.ptr 0 1 1 0),(2,.d (.gp g2 0)),(3,.d (.gp g3 0)),(4,.d (.gp g4 0))],HB [(1,⟨1,some [.gp p 0,eI first,eI half]⟩)],σ,G5))
  ⟨_,_,z7 (by rfl),0,none,none,0,G4,rfl,.inl ⟨rfl,rfl,rfl,rfl⟩,hs4,rfl⟩ ?_
 rintro m st ⟨k,a',b',n,G5,rfl,hk,hs5,rfl⟩
 have hk3:k≤2:=by omega
 by_cases h4:(k:Int)<2
 case neg =>
  obtain rfl:k=2:=by omega
  obtain ⟨h5,h7,h8⟩:a'=a∧b'=b∧n+1=zz d first half:=by
   rcases hk with ⟨hk0,_⟩|⟨hk0,_⟩|⟨_,h⟩
   · omega
   · omega
   · exact h
  have hbl:=zh3 d first half
  rw [← ha,← hb,← h8]
  rw [← h8] at hbl
  subst h5 h7
  have hs6:Sep (za g2 (hC a' b')::za g3 (sC a' b')::za g4 [eN n]::zf p d::R) G5:=hs5.perm pp
  have c2:=hs6.get
  have c3:=hs6.tail.get
  have c4:=hs6.tail.tail.get
  have hl2:(hC a' b').length=4:=rfl
  have hl3:(sC a' b').length=2:=rfl
  have t2:List.take 4 (hC a' b')=hC a' b':=rfl
  have t3:List.take 2 (sC a' b')=sC a' b':=rfl
  have u2:(hC a' b').all D.one=true:=rfl
  have u3:(sC a' b').all D.one=true:=rfl
  have d2:List.drop 4 (hC a' b')=[]:=rfl
  have d3:List.drop 2 (sC a' b')=[]:=rfl
  generalize hC a' b'=H at *
  generalize sC a' b'=F at *
  have i1:=hs6.set (cs':=H)
  have c3a:=i1.tail.get
  have c4a:=i1.tail.tail.get
  have i2:=i1.swap.set (cs':=F)
  have c4b:=i2.tail.tail.get
  have hs7:=i2.f3.set (cs':=[.int .i64 ((n:Int)+1)])
  have c2':=hs7.tail.tail.get
  have c3':=hs7.tail.get
  have c4':=hs7.get
  simp only [Gh.set_c] at c2' c3' c4' c3a c4a c4b
  (refine goX (nn h4 (nn c2 (nn c3 (nn c4 (nn hl2 (nn hl3 (nn t2 (nn t3 (nn u2 (nn u3 (nn d2 (nn d3 (nn c3a (nn c4a (nn c4b lan))))))))))))))) ?_;(repeat' (with_reducible apply Br.mk<;>intro _)))
  (apply Fin.eq;(focus (simp -dsimp (disch:=first|omega|(simp only [go_sem];omega)) only [go_sem,seval,Nat.reduceEqDiff,Nat.reduceLeDiff,c2',c3',c4',hl2,hl3,t2,t3,u2,u3]<;>rfl)))
  exact ⟨rfl,_,⟨rfl,rfl⟩,hs7.tail.tail.tail⟩
 have hk2:k=0∨k=1:=by omega
 obtain ⟨at_,hat⟩:∃ at_:Int,at_=first+k * half:=⟨_,rfl⟩
 have hatb:0≤at_∧at_+half≤100000:=by rcases hk2 with rfl|rfl<;>constructor<;>omega
 have hh:=zfr p first half k (by omega) (by omega) hk2
 rw [← hat] at hh
 refine goR h4 ?_
 refine zx fun g5 hg5=>?_
 have hs6:=Sep.new (cs:=[.int .i64 0]) hg5 hs5
 generalize G5.set g5 _=G6 at hs6 ⊢
 have c5:=hs6.get
 refine goS c5 ?_
 have hs7:=hs6.set (cs':=[eI k])
 have c7:=hs7.get
 generalize G6.set g5 _=G7 at hs7 c7 ⊢
 refine goR c7 ?_
 (refine zb7 c7 (hh) ?_;(repeat' (with_reducible apply Br.mk<;>intro _)))
 refine zzh (xs:=[eP p first half,eI at_,.clo f_zz18 [.gp g5 0]]) (cs:=[]) (fun σ=>zng p first half at_ f_zz18 [.gp g5 0] σ G7) (fun _ _ h=>h.1) goD goD ?_
 rintro _ G8 ⟨-,b1,b2,b3,rfl,hs8⟩
 have hs8:=hs8 _ hs7
 refine goS trivial ?_
 refine goR trivial ?_
 obtain ⟨l0,hl0⟩:∃ l0:List (Nat×AV),l0=[(18,.d (.clo f_zz32 [.gp b1 0,.gp b2 0,.gp b3 0])),(5,.d (.gp g5 0)),(10,.d (eI k)),(1,.ptr 0 1 1 0),(2,.d (.gp g2 0)),(3,.d (.gp g3 0)),(4,.d (.gp g4 0))]:=⟨_,rfl⟩
 refine W.weaken (zkc (l':=[(18,.d (.clo f_zz32 [.gp b1 0,.gp b2 0,.gp b3 0])),(5,.d (.gp g5 0)),(10,.d (eI k)),(1,.ptr 0 1 1 0),(2,.d (.gp g2 0)),(3,.d (.gp g3 0)),(4,.d (.gp g4 0))]) (by (simp -dsimp (disch:=first|omega|(simp only [go_sem];omega)) only [go_sem,seval,Nat.reduceEqDiff,Nat.reduceLeDiff]<;>((repeat' apply And.intro)<;>first|exact VLe.refl _|(apply zaa;omega)|(apply zaa;simp;done)|exact VLe.own _ _|exact VLe.nilown _|exact VLe.norm _)))) ?_
 refine W.rangeF (caps:=[.gp b1 0,.gp b2 0,.gp b3 0]) (zb3 zz32_cp) goD fun l hlm=>?_
 rw [← hl0]
 obtain ⟨MO0,hMO⟩:∃ m0:MO,m0=.loop Tryz.prog (E l0) [19] zat journal_part_greatest_y0b:=⟨_,rfl⟩
 rw [← hMO]
 have hs9:=Sep.newM (o:=MO0) hlm hs8
 obtain ⟨T,hT⟩:∃ T:Sec→Bool,T=fun s=>isH s k:=⟨_,rfl⟩
 obtain ⟨o,ho⟩:∃ o:Nat→Option Hd,o=fun j=>z1 ((zg2 d at_ T j).map hdOf):=⟨_,rfl⟩
 obtain ⟨A,hA⟩:∃ A:Nat→Option Hd,A=fun j=>if k=0 then o j else a':=⟨_,rfl⟩
 obtain ⟨B,hB⟩:∃ B:Nat→Option Hd,B=fun j=>if k=0 then b' else o j:=⟨_,rfl⟩
 obtain ⟨N,hN⟩:∃ N:Nat→Nat,N=fun j=>max n (most (((zg2 d at_ T j).map hdOf).map (·.n))):=⟨_,rfl⟩
 have kk:(k=0∧a'=none∧b'=none)∨(k=1∧b'=none):=by
  rcases hk with ⟨h,h',h'',_⟩|⟨h,_,h'',_⟩|⟨h,_⟩
  · exact .inl ⟨h,h',h''⟩
  · exact .inr ⟨h,h''⟩
  · omega
 have o0:o 0=none:=by rw [ho];rfl
 have hA0:A 0=a':=by
  rw [hA]
  rcases kk with ⟨rfl,h,_⟩|⟨rfl,_⟩
  · rw [h];exact o0
  · rfl
 have hB0:B 0=b':=by
  rw [hB]
  rcases kk with ⟨rfl,_,h⟩|⟨rfl,h⟩
  · rfl
  · rw [h];exact o0
 have hN0:N 0=n:=by rw [hN];exact Nat.max_eq_left (Nat.zero_le _)
 refine (ziq p d first half at_ (by omega) b1 b2 b3 l f_zz18 [.gp g5 0] T
  (fun j G'=>Sep (zgu l MO0::zf p d::za b3 [.clo f_zz18 [.gp g5 0]]::za b2 [eI at_]::za b1 [.gp p 0,eI first,eI half]::za g5 [eI k]::za g2 (hC (A j) (B j))::za g3 (sC (A j) (B j))::za g4 [eN (N j)]::R) G')
  (fun _=>False) _ _ ?_ ?_ ?_ ?_ ?_).mono ?_
 · rw [hA0,hB0,hN0]
   exact hs9.perm pp
 · intro j G' h
   exact ⟨_,h.tail⟩
 · intro j G' h s
   rw [hT]
   have h2:Sep (za g5 [eI k]::zgu l MO0::zf p d::za b3 [.clo f_zz18 [.gp g5 0]]::za b2 [eI at_]::za b1 [.gp p 0,eI first,eI half]::za g2 (hC (A j) (B j))::za g3 (sC (A j) (B j))::za g4 [eN (N j)]::R) G':=h.perm pp
   exact z9m g5 k (by omega) s _ G' h2
 · intro j G' hj h hno
   have e:=zgg hno
   have eA:A (j+1)=A j:=by rw [hA,ho];simp only [e]
   have eB:B (j+1)=B j:=by rw [hB,ho];simp only [e]
   have eN:N (j+1)=N j:=by rw [hN];simp only [e]
   rw [eA,eB,eN]
   exact h
 · intro j G' hj h hrd hTs σ'
   have e:=zgh hrd hTs
   generalize (rd d (at_+(j:Int))).1=s at *
   have eo:o (j+1)=zc9 (o j) (hdOf s):=by rw [ho];simp only [e,yk6Q,List.map_cons,List.map_nil];rw [zpn]
   have eN1:N (j+1)=max (N j) (hdOf s).n:=by
    rw [hN]
    simp only [e,yk6Q,List.map_cons,List.map_nil]
    rw [zk0,Nat.max_assoc]
   have hsd:=Sep.dropM h
   have hml:(G'.setM l none).m l=none:=by simp [upd]
   have hgm:G'.m l=some (.loop Tryz.prog (E l0) [19] zat journal_part_greatest_y0b):=by rw [← hMO];exact h.getM
   refine zf6 fol hgm rfl (zid l0 [(5,.gp g5 0),(2,.gp g2 0),(3,.gp g3 0),(4,.gp g4 0)] 19 (eS s) (by rw [hl0];simp [E])) ?_
   generalize G'.setM l none=G9 at hsd hml ⊢
   have c5:G9.c g5=some [eI k]:=hsd.tail.tail.tail.tail.get
   have hq:Sep (za g4 [eN (N j)]::za g2 (hC (A j) (B j))::za g3 (sC (A j) (B j))::zf p d::za b3 [.clo f_zz18 [.gp g5 0]]::za b2 [eI at_]::za b1 [.gp p 0,eI first,eI half]::za g5 [eI k]::R) G9:=hsd.perm pp
   have c4:=hq.get
   have c2:=hq.tail.get
   have c3:=hq.tail.tail.get
   have hss:=zj s
   have hrh:=zqz s
   have e1:be (tx s 8 12)=(hdOf s).g:=rfl
   have e2:be (tx s 12 16)=(hdOf s).n:=rfl
   rw [e1,e2] at hrh
   generalize hdOf s=x at *
   have hq4:=hq.set (cs':=[.int .i64 (max (N j:Int) (x.n:Int))])
   have hmax:max (N j:Int) (x.n:Int)=((N (j+1):Nat):Int):=by rw [eN1];omega
   have c5':=hq4.tail.tail.tail.tail.tail.tail.tail.get
   have c2':=hq4.tail.get
   have c3':=hq4.tail.tail.get
   have hml4:(G9.set g4 (some [.int .i64 (max (N j:Int) (x.n:Int))])).m l=none:=by rw [Gh.set_m];exact hml
   have hce:za g4 [.int .i64 (max (N j:Int) (x.n:Int))]=za g4 [eN (N (j+1))]:=by rw [hmax]
   simp only [Gh.set_c] at c5' c2' c3'
   have fin:∀ G',Sep (za g3 (sC (A (j+1)) (B (j+1)))::za g2 (hC (A (j+1)) (B (j+1)))::za g4 [eN (N (j+1))]::zf p d::za b3 [.clo f_zz18 [.gp g5 0]]::za b2 [eI at_]::za b1 [.gp p 0,eI first,eI half]::za g5 [eI k]::R) G'→G'.m l=none →
    Sep (zgu l MO0::zf p d::za b3 [.clo f_zz18 [.gp g5 0]]::za b2 [eI at_]::za b1 [.gp p 0,eI first,eI half]::za g5 [eI k]::za g2 (hC (A (j+1)) (B (j+1)))::za g3 (sC (A (j+1)) (B (j+1)))::za g4 [eN (N (j+1))]::R) (G'.setM l (some (.loop Tryz.prog (E l0) [19] zat journal_part_greatest_y0b))):=fun G' hG hm=>by
    rw [← hMO]
    exact (Sep.newM (o:=MO0) (r:=l) hm hG).perm pp
   rcases kk with ⟨rfl,ha',hb'⟩|⟨rfl,hb'⟩
   · have eA:∀ j,A j=o j:=fun j=>by rw [hA];rfl
     have eB:∀ j,B j=none:=fun j=>by rw [hB,← hb'];rfl
     rw [eA,eB] at c2' c3' hq4
     rw [eA,eB] at fin
     rw [eA,eB]
     rw [eo] at fin ⊢
     have hq5:=hq4.swap.set (cs':=[eN x.g,eN x.n,eN 0,eN 0])
     have c5'':=hq5.tail.tail.tail.tail.tail.tail.tail.get
     have c3'':=hq5.tail.tail.get
     have hq6:=hq5.f3.set (cs':=[.bool true,.bool false])
     rw [hce] at hq6 hq4
     simp only [Gh.set_c,hO] at c5'' c3''
     cases hoj:o j with
     | none =>
      rw [hoj] at c2' c3' c3'' hq4 fin
      have hfn:=fin _ hq6 (by simp only [Gh.set_m];exact hml)
      simp only [hC,sC,hO,Option.getD_none,Option.isSome_none] at c2' c3' c3''
      refine goS trivial ?_
      (refine zb7 (nn c4 (nn hss (nn c5' (nn c2' (nn c3' (nn c5'' c3'')))))) (hrh) ?_;(repeat' (with_reducible apply Br.mk<;>intro _)))
      exact ⟨rfl,.inl ⟨rfl,hfn⟩⟩
     | some q =>
      rw [hoj] at c2' c3' c3'' hq4 fin
      have hcp:=zmc x.g x.n q.g q.n
      have hlt:=z2b x q
      generalize (if zo7 (x.g:Int) q.g≠0 then zo7 (x.g:Int) q.g else zo7 (x.n:Int) q.n)=C at hcp hlt
      simp only [hC,sC,hO,Option.getD_none,Option.isSome_none,Option.getD_some,Option.isSome_some] at c2' c3' c3''
      by_cases hl:q.lt x=true
      · have hl1:(0<C)=True:=eq_true (hlt.2 hl)
        have eb:zc9 (some q) x=some x:=if_pos hl
        rw [eb] at fin
        have hfn:=fin _ hq6 (by simp only [Gh.set_m];exact hml)
        rw [eb]
        refine goS trivial ?_
        (refine zgi (nn c4 (nn hss (nn c5' (nn c2' (nn c3' (nn c5'' (nn c3'' hl1))))))) (hrh) (hcp) ?_;(repeat' (with_reducible apply Br.mk<;>intro _)))
        exact ⟨rfl,.inl ⟨rfl,hfn⟩⟩
      · have hl1:(0<C)=False:=eq_false fun h=>hl (hlt.1 h)
        have eb:zc9 (some q) x=some q:=if_neg hl
        rw [eb] at fin
        have hfn:=fin _ hq4.swap.f3 hml
        rw [eb]
        refine goS trivial ?_
        (refine zgi (nn c4 (nn hss (nn c5' (nn c2' (nn c3' (nn c5'' (nn c3'' hl1))))))) (hrh) (hcp) ?_;(repeat' (with_reducible apply Br.mk<;>intro _)))
        exact ⟨rfl,.inl ⟨rfl,hfn⟩⟩
   · have eA:∀ j,A j=a':=fun j=>by rw [hA];rfl
     have eB:∀ j,B j=o j:=fun j=>by rw [hB];rfl
     rw [eA,eB] at c2' c3' hq4
     rw [eA,eB] at fin
     rw [eA,eB]
     rw [eo] at fin ⊢
     have hq5:=hq4.swap.set (cs':=[eN (hO a').g,eN (hO a').n,eN x.g,eN x.n])
     have c5'':=hq5.tail.tail.tail.tail.tail.tail.tail.get
     have c3'':=hq5.tail.tail.get
     have hq6:=hq5.f3.set (cs':=[.bool a'.isSome,.bool true])
     rw [hce] at hq6 hq4
     simp only [Gh.set_c,hO] at c5'' c3''
     cases hoj:o j with
     | none =>
      rw [hoj] at c2' c3' c3'' hq4 fin
      have hfn:=fin _ hq6 (by simp only [Gh.set_m];exact hml)
      simp only [hC,sC,hO,Option.getD_none,Option.isSome_none] at c2' c3' c3''
      refine goS trivial ?_
      (refine zb7 (nn c4 (nn hss (nn c5' (nn c2' (nn c3' (nn c5'' c3'')))))) (hrh) ?_;(repeat' (with_reducible apply Br.mk<;>intro _)))
      exact ⟨rfl,.inl ⟨rfl,hfn⟩⟩
     | some q =>
      rw [hoj] at c2' c3' c3'' hq4 fin
      have hcp:=zmc x.g x.n q.g q.n
      have hlt:=z2b x q
      generalize (if zo7 (x.g:Int) q.g≠0 then zo7 (x.g:Int) q.g else zo7 (x.n:Int) q.n)=C at hcp hlt
      simp only [hC,sC,hO,Option.getD_none,Option.isSome_none,Option.getD_some,Option.isSome_some] at c2' c3' c3''
      by_cases hl:q.lt x=true
      · have hl1:(0<C)=True:=eq_true (hlt.2 hl)
        have eb:zc9 (some q) x=some x:=if_pos hl
        rw [eb] at fin
        have hfn:=fin _ hq6 (by simp only [Gh.set_m];exact hml)
        rw [eb]
        refine goS trivial ?_
        (refine zgi (nn c4 (nn hss (nn c5' (nn c2' (nn c3' (nn c5'' (nn c3'' hl1))))))) (hrh) (hcp) ?_;(repeat' (with_reducible apply Br.mk<;>intro _)))
        exact ⟨rfl,.inl ⟨rfl,hfn⟩⟩
      · have hl1:(0<C)=False:=eq_false fun h=>hl (hlt.1 h)
        have eb:zc9 (some q) x=some q:=if_neg hl
        rw [eb] at fin
        have hfn:=fin _ hq4.swap.f3 hml
        rw [eb]
        refine goS trivial ?_
        (refine zgi (nn c4 (nn hss (nn c5' (nn c2' (nn c3' (nn c5'' (nn c3'' hl1))))))) (hrh) (hcp) ?_;(repeat' (with_reducible apply Br.mk<;>intro _)))
        exact ⟨rfl,.inl ⟨rfl,hfn⟩⟩
 · rintro r lv G' ⟨rfl,(h|h)⟩
   case inr=>exact h.elim
   refine ⟨rfl,.inl ⟨h.getM,?_⟩⟩
   have hsd:=Sep.dropM h
   generalize G'.setM l none=G9 at hsd ⊢
   have hsd:Sep (zf p d::za g5 [eI k]::za g2 (hC (A 2) (B 2))::za g3 (sC (A 2) (B 2))::za g4 [eN (N 2)]::R) G9:=(hsd.perm (l':=za b3 [.clo f_zz18 [.gp g5 0]]::za b2 [eI at_]::za b1 [.gp p 0,eI first,eI half]::zf p d::za g5 [eI k]::za g2 (hC (A 2) (B 2))::za g3 (sC (A 2) (B 2))::za g4 [eN (N 2)]::R) pp).tail.tail.tail
   have hpas:(zg2 d at_ T 2).map hdOf=hds d at_ k:=by rw [hT];unfold zg2 hds;rw [zh2]
   have ho2:o 2=z1 (hds d at_ k):=by rw [ho];simp only [hpas]
   have hN2:N 2=max n (most ((hds d at_ k).map (·.n))):=by rw [hN];simp only [hpas]
   have hsl:=zhz p first half (by omega)
   obtain ⟨q,hq⟩:∃ q:Nat,q=half / 2 - 1:=⟨_,rfl⟩
   have hqi:(half:Int) / 2 - 1=(q:Int):=by omega
   rw [hqi] at hsl
   rw [hl0]
   generalize hA2:A 2=A2 at *
   generalize hB2:B 2=B2 at *
   generalize N 2=N2 at *
   refine goS trivial ?_
   (refine zb7 trivial (hsl) ?_;(repeat' (with_reducible apply Br.mk<;>intro _)))
   refine W.loop (fun m st=>∃ (i:Nat) (G1:Gh),i≤q∧m=q - i∧Sep (zf p d::za g5 [eI k]::za g2 (hC A2 B2)::za g3 (sC A2 B2)::za g4 [eN (max N2 (zkz d at_ k i))]::R) G1 ∧
    st=(E [(45,.d (eI i)),(44,.d (eI q)),(5,.d (.gp g5 0)),(10,.d (eI k)),(1,.ptr 0 1 1 0),(2,.d (.gp g2 0)),(3,.d (.gp g3 0)),(4,.d (.gp g4 0))],HB [(1,⟨1,some [.gp p 0,eI first,eI half]⟩)],σ,G1))
    ⟨_,_,z7 (by rfl),0,G9,by omega,rfl,by rw [show max N2 (zkz d at_ k 0)=N2 from Nat.max_eq_left (Nat.zero_le _)];exact hsd,rfl⟩ ?_
   rintro m2 st2 ⟨i,G1,hi,rfl,hs1,rfl⟩
   by_cases h6:(i:Int)<(q:Int)
   case neg =>
    obtain rfl:i=q:=by omega
    (refine goX h6 ?_;(repeat' (with_reducible apply Br.mk<;>intro _)))
    have hst:(k+1=0∧A2=none∧B2=none∧max N2 (zkz d at_ k i)=0)∨(k+1=1∧A2=a∧B2=none∧max N2 (zkz d at_ k i)=max (most ((hds d first 0).map (·.n))) (zkz d first 0 (half / 2 - 1)))∨(k+1=2∧A2=a∧B2=b∧max N2 (zkz d at_ k i)+1=zz d first half):=by
     rcases hk with ⟨hk0,h5,h7,h8⟩|⟨hk0,h5,h7,h8⟩|⟨hk0,_⟩
     · subst hk0
       have ea:at_=first:=by rw [hat];omega
       refine .inr (.inl ⟨rfl,?_,?_,?_⟩)
       · rw [← hA2,hA,ha,← ea];exact ho2
       · rw [← hB2,hB,h7];rfl
       · rw [hN2,h8,ea,hq,Nat.max_eq_right (Nat.zero_le _)]
     · subst hk0
       have ea:at_=first+half:=by rw [hat];omega
       refine .inr (.inr ⟨rfl,?_,?_,?_⟩)
       · rw [← hA2,hA,← h5];rfl
       · rw [← hB2,hB,hb,← ea];exact ho2
       · rw [hN2,h8,ea,hq,Nat.max_assoc];rfl
     · omega
    refine ⟨_,_,?_,z7 (by rfl),k+1,A2,B2,max N2 (zkz d at_ k i),G1,rfl,hst,hs1.swap.tail,rfl⟩
    omega
   have hi':i<q:=by omega
   have hso:=zra p first half k i (by omega) (by omega) hk2 (by omega)
   rw [← hat] at hso
   refine goR h6 ?_
   refine zx fun g8 hg8=>?_
   have ht1:=Sep.new (cs:=[.int .i64 0]) hg8 hs1
   generalize G1.set g8 _=H1 at ht1 ⊢
   have c8:=ht1.get
   refine goS c8 ?_
   have ht2:=ht1.set (cs':=[eI i])
   have c8':=ht2.get
   have c5':=ht2.tail.tail.get
   generalize H1.set g8 _=H2 at ht2 c8' c5' ⊢
   refine goR (nn c8' c5') ?_
   (refine zb7 (nn c8' c5') (hso) ?_;(repeat' (with_reducible apply Br.mk<;>intro _)))
   refine zzh (xs:=[eP p first half,eI (at_+2+2 * i),.clo f_zz19 [.gp g5 0,.gp g8 0]]) (cs:=[]) (fun σ=>zng p first half (at_+2+2 * i) f_zz19 [.gp g5 0,.gp g8 0] σ H2) (fun _ _ h=>h.1) goD goD ?_
   rintro _ H3 ⟨-,e1,e2,e3,rfl,ht3⟩
   have ht3:=ht3 _ ht2
   refine goS trivial ?_
   refine goR trivial ?_
   obtain ⟨l1,hl1⟩:∃ l1:List (Nat×AV),l1=[(54,.d (.clo f_zz32 [.gp e1 0,.gp e2 0,.gp e3 0])),(45,.d (eI i)),(44,.d (eI q)),(5,.d (.gp g5 0)),(10,.d (eI k)),(1,.ptr 0 1 1 0),(2,.d (.gp g2 0)),(3,.d (.gp g3 0)),(4,.d (.gp g4 0))]:=⟨_,rfl⟩
   refine W.weaken (zkc (l':=[(54,.d (.clo f_zz32 [.gp e1 0,.gp e2 0,.gp e3 0])),(45,.d (eI i)),(44,.d (eI q)),(5,.d (.gp g5 0)),(10,.d (eI k)),(1,.ptr 0 1 1 0),(2,.d (.gp g2 0)),(3,.d (.gp g3 0)),(4,.d (.gp g4 0))]) (by (simp -dsimp (disch:=first|omega|(simp only [go_sem];omega)) only [go_sem,seval,Nat.reduceEqDiff,Nat.reduceLeDiff]<;>((repeat' apply And.intro)<;>first|exact VLe.refl _|(apply zaa;omega)|(apply zaa;simp;done)|exact VLe.own _ _|exact VLe.nilown _|exact VLe.norm _)))) ?_
   refine W.rangeF (caps:=[.gp e1 0,.gp e2 0,.gp e3 0]) (zb3 zz32_cp) goD fun l' hlm'=>?_
   rw [← hl1]
   obtain ⟨MO1,hMO1⟩:∃ m0:MO,m0=.loop Tryz.prog (E l1) [55] zbg journal_part_greatest_y1b:=⟨_,rfl⟩
   rw [← hMO1]
   have ht4:=Sep.newM (o:=MO1) hlm' ht3
   obtain ⟨a2,ha2⟩:∃ a2:Int,a2=at_+2+2 * (i:Int):=⟨_,rfl⟩
   rw [← ha2] at ht4
   obtain ⟨T2,hT2⟩:∃ T:Sec→Bool,T=fun s=>isF s k i:=⟨_,rfl⟩
   obtain ⟨M,hM⟩:∃ M:Nat→Nat,M=fun j=>max (max N2 (zkz d at_ k i)) (most ((zg2 d a2 T2 j).map fun s=>be (tx s 4 8))):=⟨_,rfl⟩
   have hM0:M 0=max N2 (zkz d at_ k i):=by rw [hM];exact Nat.max_eq_left (Nat.zero_le _)
   refine (ziq p d first half a2 (by omega) e1 e2 e3 l' f_zz19 [.gp g5 0,.gp g8 0] T2
    (fun j G'=>Sep (zgu l' MO1::zf p d::za e3 [.clo f_zz19 [.gp g5 0,.gp g8 0]]::za e2 [eI a2]::za e1 [.gp p 0,eI first,eI half]::za g5 [eI k]::za g8 [eI i]::za g2 (hC A2 B2)::za g3 (sC A2 B2)::za g4 [eN (M j)]::R) G')
    (fun _=>False) _ _ ?_ ?_ ?_ ?_ ?_).mono ?_
   · rw [hM0]
     exact ht4.perm pp
   · intro j G' h
     exact ⟨_,h.tail⟩
   · intro j G' h s
     rw [hT2]
     have h2:Sep (za g5 [eI k]::za g8 [eI i]::zgu l' MO1::zf p d::za e3 [.clo f_zz19 [.gp g5 0,.gp g8 0]]::za e2 [eI a2]::za e1 [.gp p 0,eI first,eI half]::za g2 (hC A2 B2)::za g3 (sC A2 B2)::za g4 [eN (M j)]::R) G':=h.perm pp
     exact z9n g5 g8 k i (by omega) (by omega) s _ G' h2
   · intro j G' hj h hno
     have e:=zgg hno
     have eM:M (j+1)=M j:=by rw [hM];simp only [e]
     rw [eM]
     exact h
   · intro j G' hj h hrd hTs σ'
     have e:=zgh hrd hTs
     generalize (rd d (a2+(j:Int))).1=s at *
     have eM1:M (j+1)=max (M j) (be (tx s 4 8)):=by
      rw [hM]
      simp only [e,yk6Q,List.map_cons,List.map_nil]
      rw [zk0]
      exact (Nat.max_assoc _ _ _).symm
     have hsd':=Sep.dropM h
     have hml:(G'.setM l' none).m l'=none:=by simp [upd]
     have hgm:G'.m l'=some (.loop Tryz.prog (E l1) [55] zbg journal_part_greatest_y1b):=by rw [← hMO1];exact h.getM
     refine zf6 fol hgm rfl (zid l1 [(4,.gp g4 0)] 55 (eS s) (by rw [hl1];simp [E])) ?_
     generalize G'.setM l' none=H9 at hsd' hml ⊢
     have hq:Sep (za g4 [eN (M j)]::zf p d::za e3 [.clo f_zz19 [.gp g5 0,.gp g8 0]]::za e2 [eI a2]::za e1 [.gp p 0,eI first,eI half]::za g5 [eI k]::za g8 [eI i]::za g2 (hC A2 B2)::za g3 (sC A2 B2)::R) H9:=hsd'.perm pp
     have c4:=hq.get
     have hss:=zj s
     have hrf:=zd3 s
     obtain ⟨rest,hrest⟩:∃ r,r=(tx s 8 16).map eB++[eB (sb s 24),eB (sb s 25)]++(tx s 26 56).map eB:=⟨_,rfl⟩
     have hrf:zw Tryz.prog f_zz39 [eS s] (·=.d (.agg (eN (be (tx s 0 4))::eN (be (tx s 4 8))::rest))):=by rw [hrest];exact hrf
     have hmax:max (M j:Int) ((be (tx s 4 8):Nat):Int)=((M (j+1):Nat):Int):=by rw [eM1];omega
     generalize be (tx s 4 8)=x at *
     have hq4:=hq.set (cs':=[.int .i64 (max (M j:Int) (x:Int))])
     have hce:za g4 [.int .i64 (max (M j:Int) (x:Int))]=za g4 [eN (M (j+1))]:=by rw [hmax]
     rw [hce] at hq4
     refine goS trivial ?_
     (refine zb7 (nn c4 hss) (hrf) ?_;(repeat' (with_reducible apply Br.mk<;>intro _)))
     refine ⟨rfl,.inl ⟨rfl,?_⟩⟩
     rw [← hMO1]
     exact (Sep.newM (o:=MO1) (r:=l') (by simp only [Gh.set_m];exact hml) hq4).perm pp
   · rintro r lv G' ⟨rfl,(h|h)⟩
     case inr=>exact h.elim
     refine ⟨rfl,.inl ⟨h.getM,?_⟩⟩
     have hsd2:=Sep.dropM h
     generalize G'.setM l' none=H9 at hsd2 ⊢
     have hsd2:Sep (zf p d::za g5 [eI k]::za g2 (hC A2 B2)::za g3 (sC A2 B2)::za g4 [eN (M 2)]::R) H9:=(hsd2.perm (l':=za e3 [.clo f_zz19 [.gp g5 0,.gp g8 0]]::za e2 [eI a2]::za e1 [.gp p 0,eI first,eI half]::za g8 [eI i]::zf p d::za g5 [eI k]::za g2 (hC A2 B2)::za g3 (sC A2 B2)::za g4 [eN (M 2)]::R) pp).tail.tail.tail.tail
     have hpas:((zg2 d a2 T2 2).map fun s=>be (tx s 4 8))=fns d a2 k i:=by rw [hT2];unfold zg2 fns;rw [zh2]
     have hM2:M 2=max N2 (zkz d at_ k (i+1)):=by
      rw [hM]
      simp only [hpas]
      rw [ha2,Nat.max_assoc]
      rfl
     rw [hM2] at hsd2
     rw [hl1]
     refine goS trivial ?_
     (refine goX trivial ?_;(repeat' (with_reducible apply Br.mk<;>intro _)))
     refine ⟨_,_,?_,z7 (by rfl),i+1,H9,by omega,rfl,hsd2,rfl⟩
     omega
