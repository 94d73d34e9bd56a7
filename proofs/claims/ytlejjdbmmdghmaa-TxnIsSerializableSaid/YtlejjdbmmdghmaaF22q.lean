/-
 Layer 22 (slots): number and make1.
 Conditions: of each contract as it says.
-/
import Derived.Test.YtlejjdbmmdghmaaF22c
import Derived.Test.YtlejjdbmmdghmaaS22c
import Derived.Test.YtlejjdbmmdghmaaS22f
set_option linter.unusedSimpArgs false
namespace Go.Proofs.Ytlejjdbmmdghmaa
open Go Go.E2 C22
set_option maxHeartbeats 1000000
attribute [go_sem] zr_z0
theorem z5i {x k:Nat} {b:Nat} (hb:b<2 ^ k) (hx:x * 2 ^ k+b<4294967296):zb6 .or (.int .u32 ((x * 2 ^ k:Nat):Int)) (.int .u32 (b:Int))=some (.int .u32 ((x * 2 ^ k+b:Nat):Int)):=by
 have h:=zxb 32 (a:=((x * 2 ^ k:Nat):Int)) (b:=(b:Int)) (by omega) (by omega) (by omega) (by omega)
 have e:((x * 2 ^ k:Nat):Int).toNat ||| (b:Int).toNat=x * 2 ^ k+b:=by
  rw [Int.toNat_natCast,Int.toNat_natCast,Nat.mul_comm,Nat.two_pow_add_eq_or_of_lt hb]
 simp only [zb6,if_true]
 have hb:IntKind.u32.bits=32:=rfl
 rw [hb,h,e]
 congr 2
 exact zqj (by omega) (by omega)
theorem zu5 {A b:Nat} (k:Nat) (hA:A % 2 ^ k=0) (hb:b<2 ^ k) (hx:A+b<4294967296):zb6 .or (.int .u32 (A:Int)) (.int .u32 (b:Int))=some (.int .u32 ((A+b:Nat):Int)):=by
 have e:A=(A / 2 ^ k) * 2 ^ k:=by
  have:=Nat.div_add_mod A (2 ^ k)
  rw [hA,Nat.add_zero,Nat.mul_comm] at this
  exact this.symm
 have:=z5i (x:=A / 2 ^ k) (k:=k) (b:=b) hb (by omega)
 rw [← e] at this
 exact this
theorem zdm (s:Sec) (a:Nat) (ha:a+3<64):zb2 Try.prog f_zz47 [eS s,.int .i64 a] (·=.d (.int .u32 (zbz s a))):=by
 refine zdf fol zz47_cp ?_
 have hb:∀ i,i<64→(List.drop (i * 1) (s.1.map eB)).head?=some (.int .u8 (zaa s i:Int)):=fun i hi=>by
  rw [Nat.mul_one,List.head?_drop,List.getElem?_map,List.getElem?_eq_getElem (by rw [s.2];exact hi),zh5 s hi];rfl
 have b0:=hb a (by omega)
 have b1:=hb (a+1) (by omega)
 have b2:=hb (a+2) (by omega)
 have b3:=hb (a+3) (by omega)
 have l0:=zhb s a
 have l1:=zhb s (a+1)
 have l2:=zhb s (a+2)
 have l3:=zhb s (a+3)
 have t1:((a:Int)+1).toNat=a+1:=by omega
 have t2:((a:Int)+2).toNat=a+2:=by omega
 have t3:((a:Int)+3).toNat=a+3:=by omega
 have o1:=zu5 (A:=zaa s a * 16777216) (b:=zaa s (a+1) * 65536) 24 (by omega) (by omega) (by omega)
 have o2:=zu5 (A:=zaa s a * 16777216+zaa s (a+1) * 65536) (b:=zaa s (a+2) * 256) 16 (by omega) (by omega) (by omega)
 have o3:=zu5 (A:=zaa s a * 16777216+zaa s (a+1) * 65536+zaa s (a+2) * 256) (b:=zaa s (a+3)) 8 (by omega) (by omega) (by omega)
 simp only [Int.natCast_add,Int.natCast_mul,Int.cast_ofNat_Int] at o1 o2 o3
 refine goS trivial ?_
 refine goR (nn b0 (nn b1 (nn b2 (nn b3 (nn t1 (nn t2 (nn t3 (nn o1 (nn o2 o3))))))))) ?_
 exact Fin.p rfl (iE (by unfold zbz;omega))
theorem zh4 (b:Int):IntKind.u8.wrap b=((zj8 b).toNat:Int) :=by
 unfold zj8
 rw [UInt8.toNat_ofNat']
 have e:IntKind.u8.wrap b=b % 256:=rfl
 rw [e]
 omega
def zB (n:Nat):List D:=List.replicate n (.int .u8 0)
def mkT (q:Int):Nat→List D
 | 0=>z0.1.map eB
 | 1=>(qb q).map eB++zB 60
 | _=>(qb q).map eB++zB 28++(qb q).map eB++zB 28
theorem zu6 (q:Int):∀ t,(mkT q t).length=64
 | 0=>rfl
 | 1=>rfl
 | _+2=>rfl
theorem zq6 {n k:Nat} (h:k≤n):zB n=zB k++zB (n - k):=by
 unfold zB
 rw [List.replicate_append_replicate]
 congr 1;omega
theorem z0y (n:Nat) (l:Str):(pad n l).map eB=l.map eB++zB (n - l.length):=by
 unfold pad zB
 rw [List.map_append,List.map_replicate];rfl
theorem zu7 (q:Int) (b:Str) (hb:b.length≤55):(mk1 q b).1.map eB=(qb q).map eB++((b.take 28).map eB++zB (28 - (b.take 28).length))++(qb q).map eB++[eB (UInt8.ofNat b.length)]++((b.drop 28).map eB++zB (27 - (b.drop 28).length)):=by
 have h3:(b.drop 28).take 27=b.drop 28:=List.take_of_length_le (by rw [List.length_drop];omega)
 have h1:(pad 28 (b.take 28)).length=28:=zeo (by simp;omega)
 have h2:(pad 27 (b.drop 28)).length=27:=zeo (by rw [List.length_drop];omega)
 unfold mk1
 simp only [h3]
 rw [List.take_of_length_le (by simp only [List.length_append,h1,h2,qb,List.length_cons,List.length_nil];omega)]
 simp only [List.map_append,z0y,List.map_cons,List.map_nil]
theorem zu8 (q:Int) (x:D) (b:Str):zbb ((qb q).map eB++zB 28++(qb q).map eB++[x]++zB 27) ((b.take 28).map eB) 4=(qb q).map eB++((b.take 28).map eB++zB (28 - (b.take 28).length))++(qb q).map eB++[x]++zB 27:=by
 have hk:(b.take 28).length≤28:=by rw [List.length_take];omega
 have e:=zt8 (pre:=(qb q).map eB) (mid:=zB (b.take 28).length) (post:=zB (28 - (b.take 28).length)++(qb q).map eB++[x]++zB 27) (ys:=(b.take 28).map eB) (n:=4) rfl (by simp [zB])
 rw [zq6 hk]
 simp only [List.append_assoc] at e ⊢
 exact e
theorem zxm (q:Int) (x:D) (b:Str) (hb:b.length≤55):zbb ((qb q).map eB++((b.take 28).map eB++zB (28 - (b.take 28).length))++(qb q).map eB++[x]++zB 27) ((b.drop 28).map eB) 37=(qb q).map eB++((b.take 28).map eB++zB (28 - (b.take 28).length))++(qb q).map eB++[x]++((b.drop 28).map eB++zB (27 - (b.drop 28).length)):=by
 have hk:(b.drop 28).length≤27:=by rw [List.length_drop];omega
 have e:=zt8 (pre:=(qb q).map eB++((b.take 28).map eB++zB (28 - (b.take 28).length))++(qb q).map eB++[x]) (mid:=zB (b.drop 28).length) (post:=zB (27 - (b.drop 28).length)) (ys:=(b.drop 28).map eB) (n:=37) (by simp [zB,qb];omega) (by simp [zB])
 rw [zq6 hk]
 simp only [List.append_assoc] at e ⊢
 exact e
theorem zmd (q:Int) (h0:0≤q) (_h1:q<4294967296) (b:Str) (hb:b.length≤55):zb2 Try.prog f_zz51 [.int .u32 q,.str b] (·=.d (eS (mk1 q b))):=by
 refine zb2.of_deep (zbl fol zz51_cp ?_)
 refine goS trivial ?_
 refine goR trivial ?_
 refine zam fun g1 hg0=>?_
 refine goS trivial ?_
 refine goR trivial ?_
 refine W.loop (fun n st=>∃ (t:Nat),t≤2∧n=2 - t ∧
  st=(E [(0,.d (.int .u32 q)),(1,.d (.str b)),(4,.ptr 0 4 1 0),(5,.d (.gp g1 0)),(9,.d (.agg [.int .i64 0,.int .i64 32])),(10,.d (.int .i64 t))],HB [(4,⟨1,some (z0.1.map eB)⟩)],[],zel.set g1 (some (mkT q t))))
  ⟨_,_,zca,0,by omega,rfl,rfl⟩ ?_
 rintro n st ⟨t,ht,rfl,rfl⟩
 refine goR trivial ?_
 refine zni (fun h4=>?_) (fun h4=>?_)
 · have hl:=zu6 q t
   rcases (by omega:t=0∨t=1) with rfl|rfl
   · refine goR (nn hl zh4) ?_
     exact ⟨_,_,by omega,zca,1,by omega,rfl,rfl⟩
   · have hm:min 32 64=32:=rfl
     have hm1:min 33 32=32:=rfl
     have hm2:min 34 32=32:=rfl
     have hm3:min 35 32=32:=rfl
     have hm4:min 36 32=32:=rfl
     refine goR (nn hl (nn zh4 (nn hm (nn hm1 (nn hm2 (nn hm3 hm4)))))) ?_
     exact ⟨_,_,by omega,zca,2,by omega,rfl,rfl⟩
 · obtain rfl:t=2:=by omega
   have hl:=zu6 q 2
   refine goR (nn hl zh4) ?_
   have e1:List.take 36 (mkT q 2)++[D.int IntKind.u8 ((zj8 (b.length:Int)).toNat:Int)]++List.drop 37 (mkT q 2)=(qb q).map eB++zB 28++(qb q).map eB++[eB (UInt8.ofNat b.length)]++zB 27:=by
    have:zj8 (b.length:Int)=UInt8.ofNat b.length:=by
     unfold zj8
     congr 1
     omega
    rw [this];rfl
   rw [e1]
   have hg1:(zel.set g1 (some ((qb q).map eB++zB 28++(qb q).map eB++[eB (UInt8.ofNat b.length)]++zB 27))).c g1=some ((qb q).map eB++zB 28++(qb q).map eB++[eB (UInt8.ofNat b.length)]++zB 27):=by simp [upd]
   refine zjr (by simp only [gdD,hg1];rw [if_pos (by simp [zB,qb])]) ?_
   have e2:=zu8 q (eB (UInt8.ofNat b.length)) b
   have e3:(List.map (fun u:UInt8=>D.int IntKind.u8 (u.toNat:Int)) (List.take 28 b))=(b.take 28).map eB:=rfl
   rw [Gh.set_set,e3,e2]
   have hg2:(zel.set g1 (some ((qb q).map eB++((b.take 28).map eB++zB (28 - (b.take 28).length))++(qb q).map eB++[eB (UInt8.ofNat b.length)]++zB 27))).c g1=some ((qb q).map eB++((b.take 28).map eB++zB (28 - (b.take 28).length))++(qb q).map eB++[eB (UInt8.ofNat b.length)]++zB 27):=by simp [upd]
   have hl2:((qb q).map eB++((b.take 28).map eB++zB (28 - (b.take 28).length))++(qb q).map eB++[eB (UInt8.ofNat b.length)]++zB 27).length=64:=by simp [zB,qb];omega
   have e4:=zxm q (eB (UInt8.ofNat b.length)) b hb
   have e5:=zu7 q b hb
   rw [← e5] at e4
   generalize (qb q).map eB++((b.take 28).map eB++zB (28 - (b.take 28).length))++(qb q).map eB++[eB (UInt8.ofNat b.length)]++zB 27=c2 at hg2 hl2 e4 ⊢
   have hmn:(min 28 (b.length:Int)).toNat=min 28 b.length:=by omega
   refine goS (nn hl2 hmn) ?_
   refine goR (nn hl2 hmn) ?_
   have e6:List.drop (min 28 b.length) b=b.drop 28:=by
    rcases Nat.le_total b.length 28 with h|h
    · rw [Nat.min_eq_right h,List.drop_length,List.drop_of_length_le h]
    · rw [Nat.min_eq_left h]
   have e7:(List.map (fun u:UInt8=>D.int IntKind.u8 (u.toNat:Int)) (List.take 27 (b.drop 28)))=(b.drop 28).map eB:=by
    rw [List.take_of_length_le (by rw [List.length_drop];omega)];rfl
   rw [e6]
   refine zjr (by simp only [gdD,hg2];rw [if_pos (by omega)]) ?_
   rw [Gh.set_set,e7,e4]
   refine goS trivial ?_
   refine goR trivial ?_
   (apply Fin.eq;(focus (simp -dsimp (disch:=first|omega|(simp only [go_sem];omega)) only [go_sem,seval,Nat.reduceEqDiff,Nat.reduceLeDiff]<;>rfl)))
   exact ⟨rfl,_,.refl _,rfl⟩
end Go.Proofs.Ytlejjdbmmdghmaa
namespace Go.Proofs.Ytlejjdbmmdghmaa
open Go Go.E2 C22
set_option maxHeartbeats 1000000
def eF (f:Fnd):D:=.agg (f.s.1.map eB++[D.int .i64 f.at']++[D.bool f.good])
attribute [go_sem] eF
theorem zi2 (f:Fnd):(eF f).cells=f.s.1.map eB++[D.int .i64 f.at']++[D.bool f.good]:=rfl
theorem zf4 (f:Fnd):(f.s.1.map eB++[D.int .i64 f.at']++[D.bool f.good]).length=66:=by rw [List.length_append,List.length_append,zaj];rfl
@[go_sem] theorem z0z (f:Fnd):za 66 (eF f)=true:=by simp only [za,zi2,List.length_append,zaj,List.all_append,zle];rfl
@[go_sem] theorem zy8 (l:List Fnd):(l.map eF).all (za 66)=true:=by rw [List.all_eq_true];intro x hx;obtain ⟨s,_,rfl⟩:=List.mem_map.1 hx;exact z0z s
def eP (p:Nat) (first n:Int):D:=.agg [.gp p 0,.int .i64 first,.int .i64 n]
attribute [go_sem] eP
theorem zu9 (p:Nat) (first n i:Int):zy Try.prog f_zz17 [eP p first n,.int .i64 i] [] (fun r post=>∃ b1 b2,r=.d (.clo f_zz13 [.gp b1 0,.gp b2 0])∧post=[ze b2 [.int .i64 i],ze b1 [.gp p 0,.int .i64 first,.int .i64 n]]):=by
 refine zf fol zz17_cp fun R G σ hs=>?_
 have hs:Sep R G:=hs
 refine goS trivial ?_
 refine goR trivial ?_
 refine zam fun b1 hb1=>?_
 have hs1:=Sep.new (cs:=[.gp p 0,.int .i64 first,.int .i64 n]) hb1 hs
 refine goS trivial ?_
 refine goR trivial ?_
 refine zam fun b2 hb2=>?_
 have hs2:=Sep.new (cs:=[.int .i64 i]) hb2 hs1
 refine goS trivial ?_
 refine goR trivial ?_
 exact Fin.eq rfl ⟨rfl,_,⟨b1,b2,rfl,rfl⟩,hs2⟩
theorem zsq (p:Nat) (d:Dk) (first n i:Int) (h0:0≤first) (h1:0≤i) (h2:first+2 * i+1≤1000000) (b1 b2 l:Nat) (J:Nat→Gh→Prop) (S:Gh→Prop) (σ:List Hp) (G:Gh) (hJ:J 0 G)
 (hb:∀ k G',J k G'→∃ R,Sep (zp p d::ze b2 [.int .i64 i]::ze b1 [.gp p 0,.int .i64 first,.int .i64 n]::R) G')
 (hstep:∀ k G',k<2→J k G'→∀ σ,zko Try.prog l [eF (readC d (first+2 * i+k)).1,.int .i64 (readC d (first+2 * i+k)).2] σ G' fun r lv G2=>lv=σ∧(r=.d (.bool true)∧J (k+1) G2∨r=.d (.bool false)∧S G2)) :
 zaq Try.prog f_zz13 ([.yld l,.gp b1 0,.gp b2 0].map .d) σ G fun _ σ' G'=>σ'=σ∧(J 2 G'∨S G'):=by
 refine zbl fol zz13_cp ?_
 refine goS trivial ?_
 refine goR trivial ?_
 refine W.loop (fun m st=>∃ (k:Nat) (b6 b8:Blk) (G1:Gh),k≤2∧m=2 - k∧J k G1 ∧
  st=(E [(0,.d (.yld l)),(1,.d (.gp b1 0)),(2,.d (.gp b2 0)),(9,.d (.int .i64 k))],HB [(6,b6),(8,b8)],σ,G1))
  ⟨_,_,zt (zdr [] [6,8] rfl).symm,0,_,_,G,by omega,rfl,hJ,rfl⟩ ?_
 rintro m st ⟨k,b6,b8,G1,hk,rfl,hJ1,rfl⟩
 refine goR trivial ?_
 refine zni (fun h4=>?_) (fun h4=>?_)
 · have hk':k<2:=by omega
   obtain ⟨R,hs⟩:=hb k G1 hJ1
   have hc1:=hs.f3.get
   have hc2:=hs.swap.get
   have hst:=hstep k G1 hk' hJ1
   obtain ⟨s,e⟩:∃ s,s=(rd d (first+2 * i+k)).1:=⟨_,rfl⟩
   have hst2:∀ b e',readC d (first+2 * i+k)=(⟨s,first+2 * i+k,b⟩,e')→∀ σ,zko Try.prog l [.agg (s.1.map eB++[D.int .i64 (first+2 * i+k)]++[D.bool b]),.int .i64 e'] σ G1 fun r lv G2=>lv=σ∧(r=.d (.bool true)∧J (k+1) G2∨r=.d (.bool false)∧S G2):=by
    intro b e' h
    rw [h] at hst
    exact hst
   have hrd:rd d (first+2 * i+k)=(s,(rd d (first+2 * i+k)).2):=by rw [e]
   have hrc:readC d (first+2 * i+k)=(⟨s,first+2 * i+k,decide ((rd d (first+2 * i+k)).2=0) && zd4 s⟩,if (rd d (first+2 * i+k)).2=14 then 0 else (rd d (first+2 * i+k)).2):=by unfold readC;rw [← e]
   generalize (rd d (first+2 * i+k)).2=er at hrd hrc
   have hq:=(z0v p d (first+2 * i+k)).q hs
   rw [hrd] at hq
   have hb36:(List.drop 36 (s.1.map eB)).head?=some (.int .u8 (zaa s 36:Int)):=by
    rw [List.head?_drop,List.getElem?_map,List.getElem?_eq_getElem (by rw [s.2];decide),zh5 s (by decide)];rfl
   by_cases e0:er=0
   · subst e0
     (refine goX3 (nn hc1 (nn hc2 hb36)) (hq) (zdm s 0 (by omega)) (zdm s 32 (by omega)) ?_;(repeat' (with_reducible apply Br.mk<;>intro _)))
     all_goals
      apply wC_y (hst2 _ _ ?_ _)
      focus (simp -dsimp (disch:=first|omega|(simp only [go_sem];omega)) only [go_sem,seval,Nat.reduceEqDiff,Nat.reduceLeDiff]<;>fail)
      focus (simp -dsimp (disch:=first|omega|(simp only [go_sem];omega)) only [go_sem,seval,Nat.reduceEqDiff,Nat.reduceLeDiff]<;>rfl)
      rintro r G2 (⟨rfl,hJ2⟩|⟨rfl,hS⟩)
      · refine goS trivial ?_
        refine goR trivial ?_
        refine ⟨_,_,?_,zca,k+1,_,_,G2,by omega,rfl,hJ2,rfl⟩
        omega
      · refine goS trivial ?_
        refine goR trivial ?_
        exact Fin.eq rfl ⟨rfl,.inr hS⟩
     all_goals
      rw [hrc,if_neg (by decide),decide_eq_true rfl,Bool.true_and]
      refine congrArg (fun b=>((⟨s,_,b⟩:Fnd),(0:Int))) ?_
      rw [Bool.eq_iff_iff]
      unfold zd4
      simp only [Bool.and_eq_true,decide_eq_true_eq,Bool.false_eq_true,iff_false]
      omega
   · by_cases e14:er=14
     · subst e14
       (refine zg1 (nn hc1 (nn hc2 hb36)) (hq) ?_;(repeat' (with_reducible apply Br.mk<;>intro _)))
       apply wC_y (hst2 _ _ ?_ _)
       focus (simp -dsimp (disch:=first|omega|(simp only [go_sem];omega)) only [go_sem,seval,Nat.reduceEqDiff,Nat.reduceLeDiff]<;>fail)
       focus (simp -dsimp (disch:=first|omega|(simp only [go_sem];omega)) only [go_sem,seval,Nat.reduceEqDiff,Nat.reduceLeDiff]<;>rfl)
       rintro r G2 (⟨rfl,hJ2⟩|⟨rfl,hS⟩)
       · refine goS trivial ?_
         refine goR trivial ?_
         refine ⟨_,_,?_,zca,k+1,_,_,G2,by omega,rfl,hJ2,rfl⟩
         omega
       · refine goS trivial ?_
         refine goR trivial ?_
         exact Fin.eq rfl ⟨rfl,.inr hS⟩
       · rw [hrc];rfl
     · (refine zg1 (nn hc1 (nn hc2 (nn hb36 (nn e0 e14)))) (hq) ?_;(repeat' (with_reducible apply Br.mk<;>intro _)))
       apply wC_y (hst2 _ _ ?_ _)
       focus (simp -dsimp (disch:=first|omega|(simp only [go_sem];omega)) only [go_sem,seval,Nat.reduceEqDiff,Nat.reduceLeDiff]<;>fail)
       focus (simp -dsimp (disch:=first|omega|(simp only [go_sem];omega)) only [go_sem,seval,Nat.reduceEqDiff,Nat.reduceLeDiff]<;>rfl)
       rintro r G2 (⟨rfl,hJ2⟩|⟨rfl,hS⟩)
       · refine goS trivial ?_
         refine goR trivial ?_
         refine ⟨_,_,?_,zca,k+1,_,_,G2,by omega,rfl,hJ2,rfl⟩
         omega
       · refine goS trivial ?_
         refine goR trivial ?_
         exact Fin.eq rfl ⟨rfl,.inr hS⟩
       · rw [hrc,if_neg e14,decide_eq_false e0];rfl
 · obtain rfl:k=2:=by omega
   refine goR trivial ?_
   exact Fin.eq rfl ⟨rfl,.inl hJ1⟩
end Go.Proofs.Ytlejjdbmmdghmaa
