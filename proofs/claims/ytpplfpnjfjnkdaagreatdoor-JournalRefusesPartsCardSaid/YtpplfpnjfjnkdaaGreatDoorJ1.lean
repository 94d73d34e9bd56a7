/-
 Layer 23: numbers and links in sectors,by the program.
 Conditions: of each contract as it says.
-/
import Derived.Test.YtpplfpnjfjnkdaaGreatDoorF22d
import Derived.Test.YtpplfpnjfjnkdaaGreatDoorS22
import Derived.Test.YtpplfpnjfjnkdaaGreatDoorT23j
import Derived.Test.YtpplfpnjfjnkdaaGreatDoorEN13
set_option linter.unusedSimpArgs false
namespace Go.Proofs.YtpplfpnjfjnkdaaGreatDoor
open Go Go.E2 C22 C23 CW
set_option maxHeartbeats 4000000
abbrev eN (n:Nat):D:=.int .i64 (n:Int)
@[go_sem ↓ high] theorem cells_eB (x:UInt8):(eB x).cells=[eB x]:=rfl
@[go_sem ↓ high] theorem one_eB (x:UInt8):(eB x).one=true:=rfl
@[go_sem ↓ high] theorem z88 (d:List UInt8):(eDg d).cells=d.map eB:=rfl
@[go_sem ↓ high] theorem cells_eS (s:Sec):(eS s).cells=s.1.map eB:=rfl
@[go_sem] theorem dig_len' (t:Nat) (p:List (List UInt8)):(CH.dig t p).length=16:=CH.dig_len _ _
@[go_sem high] theorem z89 (x:UInt8):zqc .i64 (.d (eB x))=some (.d (eN x.toNat)):=by
  have:=UInt8.toNat_lt x
  show some (AV.d (D.int .i64 (IntKind.i64.wrap (x.toNat:Int))))=_
  rw [wrap_i64 (by omega) (by omega)]
theorem z4d {n k:Nat} (hk:k≤64) (h:n * 2 ^ k<4611686018427387904):za4 .shl (.int .i64 (n:Int)) (.int .u64 (k:Int))=some (.int .i64 ((n * 2 ^ k:Nat):Int)):=by
 simp only [za4]
 rw [if_neg (by omega),yleQ,Nat.min_eq_left (by simp only [IntKind.bits];omega),show ((n:Int) * 2 ^ k)=((n * 2 ^ k:Nat):Int) from by push_cast;rfl,wrap_i64 (by omega) (by omega)]
theorem z4e (a b:Int):za4 .or (.int .i64 a) (.int .i64 b)=some (.int .i64 (IntKind.i64.wrap ((BitVec.ofInt 64 a ||| BitVec.ofInt 64 b).toNat:Int))):=rfl
set_option maxRecDepth 100000 in
theorem z9a {a b:Nat} (k:Nat) (hb:b<2 ^ k) (h:a * 2 ^ k+b<4611686018427387904):za4 .or (.int .i64 ((a * 2 ^ k:Nat):Int)) (.int .i64 (b:Int))=some (.int .i64 ((a * 2 ^ k+b:Nat):Int)):=by
 have g1:a * 2 ^ k<18446744073709551616:=by omega
 have g2:b<18446744073709551616:=by omega
 have h1:=zce 64 (a * 2 ^ k) g1
 have h2:=zce 64 b g2
 have h5:(BitVec.ofInt 64 ((a * 2 ^ k:Nat):Int) ||| BitVec.ofInt 64 (b:Int)).toNat=a * 2 ^ k+b:=by rw [BitVec.toNat_or,h1,h2,Nat.mul_comm,← Nat.two_pow_add_eq_or_of_lt hb]
 rw [z4e,h5,wrap_i64 (by omega) (by omega)]
theorem z4f {l:List UInt8} {k:Nat} (h:k<l.length):be (l.take (k+1))=be (l.take k) * 256+l[k].toNat:=by
 rw [yldQ h,z41]
set_option maxRecDepth 4000 in
theorem z4g (l:List UInt8) (hl:4≤l.length):zw Tryz.prog f_zz102 [.list (l.map eB)] (·=.d (eN (be (l.take 4)))):=by
 refine zh fol zz102_cp ?_
 have hll:(l.map eB).length=l.length:=yk3Q ..
 have h4:(List.take 4 (l.map eB))=(l.take 4).map eB:=(List.map_take ..).symm
 have hl4:(l.take 4).length=4:=by rw [yk4Q];omega
 refine goS trivial ?_
 (refine goX (nn hll (nn h4 hl4)) ?_;(repeat' (with_reducible apply Br.mk<;>intro _)))
 refine W.loop (fun q st=>∃ (k:Nat),k≤4∧q=4 - k ∧
  st=(E [(9,.d (eN k)),(8,.d (eI 4)),(7,.d (.list ((l.take 4).map eB))),(3,.d (eN (be (l.take k))))],HB [],[],noGh))
  ⟨_,_,zvn hl4 (by rfl),0,by omega,rfl,rfl⟩ ?_
 rintro q st ⟨k,hk,rfl,rfl⟩
 by_cases g1:(k:Int)<4
 case neg =>
  obtain rfl:k=4:=by omega
  (refine goX g1 ?_;(repeat' (with_reducible apply Br.mk<;>intro _)))
  exact Fin.p rfl rfl
 have hk':k<4:=by omega
 have hkl:k<l.length:=by omega
 have hbt:=z4f hkl
 have hlt:=z9t (l.take k)
 have hpw:256 ^ (l.take k).length≤256 ^ 3:=Nat.pow_le_pow_right (by decide) (by rw [yk4Q];omega)
 have hp3:(256:Nat) ^ 3=16777216:=by decide
 rw [hp3] at hpw
 have hcg:(List.take 4 l)[k]'(by omega)=l[k]:=List.getElem_take
 have hcv:=z89 l[k]
 have hzl:=UInt8.toNat_lt l[k]
 generalize hn:be (l.take k)=n at *
 have e8:2 ^ 8=256:=by decide
 have f1:=z4d (n:=n) (k:=8) (by decide) (by rw [e8];omega)
 have f2:=z9a (a:=n) (b:=l[k].toNat) 8 (by rw [e8];omega) (by rw [e8];omega)
 rw [e8] at f1 f2
 rw [← hbt] at f2
 rw [show ((n * 256:Nat):Int)=(n:Int) * 256 from by push_cast;rfl] at f1 f2
 simp only [eB] at hcv
 (repeat' (first|(with_reducible first|refine W.seq ?_|refine W.block ?_|refine W.scope ?_)|((first|(with_reducible first|refine W.reg ?_|refine W.skip ?_|refine W.exit ?_|refine W.ret ?_|refine W.ifc ?_)|((with_reducible first|refine zbo (fun _ hG=>?_) (fun _ hG=>?_)|refine za1 (fun _ hG=>?_) (fun _ hG=>?_))<;>(try simp -dsimp only [hG,decide_true,decide_false,not_true_eq_false,not_false_eq_true])<;>clear hG))<;>(try simp -dsimp (disch:=first|omega|(simp only [go_sem];omega)) only [go_sem,seval,Nat.reduceEqDiff,Nat.reduceLeDiff,g1,hk',hcg,hcv,f1,f2,eB,List.getElem_map]))|simp -dsimp (disch:=first|omega|(simp only [go_sem];omega)) only [go_sem,seval,Nat.reduceEqDiff,Nat.reduceLeDiff,g1,hk',hcg,hcv,f1,f2,eB,List.getElem_map]))
 exact ⟨_,_,by omega,z7 (by rfl),k+1,by omega,rfl,rfl⟩
end Go.Proofs.YtpplfpnjfjnkdaaGreatDoor
namespace Go.Proofs.YtpplfpnjfjnkdaaGreatDoor
open Go Go.E2 C22 C23 CW
set_option maxHeartbeats 4000000
theorem zbq {l:List UInt8} {n:Nat} (h:l.length=n):List.take n (l.map eB)=l.map eB:=yk1Q (by rw [yk3Q];omega)
theorem ze5 (s:Sec) (a n:Nat):List.take n (List.drop a (s.1.map eB))=(tx s a (a+n)).map eB:=by
 unfold tx
 rw [← List.map_drop,← List.map_take,List.drop_take]
 congr 2
 omega
@[go_sem] theorem zbx (l:List UInt8):(l.map eB).all D.one=true:=by simp [List.all_map,Function.comp_def,eB,D.one]
theorem zqy (s:Sec) {i:Nat} (h:i<64):(List.drop i (s.1.map eB)).head?=some (eB (sb s i)):=by
 rw [List.head?_drop,ylhQ,z2g s h];rfl
theorem zfp (s:Sec):zw Tryz.prog f_zz93 [eS s] (·=.d (eDg (tx s 48 56))):=by
 refine zw.of_deep (zm fol zz93_cp ?_)
 have hl:=zj s
 have e1:=ze5 s 48 8
 have e2:=zas s (a:=48) (b:=56) (by decide)
 refine goS trivial ?_
 refine goR trivial ?_
 refine zx fun b hb=>?_
 refine goS trivial ?_
 refine goR (nn e1 e2) ?_
 (apply Fin.eq;(focus (simp -dsimp (disch:=first|omega|(simp only [go_sem];omega)) only [go_sem,seval,Nat.reduceEqDiff,Nat.reduceLeDiff,e2,zbq e2]<;>rfl)))
 exact ⟨rfl,_,.refl _,rfl⟩
theorem zsi (s:Sec):zw Tryz.prog f_zz99 [eS s] (·=.d (eDg (tx s 16 24))):=by
 refine zw.of_deep (zm fol zz99_cp ?_)
 have hl:=zj s
 have e1:=ze5 s 16 8
 have e2:=zas s (a:=16) (b:=24) (by decide)
 refine goS trivial ?_
 refine goR trivial ?_
 refine zx fun b hb=>?_
 refine goS trivial ?_
 refine goR (nn e1 e2) ?_
 (apply Fin.eq;(focus (simp -dsimp (disch:=first|omega|(simp only [go_sem];omega)) only [go_sem,seval,Nat.reduceEqDiff,Nat.reduceLeDiff,e2,zbq e2]<;>rfl)))
 exact ⟨rfl,_,.refl _,rfl⟩
theorem lendB {G:Gh} {b off len cap:Nat} {l:List UInt8} (hG:G.c b=some (l.map eB)) (h:off+len≤l.length):zvg G (.gs b off len cap) (.list (((l.take (off+len)).drop off).map eB)):=by
 have hl:((l.take (off+len)).drop off).length=len:=by rw [ylfQ,yk4Q];omega
 refine .gs b off len cap 1 _ _ hG (by rw [yk3Q];omega) (by rw [yk3Q,hl]) (zhm _) ?_
 have e1:flat (((l.take (off+len)).drop off).map eB)=((l.take (off+len)).drop off).map eB:=zha _
 rw [e1,ylsQ,← List.map_drop,← List.map_take,List.drop_take]
 congr 2
 omega
theorem zz7 {G:Gh} {b off len cap:Nat} {s:Sec} (hG:G.c b=some (s.1.map eB)) (h:off+len≤64):zvg G (.gs b off len cap) (.list ((tx s off (off+len)).map eB)) :=
 lendB hG (by rw [s.2];exact h)
theorem z4h (s:Sec) {a b n:Nat} (h:a+n≤b):(tx s a b).take n=tx s a (a+n):=by
 unfold tx
 rw [List.take_drop,List.take_take,Nat.min_eq_left h]
theorem zz8 (s:Sec) (off len:Nat) (h:off+len≤64) (h4:4≤len):zw Tryz.prog f_zz102 [.list ((tx s off (off+len)).map eB)] (·=.d (eN (be (tx s off (off+4))))):=by
 have:=z4g (tx s off (off+len)) (by rw [zas s h];omega)
 rwa [z4h s (by omega)] at this
theorem zqz (s:Sec):zw Tryz.prog f_zz73 [eS s] (·=.d (.agg [eN (be (tx s 8 12)),eN (be (tx s 12 16))])):=by
 refine zw.of_deep (zm fol zz73_cp ?_)
 have hl:=zj s
 refine goS trivial ?_
 refine goR trivial ?_
 refine zx fun b hb=>?_
 refine goS trivial ?_
 refine goR trivial ?_
 refine zgw (xs:=[.gs b 8 56 56]) (zz8 s 8 56 (by decide) (by decide)) goD goD (.cons (zz7 (by simp [upd]) (by decide)) .nil) (by rintro _ rfl;rfl) ?_
 rintro _ rfl
 refine goS trivial ?_
 refine goR trivial ?_
 refine zgw (xs:=[.gs b 12 52 52]) (zz8 s 12 52 (by decide) (by decide)) goD goD (.cons (zz7 (by simp [upd]) (by decide)) .nil) (by rintro _ rfl;rfl) ?_
 rintro _ rfl
 refine goS trivial ?_
 refine goR trivial ?_
 (apply Fin.eq;(focus (simp -dsimp (disch:=first|omega|(simp only [go_sem];omega)) only [go_sem,seval,Nat.reduceEqDiff,Nat.reduceLeDiff]<;>rfl)))
 exact ⟨rfl,_,.refl _,rfl⟩
theorem ex8 {l:List UInt8} (h:l.length=8):∃ a b c d e f g i,l=[a,b,c,d,e,f,g,i]:=by
 match l,h with
 | [a,b,c,d,e,f,g,i],_=>exact ⟨a,b,c,d,e,f,g,i,rfl⟩
theorem zd3 (s:Sec):zw Tryz.prog f_zz39 [eS s] (·=.d (.agg ([eN (be (tx s 0 4)),eN (be (tx s 4 8))]++(tx s 8 16).map eB++[eB (sb s 24),eB (sb s 25)]++(tx s 26 56).map eB))):=by
 refine zw.of_deep (zm fol zz39_cp ?_)
 have hl:=zj s
 obtain ⟨c0,c1,c2,c3,c4,c5,c6,c7,hc⟩:=ex8 (zas s (a:=8) (b:=16) (by decide))
 have e1:List.take 8 (List.drop 8 (s.1.map eB))=[eB c0,eB c1,eB c2,eB c3,eB c4,eB c5,eB c6,eB c7]:=by rw [ze5,hc];rfl
 rw [hc]
 have e3:=ze5 s 26 30
 have f1:=zqy s (i:=24) (by decide)
 have f2:=zqy s (i:=25) (by decide)
 have e4:=zas s (a:=26) (b:=56) (by decide)
 refine goS trivial ?_
 refine goR trivial ?_
 refine zx fun b hb=>?_
 refine goS trivial ?_
 refine goR trivial ?_
 simp -dsimp (disch:=first|omega|(simp only [go_sem];omega)) only [go_sem,seval,Nat.reduceEqDiff,Nat.reduceLeDiff,f1,f2,e1,e3,e4,ylsQ]
 refine goR (nn f1 (nn f2 (nn e1 (nn e3 e4)))) ?_
 refine zgw (xs:=[.gs b 0 64 64]) (zz8 s 0 64 (by decide) (by decide)) goD goD (.cons (zz7 (by simp [upd]) (by decide)) .nil) (by rintro _ rfl;rfl) ?_
 rintro _ rfl
 refine goS trivial ?_
 refine goR trivial ?_
 refine zgw (xs:=[.gs b 4 60 60]) (zz8 s 4 60 (by decide) (by decide)) goD goD (.cons (zz7 (by simp [upd]) (by decide)) .nil) (by rintro _ rfl;rfl) ?_
 rintro _ rfl
 simp -dsimp (disch:=first|omega|(simp only [go_sem];omega)) only [go_sem,seval,Nat.reduceEqDiff,Nat.reduceLeDiff,e4,List.take_succ_cons,List.drop_succ_cons,List.take_zero,List.drop_zero]
 (repeat (first|(with_reducible first|refine W.seq ?_|refine W.block ?_|refine W.scope ?_)|((with_reducible first|refine W.reg ?_|refine W.skip ?_|refine W.exit ?_|refine W.ret ?_|refine W.ifc ?_);simp -dsimp (disch:=first|omega|(simp only [go_sem];omega)) only [go_sem,seval,Nat.reduceEqDiff,Nat.reduceLeDiff,e4,List.take_succ_cons,List.drop_succ_cons,List.take_zero,List.drop_zero])))
 (apply Fin.eq;(focus (simp -dsimp (disch:=first|omega|(simp only [go_sem];omega)) only [go_sem,seval,Nat.reduceEqDiff,Nat.reduceLeDiff,e4,zbq e4]<;>rfl)))
 exact ⟨rfl,_,.refl _,rfl⟩
end Go.Proofs.YtpplfpnjfjnkdaaGreatDoor
namespace Go.Proofs.YtpplfpnjfjnkdaaGreatDoor
open Go Go.E2 C22 C23 CW
set_option maxHeartbeats 4000000
theorem z4i (n:Nat) {k:Nat} (hk:k≤64) (_hn:n<4611686018427387904):za4 .shr (.int .i64 (n:Int)) (.int .i64 (k:Int))=some (.int .i64 ((n / 2 ^ k:Nat):Int)):=by
 show (if (k:Int)<0 then none else some (D.int .i64 (Int.fdiv (n:Int) (2 ^ (min (k:Int).toNat 64)))))=_
 rw [if_neg (by omega),yleQ,Nat.min_eq_left hk,Int.fdiv_eq_ediv_of_nonneg _ (Int.pow_nonneg (by omega))]
 norm_cast
theorem zhv (n:Nat):zqc .u8 (.d (.int .i64 (n:Int)))=some (.d (eB (UInt8.ofNat n))):=by
 show some (AV.d (.int .u8 (IntKind.u8.wrap (n:Int))))=_
 have:IntKind.u8.wrap (n:Int)=((n % 256:Nat):Int):=by simp [IntKind.wrap,IntKind.bits,IntKind.signed]
 rw [this,eB];simp
theorem zw3 {cs xs:List D} {off k:Nat} (hx:xs.length=k) (h:off+k<cs.length) (y:D) :
 List.take (off+k) (zau cs xs off)++[y]++List.drop (off+k+1) (zau cs xs off)=zau cs (xs++[y]) off:=by
 have hl:(cs.take off++xs).length=off+k:=by rw [yk2Q,yk4Q,hx];omega
 unfold zau
 rw [ylnQ hl,List.drop_append,yk7Q (by omega),List.nil_append,hl,show off+k+1 - (off+k)=1 from by omega,List.drop_drop,yk2Q,hx]
 simp only [yk5Q]
 rfl
theorem zhw {cs xs:List D} {off:Nat} (h:off+xs.length≤cs.length):(zau cs xs off).length=cs.length:=by
 unfold zau
 simp only [yk2Q,yk4Q,ylfQ]
 omega
theorem z4j {G:Gh} {b:Nat} {cs:List D} (h:G.c b=some cs):G.set b (some cs)=G:=by
 cases G with
 | mk c m =>
  have:upd c b (some cs)=c:=by
   funext j
   simp only [upd]
   split
   · subst_vars;exact h.symm
   · rfl
  unfold Gh.set
  congr 1
theorem zz9 (n:Nat) {k:Nat} (h:k<4):(zd8 n).take (k+1)=(zd8 n).take k++[UInt8.ofNat (n / 2 ^ (24 - 8 * k))]:=by
 rcases (by omega:k=0∨k=1∨k=2∨k=3) with rfl|rfl|rfl|rfl<;>simp [zd8]
theorem zsj (b off len cap:Nat) (cs:List D) (n:Nat) (hn:n<4611686018427387904) (h4:4≤len) (hf:off+len≤cs.length) (σ:List Hp) (G:Gh) (hG:G.c b=some cs) :
 zaz Tryz.prog f_zz103 ([D.gs b off len cap,eN n].map .d) σ G fun _r σ' G'=>σ'=σ∧G'=G.set b (some (zau cs ((zd8 n).map eB) off)):=by
 refine zm fol zz103_cp ?_
 refine goS trivial ?_
 refine goR trivial ?_
 refine W.loop (fun q st=>∃ (k:Nat) (c:List D) (G':Gh),k≤4∧q=4 - k∧c=zau cs (((zd8 n).take k).map eB) off∧G'=G.set b (some c) ∧
  st=(E [(5,.d (eN k)),(1,.d (eN n)),(0,.d (.gs b off len cap))],HB [],σ,G'))
  ⟨_,_,z7 (by rfl),0,cs,G,by omega,rfl,by simp [zau],(z4j hG).symm,rfl⟩ ?_
 rintro q st ⟨k,c,G',hk,rfl,hc,rfl,rfl⟩
 have hxl:(((zd8 n).take k).map eB).length=k:=by rw [yk3Q,yk4Q];show min k 4=k;omega
 have hcl:c.length=cs.length:=by rw [hc];exact zhw (by omega)
 by_cases g1:(k:Int)<4
 case neg =>
  obtain rfl:k=4:=by omega
  (refine goX g1 ?_;(repeat' (with_reducible apply Br.mk<;>intro _)))
  exact Fin.eq rfl ⟨rfl,by rw [hc];rfl⟩
 have hk':k<4:=by omega
 have hkl:k<len:=by omega
 have hst:=zw3 (cs:=cs) (off:=off) hxl (by omega) (eB (UInt8.ofNat (n / 2 ^ (24 - 8 * k))))
 have e2:((zd8 n).take k).map eB++[eB (UInt8.ofNat (n / 2 ^ (24 - 8 * k)))]=((zd8 n).take (k+1)).map eB:=by rw [zz9 n hk',yk6Q];rfl
 rw [e2,← hc] at hst
 have f1:=z4i n (k:=24 - 8 * k) (by omega) hn
 rw [show ((24 - 8 * k:Nat):Int)=24 - 8 * (k:Int) from by omega] at f1
 have f2:=zhv (n / 2 ^ (24 - 8 * k))
 generalize n / 2 ^ (24 - 8 * k)=m at *
 have g2:off+k+1≤cs.length:=by omega
 have e3:off+k * 1=off+k:=by omega
 (refine goX (nn g1 (nn hkl (nn f1 (nn f2 (nn hcl (nn g2 e3)))))) ?_;(repeat' (with_reducible apply Br.mk<;>intro _)))
 exact ⟨_,_,by omega,z7 (by rfl),k+1,_,_,by omega,rfl,hst,rfl,rfl⟩
end Go.Proofs.YtpplfpnjfjnkdaaGreatDoor
namespace Go.Proofs.YtpplfpnjfjnkdaaGreatDoor
open Go Go.E2 C22 C23 CW
set_option maxHeartbeats 4000000
theorem z11 {n:Nat} (h:n<4611686018427387904):i64 (n:Int):=by unfold i64;omega
theorem z6f {G:Gh} {b off len cap:Nat} {s:Sec} (hG:G.c b=some (s.1.map eB)) (h:off+len≤64) (_hc:len≤cap):gdD .b2s [.gs b off len cap] G=some (.d (.str (tx s off (off+len))),G):=by
 refine zmx (n:=len) (cs:=(tx s off (off+len)).map eB) ?_ (zeo _)
 have e:G b=some (s.1.map eB):=hG
 simp only [zbn,e,yk3Q,s.2,ylsQ,if_pos h,ze5]
theorem zo5 (s:Sec) {a b:Nat} (h:b≤64) (l:List Nat) (hl:∀ n∈l,n<1000000):∀ t∈tx s a b::l.map (fun n:Nat=>intB (n:Int)),t.length≤2000:=by
 intro t ht
 rcases List.mem_cons.1 ht with rfl|ht
 · rw [zas s h];omega
 · obtain ⟨n,hn,rfl⟩:=List.mem_map.1 ht
   exact Nat.le_trans (zdn (z11 (by have:=hl n hn;omega))) (by omega)
theorem zo6 (s:Sec) (tag:Int) (h0:0≤tag∧tag<256) (side:Nat) (hs:side<1000000):zw Tryz.prog f_zz91 [eS s,.int .i64 tag,.list [eI side]] (·=.d (eDg (CH.dig tag.toNat [tx s 0 48,intB side]))):=by
 refine zw.of_deep (zm fol zz91_cp ?_)
 have hl:=zj s
 refine goS trivial ?_
 refine goR trivial ?_
 refine zx fun b hb=>?_
 have g1:=z6f (G:=noGh.set b (some (s.1.map eB))) (b:=b) (off:=0) (len:=48) (cap:=64) (s:=s) (by simp [upd]) (by decide) (by decide)
 refine goS trivial ?_
 refine goR g1 ?_
 refine W.loop (fun q st=>∃ (k:Nat),k≤1∧q=1 - k ∧
  st=(E [(15,.d (eI (k:Int))),(14,.d (eI 1)),(13,.d (.list [eI side])),(7,.own 1 (.str (tx s 0 48)::([intB side].take k).map .str)),(6,.ptr 0 6 1 0),(1,.d (.int .i64 tag))],HB [(6,⟨1,some (zr 16 (.int .u8 0))⟩)],[],noGh.set b (some (s.1.map eB))))
  ⟨_,_,z7 (by rfl),0,by omega,rfl,rfl⟩ ?_
 rintro q st ⟨k,hk,rfl,rfl⟩
 rcases (by omega:k=0∨k=1) with rfl|rfl
 · have v1:zi3 1 (some (.list [eI side])) (.d (eI 0))=some (.cptr [eI side]):=rfl
   (repeat' (first|(with_reducible first|refine W.seq ?_|refine W.block ?_|refine W.scope ?_)|((first|(with_reducible first|refine W.reg ?_|refine W.skip ?_|refine W.exit ?_|refine W.ret ?_|refine W.ifc ?_)|(apply z1k (zwq side (z11 (by omega)));(focus (simp -dsimp (disch:=first|omega|(simp only [go_sem];omega)) only [go_sem,seval,Nat.reduceEqDiff,Nat.reduceLeDiff]<;>rfl));rintro _ rfl)|((with_reducible first|refine zbo (fun _ hG=>?_) (fun _ hG=>?_)|refine za1 (fun _ hG=>?_) (fun _ hG=>?_))<;>(try simp -dsimp only [hG,decide_true,decide_false,not_true_eq_false,not_false_eq_true])<;>clear hG))<;>(try simp -dsimp (disch:=first|omega|(simp only [go_sem];omega)) only [go_sem,seval,Nat.reduceEqDiff,Nat.reduceLeDiff,v1,List.take_zero,List.map_nil]))|simp -dsimp (disch:=first|omega|(simp only [go_sem];omega)) only [go_sem,seval,Nat.reduceEqDiff,Nat.reduceLeDiff,v1,List.take_zero,List.map_nil]))
   exact ⟨_,_,by omega,z7 (by rfl),1,by omega,rfl,rfl⟩
 · (repeat' (first|(with_reducible first|refine W.seq ?_|refine W.block ?_|refine W.scope ?_)|((first|(with_reducible first|refine W.reg ?_|refine W.skip ?_|refine W.exit ?_|refine W.ret ?_|refine W.ifc ?_)|(apply z1k (z87 tag h0 [tx s 0 48,intB side] (by simp) (zo5 s (b:=48) (by decide) [side] (by simp;omega)));(focus (simp -dsimp (disch:=first|omega|(simp only [go_sem];omega)) only [go_sem,seval,Nat.reduceEqDiff,Nat.reduceLeDiff]<;>rfl));rintro _ rfl)|((with_reducible first|refine zbo (fun _ hG=>?_) (fun _ hG=>?_)|refine za1 (fun _ hG=>?_) (fun _ hG=>?_))<;>(try simp -dsimp only [hG,decide_true,decide_false,not_true_eq_false,not_false_eq_true])<;>clear hG))<;>(try simp -dsimp (disch:=first|omega|(simp only [go_sem];omega)) only [go_sem,seval,Nat.reduceEqDiff,Nat.reduceLeDiff,List.map_cons]))|simp -dsimp (disch:=first|omega|(simp only [go_sem];omega)) only [go_sem,seval,Nat.reduceEqDiff,Nat.reduceLeDiff,List.map_cons]))
   (apply Fin.eq;(focus (simp -dsimp (disch:=first|omega|(simp only [go_sem];omega)) only [go_sem,seval,Nat.reduceEqDiff,Nat.reduceLeDiff,zbq (CH.dig_len _ _)]<;>rfl)))
   exact ⟨rfl,_,.refl _,rfl⟩
theorem zq0 (s:Sec) (tag:Int) (h0:0≤tag∧tag<256) (side:Nat) (hs:side<1000000):zw Tryz.prog f_zz72 [eS s,.int .i64 tag,.list [eI side]] (·=.d (.bool (decide (CH.dig tag.toNat [tx s 0 48,intB side]=tx s 48 64)))):=by
 refine zw.of_deep (zm fol zz72_cp ?_)
 have hl:=zj s
 have e1:=ze5 s 48 16
 have e2:=zas s (a:=48) (b:=64) (by decide)
 have hdl:(CH.dig tag.toNat [tx s 0 48,intB side]).length=16:=CH.dig_len _ _
 have e3:=zdm (CH.dig tag.toNat [tx s 0 48,intB side]) (tx s 48 64) (by rw [e2,hdl])
 rw [hdl] at e3
 have e4:vEqs false (kr 16 .i) (.d (eDg (CH.dig tag.toNat [tx s 0 48,intB side]))) (.d (.agg ((tx s 48 64).map eB)))=some (.d (.bool (decide (CH.dig tag.toNat [tx s 0 48,intB side]=tx s 48 64)))):=by
  rw [eDg,z7p,e3];rfl
 refine goS trivial ?_
 refine goR trivial ?_
 refine zx fun b hb=>?_
 refine goS trivial ?_
 refine goR (nn e1 e2) ?_
 (refine zb7 e4 (zo6 s tag h0 side hs) ?_;(repeat' (with_reducible apply Br.mk<;>intro _)))
 (apply Fin.eq;(focus (simp -dsimp (disch:=first|omega|(simp only [go_sem];omega)) only [go_sem,seval,Nat.reduceEqDiff,Nat.reduceLeDiff]<;>rfl)))
 exact ⟨rfl,_,.refl _,rfl⟩
theorem zw4 (s:Sec) (side:Nat) (hs:side<1000000):zw Tryz.prog f_zz92 [eS s,eI side] (·=.d (.bool (isH s side))):=by
 refine zw.of_deep (zm fol zz92_cp ?_)
 have hl:=zj s
 have hsl:=zq0 s 129 (by decide) side hs
 refine goS trivial ?_
 refine goR trivial ?_
 refine zx fun b hb=>?_
 have g1:=z6f (G:=noGh.set b (some (s.1.map eB))) (b:=b) (off:=0) (len:=8) (cap:=64) (s:=s) (by simp [upd]) (by decide) (by decide)
 have e1:isH s side=(decide (tx s 0 8=[81,85,73,69,84,74,78,76]) && decide (CH.dig (129:Int).toNat [tx s 0 48,intB side]=tx s 48 64)):=by
  unfold isH zfu zft
  congr 1
  exact decide_eq_decide.2 ⟨fun h=>h.symm,fun h=>h.symm⟩
 rw [e1]
 generalize decide (CH.dig (129:Int).toNat [tx s 0 48,intB side]=tx s 48 64)=v at *
 by_cases h:tx s 0 8=[81,85,73,69,84,74,78,76]
 · have h1:=eq_true h
   refine goS trivial ?_
   refine goR (nn g1 h1) ?_
   (refine zb7 (nn g1 h1) (hsl) ?_;(repeat' (with_reducible apply Br.mk<;>intro _)))
   (apply Fin.eq;(focus (simp -dsimp (disch:=first|omega|(simp only [go_sem];omega)) only [go_sem,seval,Nat.reduceEqDiff,Nat.reduceLeDiff]<;>rfl)))
   exact ⟨rfl,_,.refl _,by rw [decide_eq_true h,Bool.true_and]⟩
 · have h1:=eq_false h
   refine goS trivial ?_
   refine goR (nn g1 h1) ?_
   (refine goX (nn g1 h1) ?_;(repeat' (with_reducible apply Br.mk<;>intro _)))
   (apply Fin.eq;(focus (simp -dsimp (disch:=first|omega|(simp only [go_sem];omega)) only [go_sem,seval,Nat.reduceEqDiff,Nat.reduceLeDiff]<;>rfl)))
   exact ⟨rfl,_,.refl _,by rw [decide_eq_false h,Bool.false_and]⟩
def zo7 (a b:Int):Int:=if a<b then -1 else if b<a then 1 else 0
theorem z12 (a:Int):zw Tryz.prog f_zz94 [.int .i64 a] (·=.d (.bool false)):=by
 refine zh fol zz94_cp ?_
 refine goS trivial ?_
 refine goR trivial ?_
 exact Fin.p rfl (by (first|rfl|(refine bT ?_;omega)|(refine bF ?_;omega)|(refine bI ?_;omega)))
theorem z13 (a b:Int):zw Tryz.prog f_zz78 [.int .i64 a,.int .i64 b] (·=.d (.int .i64 (zo7 a b))):=by
 refine zh fol zz78_cp ?_
 refine goS trivial ?_
 (refine zgi trivial (z12 a) (z12 b) ?_;(repeat' (with_reducible apply Br.mk<;>intro _)))
 all_goals (refine Fin.p rfl (iE ?_);unfold zo7;first|(rw [if_pos (by omega)])|(rw [if_neg (by omega),if_pos (by omega)])|(rw [if_neg (by omega),if_neg (by omega)]))
theorem z4k {α:Type} {l:List α} {k:Nat} (h:k<l.length):l.drop k=l[k]::l.drop (k+1):=List.drop_eq_getElem_cons h
theorem z0a {α:Type} (l:List α):l.drop l.length=[]:=List.drop_length
theorem Or_ok (l:List Int) (hl:l.length≤1000):zw Tryz.prog f_zz107 [.list (l.map eI)] (·=.d (eI ((l.find? fun n=>decide (n≠0)).getD 0))):=by
 refine zh fol zz107_cp ?_
 refine goS trivial ?_
 refine goR trivial ?_
 refine W.loop (fun m st=>∃ k,k≤l.length∧m=l.length - k∧(l.find? fun n=>decide (n≠0))=((l.drop k).find? fun n=>decide (n≠0)) ∧
  st=(E [(3,.d (eI 0)),(6,.d (.list (l.map eI))),(7,.d (eI l.length)),(8,.d (eI k))],HB [],[],noGh))
  ⟨_,_,zk9,0,by omega,rfl,rfl,rfl⟩ ?_
 rintro m st ⟨k,hk,rfl,hf,rfl⟩
 refine goR trivial ?_
 refine zl0 (fun h1=>?_) (fun h1=>?_)
 · have hk':k<l.length:=by omega
   rw [z4k hk',List.find?_cons] at hf
   (refine goX trivial ?_;(repeat' (with_reducible apply Br.mk<;>intro _)))
   · rename_i he
     rw [decide_eq_true he] at hf
     exact Fin.p rfl (iE (by rw [hf];rfl))
   · rename_i he
     rw [decide_eq_false he] at hf
     refine ⟨_,_,?_,zk9,k+1,hk',rfl,hf,rfl⟩
     omega
 · obtain rfl:k=l.length:=by omega
   rw [z0a] at hf
   refine goR trivial ?_
   exact Fin.p rfl (iE (by rw [hf];rfl))
theorem z9b (a b:Int):(([a,b].find? fun n=>decide (n≠0)).getD 0)=if a≠0 then a else b:=by
 by_cases h:a=0
 · by_cases h2:b=0<;>simp [h,h2]
 · simp [h]
theorem zmc (g n g' n':Nat):zw Tryz.prog f_zz38 [.agg [eN g,eN n],.agg [eN g',eN n']]
 (·=.d (.int .i64 (if zo7 g g'≠0 then zo7 g g' else zo7 n n'))):=by
 refine zh fol zz38_cp ?_
 have ho:=Or_ok [zo7 g g',zo7 n n'] (by simp)
 rw [z9b] at ho
 refine goS trivial ?_
 (refine zla trivial (z13 g g') (z13 n n') (ho) ?_;(repeat' (with_reducible apply Br.mk<;>intro _)))
 exact Fin.p rfl rfl
end Go.Proofs.YtpplfpnjfjnkdaaGreatDoor
namespace Go.Proofs.YtpplfpnjfjnkdaaGreatDoor
open Go Go.E2 C22 C23 CW
set_option maxHeartbeats 4000000
theorem zw5 {G:Gh} {b off n cap:Nat} {s:List UInt8} {cs:List D} (hb:G.c b=some cs) (h:off+n≤cs.length) :
 gdD .copyS [.gs b off n cap,.str s] G=some (.d (.int .i64 (min n s.length:Nat)),G.set b (some (zau cs ((s.take n).map eB) off))):=by
 have e:G b=some cs:=hb
 simp only [gdD,e,if_pos h];rfl
theorem zkr {l pre mid post ys:List UInt8} {n:Nat} (hl:l=pre++mid++post) (hp:pre.length=n) (hm:mid.length=ys.length):zau (l.map eB) (ys.map eB) n=(pre++ys++post).map eB:=by
 subst hl
 rw [yk6Q,yk6Q,zmw (by rw [yk3Q,hp]) (by rw [yk3Q,yk3Q,hm])]
 simp only [yk6Q]
theorem z9c (b:Nat) (s:Sec) (tag:Int) (h0:0≤tag∧tag<256) (side:Nat) (hs:side<1000000) (σ:List Hp) (G:Gh) (hG:G.c b=some (s.1.map eB)) :
 zaz Tryz.prog f_zz104 ([D.gp b 0,.int .i64 tag,.list [eI side]].map .d) σ G fun _r σ' G'=>σ'=σ∧G'.c b=some ((tx s 0 48++CH.dig tag.toNat [tx s 0 48,intB side]).map eB):=by
 refine zm fol zz104_cp ?_
 have hl:=zj s
 refine goS trivial ?_
 refine goR (nn hG hl) ?_
 (refine zb7 (nn hG hl) (zo6 s tag h0 side hs) ?_;(repeat' (with_reducible apply Br.mk<;>intro _)))
 have hd:=CH.dig_len tag.toNat [tx s 0 48,intB side]
 generalize CH.dig tag.toNat [tx s 0 48,intB side]=dg at *
 refine zx fun d hdn=>?_
 have hne:b≠d:=by rintro rfl;rw [hdn] at hG;cases hG
 have hGb:(G.set d (some (dg.map eB))).c b=some (s.1.map eB):=by rw [Gh.set_c,zcm hne,hG]
 have hGd:(G.set d (some (dg.map eB))).c d=some (dg.map eB):=by rw [Gh.set_c,zbp]
 have ev:zbn (G.set d (some (dg.map eB))) 1 (.gs d 0 16 16)=some (16,dg.map eB):=by
  have e:(G.set d (some (dg.map eB))) d=some (dg.map eB):=hGd
  simp only [zbn,e,yk3Q,hd,ylsQ,List.drop_zero]
  rw [if_pos (by decide),zbq hd]
 refine goS hd ?_
 refine goR (nn hGb (nn hGd (nn hl hd))) ?_
 refine zi4 (b:=b) (off:=48) (len:=16) hGb ev (by rw [hl];decide) ?_
 refine goS trivial ?_
 refine goR trivial ?_
 (apply Fin.eq;(focus (simp -dsimp (disch:=first|omega|(simp only [go_sem];omega)) only [go_sem,seval,Nat.reduceEqDiff,Nat.reduceLeDiff]<;>rfl)))
 refine ⟨rfl,?_⟩
 have e0:List.take 48 (s.1.map eB)=(tx s 0 48).map eB:=by have:=ze5 s 0 48;rwa [List.drop_zero] at this
 rw [e0,zbq hd]
 simp [Gh.set_c,zbp]
theorem mkH_s (g n side:Nat):(mkH g n side).1=tx (ziu (hdB g n)) 0 48++CH.dig 129 [tx (ziu (hdB g n)) 0 48,intB side]:=by
 have e:tx (ziu (hdB g n)) 0 48=hdB g n:=rfl
 rw [zx3,e,zfu]
theorem zeu (g n side:Nat) (hg:g<4611686018427387904) (hn:n<4611686018427387904) (hs:side<1000000):zw Tryz.prog f_zz42 [.agg [eN g,eN n],eI side] (·=.d (eS (mkH g n side))):=by
 refine zw.of_deep (zm fol zz42_cp ?_)
 obtain ⟨z64,hz⟩:∃ z,z=zr 64 (D.int .u8 0):=⟨_,rfl⟩
 have hz1:zr 64 (D.int .u8 0)=z64:=hz.symm
 have ez:z64=(List.replicate 64 (0:UInt8)).map eB:=hz
 have hzl:z64.length=64:=by rw [ez];rfl
 have e1:zau z64 ((List.take 64 [81,85,73,69,84,74,78,76]).map eB) 0=(zft++List.replicate 56 0).map eB:=by
  rw [ez]
  exact zkr (l:=List.replicate 64 0) (ys:=zft) (pre:=[]) (mid:=List.replicate 8 0) (post:=List.replicate 56 0) rfl rfl rfl
 obtain ⟨c1,hc1⟩:∃ c,c=zft++List.replicate 56 (0:UInt8):=⟨_,rfl⟩
 have hl1:(c1.map eB).length=64:=by rw [hc1];rfl
 have e2:zau (c1.map eB) ((zd8 g).map eB) 8=(zft++zd8 g++List.replicate 52 0).map eB:=zkr (pre:=zft) (mid:=List.replicate 4 0) (post:=List.replicate 52 0) hc1 rfl rfl
 obtain ⟨c2,hc2⟩:∃ c,c=zft++zd8 g++List.replicate 52 (0:UInt8):=⟨_,rfl⟩
 have hl2:(c2.map eB).length=64:=by rw [hc2];rfl
 have e3:zau (c2.map eB) ((zd8 n).map eB) 12=(hdB g n++List.replicate 16 0).map eB:=by
  have:=zkr (l:=c2) (pre:=zft++zd8 g) (mid:=List.replicate 4 0) (post:=List.replicate 48 0) (ys:=zd8 n) (n:=12) (by rw [hc2];rfl) rfl rfl
  rw [this];rfl
 have e4:(hdB g n++List.replicate 16 0)=(ziu (hdB g n)).1:=rfl
 have hm:=mkH_s g n side
 rw [← hc1] at e1
 rw [← hc2] at e2
 rw [e4] at e3
 generalize ziu (hdB g n)=s at *
 generalize mkH g n side=m at *
 refine goS hz1 ?_
 refine goR trivial ?_
 refine zx fun b hb=>?_
 refine goS hz1 ?_
 refine goR hzl ?_
 refine zrx (zw5 (by rw [Gh.set_c,zbp]) (by omega)) ?_
 rw [Gh.set_set,e1]
 refine goS trivial ?_
 refine goR hl1 ?_
 apply zzf (zsj b 8 56 56 (c1.map eB) g hg (by decide) (by rw [hl1];decide) _ _ (by rw [Gh.set_c,zbp])) goD goD
 rintro _ _ rfl
 rw [Gh.set_set,e2]
 refine goS trivial ?_
 refine goR hl2 ?_
 apply zzf (zsj b 12 52 52 (c2.map eB) n hn (by decide) (by rw [hl2];decide) _ _ (by rw [Gh.set_c,zbp])) goD goD
 rintro _ _ rfl
 rw [Gh.set_set,e3]
 refine goS trivial ?_
 refine goR trivial ?_
 apply wC_g (z9c b s 129 (by decide) side hs _ _ (by rw [Gh.set_c,zbp])) goD goD
 rintro _ G' hG'
 have e5:(129:Int).toNat=129:=rfl
 rw [e5,← hm] at hG'
 have hl3:=zj m
 have hm3:List.take 64 (m.1.map eB)=m.1.map eB:=yk1Q (by rw [hl3];exact Nat.le_refl _)
 refine goS trivial ?_
 refine goR (nn hG' (nn hl3 (nn hm3 hzl))) ?_
 (apply Fin.eq;(focus (simp -dsimp (disch:=first|omega|(simp only [go_sem];omega)) only [go_sem,seval,Nat.reduceEqDiff,Nat.reduceLeDiff,hl3,hm3,hzl]<;>rfl)))
 exact ⟨rfl,_,.refl _,rfl⟩
end Go.Proofs.YtpplfpnjfjnkdaaGreatDoor
namespace Go.Proofs.YtpplfpnjfjnkdaaGreatDoor
open Go Go.E2 C22 C23 CW
set_option maxHeartbeats 4000000
theorem z14 (s:Sec) (side slot:Nat) (h1:side<1000000) (h2:slot<1000000):zw Tryz.prog f_zz106 [eS s,eI side,eI slot] (·=.d (eDg (zeb (tx s 0 16++tx s 24 56) side slot))):=by
 refine zw.of_deep (zm fol zz106_cp ?_)
 have hl:=zj s
 have t1:=zas s (a:=0) (b:=16) (by decide)
 have t2:=zas s (a:=24) (b:=56) (by decide)
 have ho:=z87 130 (by decide) [tx s 0 16++tx s 24 56,intB side,intB slot] (by simp) (by
  intro t ht
  rcases List.mem_cons.1 ht with rfl|ht
  · rw [yk2Q,zas s (by decide),zas s (by decide)];decide
  · exact zo5 s (a:=0) (b:=48) (by decide) [side,slot] (by simp;omega) t (List.mem_cons.2 (.inr ht)))
 refine goS trivial ?_
 refine goR trivial ?_
 refine zx fun b hb=>?_
 have g1:=z6f (G:=noGh.set b (some (s.1.map eB))) (b:=b) (off:=0) (len:=16) (cap:=64) (s:=s) (by simp [upd]) (by decide) (by decide)
 have g2:=z6f (G:=noGh.set b (some (s.1.map eB))) (b:=b) (off:=24) (len:=32) (cap:=40) (s:=s) (by simp [upd]) (by decide) (by decide)
 refine goS trivial ?_
 refine goR (nn g1 g2) ?_
 (refine zla (nn g1 g2) (zwq side (z11 (by omega))) (zwq slot (z11 (by omega))) (ho) ?_;(repeat' (with_reducible apply Br.mk<;>intro _)))
 (apply Fin.eq;(focus (simp -dsimp (disch:=first|omega|(simp only [go_sem];omega)) only [go_sem,seval,Nat.reduceEqDiff,Nat.reduceLeDiff,zbq (zd6 _ _ _)]<;>rfl)))
 exact ⟨rfl,_,.refl _,rfl⟩
theorem zhx (s:Sec) (side slot:Nat) (h1:side<1000000) (h2:slot<1000000):zw Tryz.prog f_zz53 [eS s,eI side,eI slot] (·=.d (.bool (isF s side slot))):=by
 refine zw.of_deep (zm fol zz53_cp ?_)
 have hl:=zj s
 have t1:=zas s (a:=16) (b:=24) (by decide)
 have t2:=zas s (a:=56) (b:=64) (by decide)
 have hsm:=z14 s side slot h1 h2
 have hd:=zd6 (tx s 0 16++tx s 24 56) side slot
 have e1:isF s side slot=decide (tx s 16 24++tx s 56 64=zeb (tx s 0 16++tx s 24 56) side slot):=rfl
 rw [e1]
 generalize zeb (tx s 0 16++tx s 24 56) side slot=dg at *
 refine goS trivial ?_
 refine goR trivial ?_
 refine zx fun b hb=>?_
 refine goS trivial ?_
 (refine zb7 trivial (hsm) ?_;(repeat' (with_reducible apply Br.mk<;>intro _)))
 refine zx fun d hdn=>?_
 have hne:b≠d:=by rintro rfl;rw [Gh.set_c,zbp] at hdn;cases hdn
 have hGb:((noGh.set b (some (s.1.map eB))).set d (some (dg.map eB))).c b=some (s.1.map eB):=by rw [Gh.set_c,zcm hne,Gh.set_c,zbp]
 have hGd:((noGh.set b (some (s.1.map eB))).set d (some (dg.map eB))).c d=some (dg.map eB):=by rw [Gh.set_c,zbp]
 have g1:=z6f (b:=b) (off:=16) (len:=8) (cap:=48) hGb (by decide) (by decide)
 have g2:=z6f (b:=b) (off:=56) (len:=8) (cap:=8) hGb (by decide) (by decide)
 have g3:gdD .b2s [.gs d 0 16 16] ((noGh.set b (some (s.1.map eB))).set d (some (dg.map eB)))=some (.d (.str dg),(noGh.set b (some (s.1.map eB))).set d (some (dg.map eB))):=by
  refine zmx (n:=16) (cs:=dg.map eB) ?_ (zeo _)
  have e:((noGh.set b (some (s.1.map eB))).set d (some (dg.map eB))) d=some (dg.map eB):=hGd
  simp only [zbn,e,yk3Q,hd,ylsQ,List.drop_zero]
  rw [if_pos (by decide),zbq hd]
 refine goS hd ?_
 refine goR (nn hd (nn g1 (nn g2 g3))) ?_
 (apply Fin.eq;(focus (simp -dsimp (disch:=first|omega|(simp only [go_sem];omega)) only [go_sem,seval,Nat.reduceEqDiff,Nat.reduceLeDiff]<;>rfl)))
 exact ⟨rfl,_,.refl _,rfl⟩
end Go.Proofs.YtpplfpnjfjnkdaaGreatDoor
namespace Go.Proofs.YtpplfpnjfjnkdaaGreatDoor
open Go Go.E2 C22 C23 CW
set_option maxHeartbeats 4000000
def eFr (f:Fr):D:=.agg ([eN f.g,eN f.n]++f.lk.map eB++[eB f.fl,eB f.ln]++f.pc.map eB)
structure z9d (f:Fr):Prop where
 lk:f.lk.length=8
 pc:f.pc.length=30
theorem zq1 (s:Sec):z9d (zal s):=⟨zas s (by decide),zas s (by decide)⟩
theorem z15 (s:Sec):zw Tryz.prog f_zz39 [eS s] (·=.d (eFr (zal s))):=zd3 s
theorem z0b (x y:UInt8):za4 .eql (eB x) (.int .u8 (y.toNat:Int))=some (.bool (decide (x=y))):=by
 have e:za4 .eql (eB x) (.int .u8 (y.toNat:Int))=some (.bool (decide ((x.toNat:Int)=(y.toNat:Int)))):=zy7 _ _ _
 rw [e]
 congr 2
 exact decide_eq_decide.2 ⟨fun h=>UInt8.toNat_inj.1 (by omega),fun h=>by rw [h]⟩
theorem zo8 (g n:Nat) (c0 c1 c2 c3 c4 c5 c6 c7 fl ln:UInt8) (pc:List UInt8):eFr ⟨g,n,[c0,c1,c2,c3,c4,c5,c6,c7],fl,ln,pc⟩=.agg (eN g::eN n::eB c0::eB c1::eB c2::eB c3::eB c4::eB c5::eB c6::eB c7::eB fl::eB ln::pc.map eB):=rfl
theorem zo9 (f:Fr) (h:z9d f):zw Tryz.prog f_zz16 [eFr f] (·=.d (.bool f.begins)):=by
 refine zh fol zz16_cp ?_
 obtain ⟨g,n,lk,fl,ln,pc⟩:=f
 obtain ⟨c0,c1,c2,c3,c4,c5,c6,c7,rfl⟩:=ex8 h.lk
 have hpl:List.length pc=30:=h.pc
 have u1:za4 .eql (eB fl) (.int .u8 1)=_:=z0b fl 1
 have u3:za4 .eql (eB fl) (.int .u8 3)=_:=z0b fl 3
 rw [zo8]
 show W _ _ (zp.mk (a:=zyq _ fun r σ' G'=>σ'=[]∧G'=noGh∧r=.d (.bool (decide (fl=1) || decide (fl=3))))) _
 generalize decide (fl=3)=v at *
 by_cases h1:fl=1
 · rw [decide_eq_true h1] at u1 ⊢
   refine goS trivial ?_
   (refine goX (nn hpl (nn u1 u3)) ?_;(repeat' (with_reducible apply Br.mk<;>intro _)))
   exact Fin.p rfl rfl
 · rw [decide_eq_false h1] at u1 ⊢
   refine goS trivial ?_
   (refine goX (nn hpl (nn u1 u3)) ?_;(repeat' (with_reducible apply Br.mk<;>intro _)))
   exact Fin.p rfl rfl
theorem zw6 (f:Fr) (h:z9d f):zw Tryz.prog f_zz31 [eFr f] (·=.d (.bool f.ends)):=by
 refine zh fol zz31_cp ?_
 obtain ⟨g,n,lk,fl,ln,pc⟩:=f
 obtain ⟨c0,c1,c2,c3,c4,c5,c6,c7,rfl⟩:=ex8 h.lk
 have hpl:List.length pc=30:=h.pc
 have u1:za4 .eql (eB fl) (.int .u8 2)=_:=z0b fl 2
 have u3:za4 .eql (eB fl) (.int .u8 3)=_:=z0b fl 3
 rw [zo8]
 show W _ _ (zp.mk (a:=zyq _ fun r σ' G'=>σ'=[]∧G'=noGh∧r=.d (.bool (decide (fl=2) || decide (fl=3))))) _
 generalize decide (fl=3)=v at *
 by_cases h1:fl=2
 · rw [decide_eq_true h1] at u1 ⊢
   refine goS trivial ?_
   (refine goX (nn hpl (nn u1 u3)) ?_;(repeat' (with_reducible apply Br.mk<;>intro _)))
   exact Fin.p rfl rfl
 · rw [decide_eq_false h1] at u1 ⊢
   refine goS trivial ?_
   (refine goX (nn hpl (nn u1 u3)) ?_;(repeat' (with_reducible apply Br.mk<;>intro _)))
   exact Fin.p rfl rfl
theorem ztz (f:Fr) (h:z9d f) (hln:f.ln.toNat≤30):zw Tryz.prog f_zz12 [eFr f] (·=.d (.str f.content)):=by
 refine zw.of_deep (zm fol zz12_cp ?_)
 obtain ⟨g,n,lk,fl,ln,pc⟩:=f
 obtain ⟨c0,c1,c2,c3,c4,c5,c6,c7,rfl⟩:=ex8 h.lk
 have hpl:List.length pc=30:=h.pc
 have hln:ln.toNat≤30:=hln
 rw [zo8]
 refine goS trivial ?_
 refine goR hpl ?_
 refine zx fun b hb=>?_
 refine goS trivial ?_
 obtain ⟨cs,hcs⟩:∃ cs,cs=eN g::eN n::eB c0::eB c1::eB c2::eB c3::eB c4::eB c5::eB c6::eB c7::eB fl::eB ln::pc.map eB:=⟨_,rfl⟩
 have a1:gdD (.arrS 1 30 false true false) [.gp b 12,eB ln] (noGh.set b (some cs))=some (.d (.gs b 12 ln.toNat 30),noGh.set b (some cs)):=by
  rw [eB,zy3 1 30 b 12 .u8 _ _ (by omega) (by omega),yleQ]
 have a2:gdD .b2s [.gs b 12 ln.toNat 30] (noGh.set b (some cs))=some (.d (.str (pc.take ln.toNat)),noGh.set b (some cs)):=by
  refine zmx (n:=ln.toNat) (cs:=(pc.take ln.toNat).map eB) ?_ (zeo _)
  have e:(noGh.set b (some cs)) b=some cs:=by show (noGh.set b (some cs)).c b=_;rw [Gh.set_c,zbp]
  have hl:cs.length=42:=by rw [hcs];simp [hpl]
  have hd:cs.drop 12=pc.map eB:=by rw [hcs];rfl
  simp only [zbn,e,hl,ylsQ,hd]
  rw [if_pos (by omega),List.map_take]
 refine goR hpl ?_
 rw [← hcs]
 refine goS (nn a1 a2) ?_
 refine goR (nn a1 a2) ?_
 (apply Fin.eq;(focus (simp -dsimp (disch:=first|omega|(simp only [go_sem];omega)) only [go_sem,seval,Nat.reduceEqDiff,Nat.reduceLeDiff]<;>rfl)))
 exact ⟨rfl,_,.refl _,rfl⟩
theorem zli (g n:Nat) (lk pc:List UInt8) (first last:Bool) (hlk:lk.length=8) (hp:pc.length≤30) :
 zw Tryz.prog f_zz43 [.agg [eN g,eN n],eDg lk,.str pc,.bool first,.bool last]
 (·=.d (eFr ⟨g,n,lk,UInt8.ofNat ((if first=true then 1 else 0)+(if last=true then 2 else 0)),UInt8.ofNat pc.length,pc++List.replicate (30 - pc.length) 0⟩)):=by
 refine zw.of_deep (zm fol zz43_cp ?_)
 obtain ⟨c0,c1,c2,c3,c4,c5,c6,c7,rfl⟩:=ex8 hlk
 rw [zo8]
 refine goS trivial ?_
 refine goR trivial ?_
 refine zx fun b hb=>?_
 have m1:(min 1 32 == 1)=true:=rfl
 refine goS trivial ?_
 refine goR trivial ?_
 refine ⟨rfl,?_⟩
 refine goS trivial ?_
 refine goR trivial ?_
 obtain ⟨P,hP⟩:∃ P,P=pc++List.replicate (30 - pc.length) 0:=⟨_,rfl⟩
 have hPl:List.length P=30:=by rw [hP,yk2Q,ylgQ];omega
 have eln:D.int .u8 (pc.length:Int)=eB (UInt8.ofNat pc.length):=by
  rw [eB,UInt8.toNat_ofNat']
  congr 1
  omega
 obtain ⟨ln,hln⟩:∃ x,x=UInt8.ofNat pc.length:=⟨_,rfl⟩
 have e1:zau (eN g::eN n::eB c0::eB c1::eB c2::eB c3::eB c4::eB c5::eB c6::eB c7::(zr (min 1 32) (D.int .u8 0)++[D.int .u8 (pc.length:Int)]++zr 30 (D.int .u8 0)++zr (1 - min 1 32) (D.int .u8 0))) ((pc.take 30).map eB) 12 =
  eN g::eN n::eB c0::eB c1::eB c2::eB c3::eB c4::eB c5::eB c6::eB c7::eB 0::eB ln::P.map eB:=by
  rw [eln,yk1Q hp,hP,hln,yk6Q]
  have:=zmw (pre:=[eN g,eN n,eB c0,eB c1,eB c2,eB c3,eB c4,eB c5,eB c6,eB c7,eB 0,eB (UInt8.ofNat pc.length)]) (mid:=List.replicate pc.length (eB 0)) (post:=List.replicate (30 - pc.length) (eB 0)) (ys:=pc.map eB) (n:=12) rfl (by simp)
  rw [yk5Q,List.replicate_append_replicate,show pc.length+(30 - pc.length)=30 from by omega] at this
  rw [List.map_replicate]
  exact this
 refine zrx (zw5 (by rw [Gh.set_c,zbp]) (by simp [zr])) ?_
 rw [Gh.set_set,e1,← hP,← hln]
 have a1:za4 .add (eB 0) (.int .u8 1)=some (eB 1):=rfl
 have a2:za4 .add (eB 0) (.int .u8 2)=some (eB 2):=rfl
 have a3:za4 .add (eB 1) (.int .u8 2)=some (eB 3):=rfl
 have tP:=zbq hPl
 cases first<;>cases last
 all_goals
  refine goS trivial ?_
  (refine goX (nn hPl (nn tP (nn a1 (nn a2 a3)))) ?_;(repeat' (with_reducible apply Br.mk<;>intro _)))
  (apply Fin.eq;(focus (simp -dsimp (disch:=first|omega|(simp only [go_sem];omega)) only [go_sem,seval,Nat.reduceEqDiff,Nat.reduceLeDiff,hPl,tP]<;>rfl)))
  exact ⟨rfl,_,.refl _,rfl⟩
