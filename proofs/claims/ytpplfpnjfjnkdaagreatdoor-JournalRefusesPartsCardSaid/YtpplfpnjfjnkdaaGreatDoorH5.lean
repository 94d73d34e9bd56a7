/-
 SHA-256: the padding,and the hash of a message,by the reference.
 Conditions: of each contract as it says.
-/
import Derived.Test.YtpplfpnjfjnkdaaGreatDoorH1
set_option linter.unusedSimpArgs false
namespace Go.Proofs.YtpplfpnjfjnkdaaGreatDoor
open Go Go.E2 CW CH
set_option maxHeartbeats 4000000
theorem zwt (n k:Nat) (hk:k<zs n):(n+1+k) % 64≠56:=by unfold zs at hk;omega
theorem zwu (n:Nat):(n+1+zs n) % 64=56:=by unfold zs;omega
theorem zwv (n:Nat) {i:Nat} (hi:i<(be8 n).length):(be8 n)[i]=UInt8.ofNat (n / 2 ^ (56 - 8 * i)):=by
 have h8:i<8:=hi
 rcases (by omega:i=0∨i=1∨i=2∨i=3∨i=4∨i=5∨i=6∨i=7) with rfl|rfl|rfl|rfl|rfl|rfl|rfl|rfl<;>simp [be8]
theorem zww (n:Nat) {k:Nat} (hk:k≤64):za4 .shr (.int .u64 (n:Int)) (.int .i64 (k:Int))=some (.int .u64 ((n / 2 ^ k:Nat):Int)):=by
 show (if (k:Int)<0 then none else some (D.int .u64 (Int.fdiv (n:Int) (2 ^ (min (k:Int).toNat 64)))))=_
 rw [if_neg (by omega),yleQ,Nat.min_eq_left hk,Int.fdiv_eq_ediv_of_nonneg _ (Int.pow_nonneg (by omega))]
 norm_cast
theorem zwx (n:Nat):zqc .u8 (.d (.int .u64 (n:Int)))=some (.d (.int .u8 ((UInt8.ofNat n).toNat:Int))):=by
 show some (AV.d (.int .u8 (IntKind.u8.wrap (n:Int))))=_
 have:IntKind.u8.wrap (n:Int)=((n % 256:Nat):Int):=by simp [IntKind.wrap,IntKind.bits,IntKind.signed]
 rw [this];simp
theorem zwy (b:Str) (hb:b.length≤1000000):zw Tryz.prog f_zz47 [.list (b.map eB)] (·=.d (.list ((b++zfs b.length).map eB))):=by
 refine zh fol zz47_cp ?_
 have hm:=z2
 refine goS trivial ?_
 (refine goX trivial ?_;(repeat' (with_reducible apply Br.mk<;>intro _)))
 refine W.loop (fun m st=>∃ (k:Nat) (out:Str),k≤zs b.length∧m=zs b.length - k∧out=b++128::List.replicate k 0 ∧
  st=(E [(3,.own 1 (out.map eB)),(0,.d (.list (b.map eB)))],HB [],[],noGh))
  ⟨_,_,zkc (by (simp -dsimp (disch:=first|omega|(simp only [go_sem];omega)) only [go_sem,seval,Nat.reduceEqDiff,Nat.reduceLeDiff,yk6Q,List.map_cons,List.map_nil,List.replicate_zero]<;>((repeat' apply And.intro)<;>first|exact VLe.refl _|(apply zaa;omega)|(apply zaa;simp;done)|exact VLe.own _ _|exact VLe.nilown _|exact VLe.norm _))),0,b++[128],by omega,rfl,rfl,rfl⟩ ?_
 rintro m st ⟨k,out,hk,rfl,hout,rfl⟩
 have hol:out.length=b.length+1+k:=by rw [hout,yk2Q,List.length_cons,ylgQ];omega
 have hz:zs b.length<64:=by unfold zs;omega
 have hr:(out.length:Int).tmod 64=((out.length % 64:Nat):Int):=by rw [Int.tmod_eq_emod_of_nonneg (by omega)];omega
 by_cases h1:k<zs b.length
 case pos =>
  have h2:(((out.length % 64:Nat):Int)=56)=False:=eq_false (by have:=zwt b.length k h1;omega)
  (refine goX (nn hr h2) ?_;(repeat' (with_reducible apply Br.mk<;>intro _)))
  refine ⟨_,_,?_,zkc (by (simp -dsimp (disch:=first|omega|(simp only [go_sem];omega)) only [go_sem,seval,Nat.reduceEqDiff,Nat.reduceLeDiff,yk6Q,List.map_cons,List.map_nil]<;>((repeat' apply And.intro)<;>first|exact VLe.refl _|(apply zaa;omega)|(apply zaa;simp;done)|exact VLe.own _ _|exact VLe.nilown _|exact VLe.norm _))),k+1,out++[0],by omega,rfl,by rw [hout,yk5Q,List.cons_append,← List.replicate_succ'],rfl⟩
  omega
 obtain rfl:k=zs b.length:=by omega
 have h2:(((out.length % 64:Nat):Int)=56)=True:=eq_true (by have:=zwu b.length;omega)
 (refine goX (nn hr h2) ?_;(repeat' (with_reducible apply Br.mk<;>intro _)))
 refine W.loop (fun m st=>∃ (i:Nat) (o2:Str),i≤8∧m=8 - i∧o2=out++(be8 (8 * b.length)).take i ∧
  st=(E [(5,.d (.int .i64 (i:Int))),(4,.d (.int .u64 (((8 * b.length:Nat)):Int))),(3,.own 1 (o2.map eB))],HB [],[],noGh))
  ⟨_,_,zk9,0,out,by omega,rfl,by simp,rfl⟩ ?_
 rintro m st ⟨i,o2,hi,rfl,ho2,rfl⟩
 have hol2:o2.length=out.length+i:=by rw [ho2,yk2Q,yk4Q];show _+min i 8=_;omega
 by_cases h3:(i:Int)<8
 case pos =>
  have hib:i<(be8 (8 * b.length)).length:=by show i<8;omega
  have hsh:=zww (8 * b.length) (k:=56 - 8 * i) (by omega)
  rw [show ((56 - 8 * i:Nat):Int)=56 - 8 * (i:Int) from by omega] at hsh
  have hcv:=zwx (8 * b.length / 2 ^ (56 - 8 * i))
  (refine goX (nn h3 (nn hsh hcv)) ?_;(repeat' (with_reducible apply Br.mk<;>intro _)))
  refine ⟨_,_,?_,zkc (by (simp -dsimp (disch:=first|omega|(simp only [go_sem];omega)) only [go_sem,seval,Nat.reduceEqDiff,Nat.reduceLeDiff,yk6Q,List.map_cons,List.map_nil,zo1]<;>((repeat' apply And.intro)<;>first|exact VLe.refl _|(apply zaa;omega)|(apply zaa;simp;done)|exact VLe.own _ _|exact VLe.nilown _|exact VLe.norm _))),i+1,o2++[UInt8.ofNat (8 * b.length / 2 ^ (56 - 8 * i))],by omega,rfl,?_,rfl⟩
  · omega
  · rw [yldQ hib,zwv _ hib,← yk5Q,ho2]
 obtain rfl:i=8:=by omega
 (refine goX h3 ?_;(repeat' (with_reducible apply Br.mk<;>intro _)))
 refine Fin.p rfl ?_
 rw [ho2,hout,zfs]
 show _=AV.d (.list ((b++128::(List.replicate (zs b.length) 0++be8 (8 * b.length))).map eB))
 congr 3
 rw [yk5Q];rfl
theorem H8.get (s:H8) {i:Nat} (hi:i<8):(eH s)[i]?=some (eW (s.list.getD i 0)):=by
 rcases (by omega:i=0∨i=1∨i=2∨i=3∨i=4∨i=5∨i=6∨i=7) with rfl|rfl|rfl|rfl|rfl|rfl|rfl|rfl<;>rfl
theorem zo4 (s:H8) {i:Nat} (hi:i<s.bytes.length):s.bytes[i]=UInt8.ofNat ((s.list.getD (i / 4) 0).toNat / 2 ^ (24 - 8 * (i % 4))):=by
 have h:i<32:=hi
 rcases (by omega:i=0∨i=1∨i=2∨i=3∨i=4∨i=5∨i=6∨i=7∨i=8∨i=9∨i=10∨i=11∨i=12∨i=13∨i=14∨i=15∨i=16∨i=17∨i=18∨i=19∨i=20∨i=21∨i=22∨i=23∨i=24∨i=25∨i=26∨i=27∨i=28∨i=29∨i=30∨i=31) with rfl|rfl|rfl|rfl|rfl|rfl|rfl|rfl|rfl|rfl|rfl|rfl|rfl|rfl|rfl|rfl|rfl|rfl|rfl|rfl|rfl|rfl|rfl|rfl|rfl|rfl|rfl|rfl|rfl|rfl|rfl|rfl<;>first|rfl|simp [H8.bytes,H8.list,z2c,List.flatMap_cons]
theorem z82 (w:W32) {k:Nat} (hk:k≤32):za4 .shr (eW w) (.int .i64 (k:Int))=some (.int .u32 ((w.toNat / 2 ^ k:Nat):Int)):=by
 show (if (k:Int)<0 then none else some (D.int .u32 (Int.fdiv (w.toNat:Int) (2 ^ (min (k:Int).toNat 32)))))=_
 rw [if_neg (by omega),yleQ,Nat.min_eq_left hk,Int.fdiv_eq_ediv_of_nonneg _ (Int.pow_nonneg (by omega))]
 norm_cast
theorem zsg (n:Nat):zqc .u8 (.d (.int .u32 (n:Int)))=some (.d (.int .u8 ((UInt8.ofNat n).toNat:Int))):=by
 show some (AV.d (.int .u8 (IntKind.u8.wrap (n:Int))))=_
 have:IntKind.u8.wrap (n:Int)=((n % 256:Nat):Int):=by simp [IntKind.wrap,IntKind.bits,IntKind.signed]
 rw [this];simp
theorem zz3 (m:Str) {n:Nat} (h:64 * n+64≤m.length):((m.drop (64 * n)).take 64).length=64:=by rw [yk4Q,ylfQ];omega
def H8.mid8 (s v:H8) (i:Nat):H8:=⟨if 0<i then s.a+v.a else s.a,if 1<i then s.b+v.b else s.b,if 2<i then s.c+v.c else s.c,if 3<i then s.d+v.d else s.d,
 if 4<i then s.e+v.e else s.e,if 5<i then s.f+v.f else s.f,if 6<i then s.g+v.g else s.g,if 7<i then s.h+v.h else s.h⟩
theorem setB {c:List D} {bs:Str} {i n:Nat} (hc:c.length=n) (h:c.take i=(bs.take i).map eB) (hi:i<bs.length) (hn:i<n) :
 (c.take i++[eB bs[i]]++c.drop (i+1)).length=n∧(c.take i++[eB bs[i]]++c.drop (i+1)).take (i+1)=(bs.take (i+1)).map eB:=by
 have hl:(c.take i).length=i:=by rw [yk4Q];omega
 refine ⟨by rw [yk2Q,yk2Q,hl,ylfQ];simp;omega,?_⟩
 rw [ylnQ (by rw [yk2Q,hl];rfl),h,yldQ hi,yk6Q];rfl
theorem z39 (b:Str) (hb:b.length≤1000000):zw Tryz.prog f_zz75 [.list (b.map eB)] (·=.d (.agg ((sha b).map eB))):=by
 refine zh fol zz75_cp ?_
 have hp:=zwy b hb
 obtain ⟨m,hm⟩:∃ m,m=b++zfs b.length:=⟨_,rfl⟩
 have hml:m.length≤1000100:=by rw [hm,yk2Q,zkv];unfold zs;omega
 have hmd:m.length % 64=0:=by rw [hm,yk2Q];exact zxy _
 obtain ⟨N,hN⟩:∃ N,m.length=64 * N:=⟨m.length / 64,by omega⟩
 have hsha:sha b=(CH.hb m N).bytes:=by
  have:(b.length+(zfs b.length).length) / 64=N:=by rw [← yk2Q,← hm,hN];omega
  unfold sha;rw [this,← hm]
 rw [hsha]
 rw [← hm] at hp
 have hblk:∀ n,CH.hb m (n+1)=comp (CH.hb m n) ((m.drop (64 * n)).take 64):=fun _=>rfl
 have hb0:CH.hb m 0=iv:=rfl
 generalize CH.hb m=H at hblk hb0 ⊢
 have zr8:zr 8 (D.int .u32 0)=[.int .u32 0,.int .u32 0,.int .u32 0,.int .u32 0,.int .u32 0,.int .u32 0,.int .u32 0,.int .u32 0]:=rfl
 obtain ⟨z32,hz32⟩:∃ z,z=zr 32 (D.int .u8 0):=⟨_,rfl⟩
 have z32l:z32.length=32:=by rw [hz32];rfl
 have z32d:List.drop 32 z32=[]:=by rw [hz32];rfl
 simp -dsimp (disch:=first|omega|(simp only [go_sem];omega)) only [go_sem,seval,Nat.reduceEqDiff,Nat.reduceLeDiff,zr8,← hz32]
 (refine zb7 zr8 (hp) ?_;(repeat' (with_reducible apply Br.mk<;>intro _)))
 refine W.loop (fun k st=>∃ (n:Nat) (b6 b7:Blk),n≤N∧k=N - n ∧
  st=(E [(5,.d (.int .i64 ((64 * n:Nat):Int))),(4,.d (.list (m.map eB))),(3,.ptr 0 3 1 0),(2,.ptr 0 2 1 0)],
   HB [(2,⟨1,some z32⟩),(3,⟨1,some (eH (H n))⟩),(6,b6),(7,b7)],[],noGh))
  ⟨_,_,z7 (by rw [hz32,hb0];exact (zkd [(2,⟨1,some (zr 32 (D.int .u8 0))⟩),(3,⟨1,some (eH iv)⟩)] [6,7] rfl).symm),0,_,_,by omega,rfl,rfl⟩ ?_
 rintro k st ⟨n,b6,b7,hn,rfl,rfl⟩
 by_cases h1:((64 * n:Nat):Int)<(m.length:Int)
 case pos =>
  obtain ⟨q,hq⟩:∃ q,q=(m.drop (64 * n)).take 64:=⟨_,rfl⟩
  have hql:q.length=64:=by rw [hq];exact zz3 m (by omega)
  have hv:z52 1 (some (.list (m.map eB))) (some ((64 * n:Nat):Int)) (some (((64 * n:Nat):Int)+64))=some (.d (.list (q.map eB))):=by
   rw [zod 1 _ _ _ (by omega) (by omega) (by rw [yk3Q];omega),if_pos (zhm m)]
   have e1:(((64 * n:Nat):Int)+64).toNat=64 * n+64:=by omega
   rw [e1,yleQ,hq,List.map_take,List.map_drop,List.take_drop]
  have hw:=zz2 q hql
  have hH:=hblk n
  rw [← hq,comp] at hH
  have hwl:(sch q 64).length=64:=znh q 64
  generalize sch q 64=w at hw hH hwl
  have hR:=z81 (H n) w
  have hR0:z4x (H n) w 0=H n:=rfl
  generalize z4x (H n) w=v at hR hR0 hH
  obtain ⟨wn,wtk,wall⟩:=zws hwl
  have z64:(zr 64 (D.int IntKind.u32 0)).length=64:=rfl
  have z64d:List.drop 64 (zr 64 (D.int IntKind.u32 0))=[]:=rfl
  obtain ⟨⟨sa,sb,sc,sd,se,sf,sg,sh⟩,hs⟩:∃ x,x=H n:=⟨_,rfl⟩
  rw [← hs] at hH hR0 ⊢
  simp only [eH]
  (refine zb7 (nn h1 (nn hv (nn wn (nn wtk (nn wall (nn z64 (nn z64d zr8))))))) (hw) ?_;(repeat' (with_reducible apply Br.mk<;>intro _)))
  refine W.loop (fun k st=>∃ t,t≤64∧k=64 - t ∧
   st=(E [(8,.d (.int .i64 (t:Int))),(7,.ptr 0 7 (b7.g+1) 0),(6,.ptr 0 6 (b6.g+1) 0),(5,.d (.int .i64 ((64 * n:Nat):Int))),(4,.d (.list (m.map eB))),(3,.ptr 0 3 1 0),(2,.ptr 0 2 1 0)],
    HB [(2,⟨1,some z32⟩),(3,⟨1,some (eH ⟨sa,sb,sc,sd,se,sf,sg,sh⟩)⟩),(6,⟨b6.g+1,some (w.map eW)⟩),(7,⟨b7.g+1,some (eH (v t))⟩)],[],noGh))
   ⟨_,_,z7 (by rw [hR0];rfl),0,by omega,rfl,rfl⟩ ?_
  rintro k st ⟨t,ht,rfl,rfl⟩
  by_cases h2:(t:Int)<64
  case pos =>
   have r6:=fun x=>zek x 6 (by omega) (by omega)
   have r11:=fun x=>zek x 11 (by omega) (by omega)
   have r25:=fun x=>zek x 25 (by omega) (by omega)
   have r2:=fun x=>zek x 2 (by omega) (by omega)
   have r13:=fun x=>zek x 13 (by omega) (by omega)
   have r22:=fun x=>zek x 22 (by omega) (by omega)
   have hs2:=hR.s t
   obtain ⟨⟨a,b,c,d,e,f,g1,h⟩,hv2⟩:∃ x,x=v t:=⟨_,rfl⟩
   rw [← hv2] at hs2 ⊢
   have hwv:zae false 1 (some (w.map eW)) (t * 1)=some (.d (eW (w.getD t 0))):=by
    rw [ylsQ,← zhu hwl];exact zco (by omega)
   have kl:=zxw
   have hkv:=z80 (l:=kK) (t:=t) (by rw [kl];omega)
   generalize w.getD t 0=wt at hs2 hwv
   generalize kK.getD t 0=kt at hs2 hkv
   simp only [eH]
   (refine zla (nn h2 (nn hwv (nn hkv zr8))) (r6 _) (r11 _) (r25 _) ?_;(repeat' (with_reducible apply Br.mk<;>intro _)))
   (refine zla (nn h2 (nn hwv (nn hkv zr8))) (r2 _) (r13 _) (r22 _) ?_;(repeat' (with_reducible apply Br.mk<;>intro _)))
   refine ⟨_,_,?_,z7 (by rw [hs2];rfl),t+1,by omega,rfl,rfl⟩
   omega
  obtain rfl:t=64:=by omega
  (refine goX h2 ?_;(repeat' (with_reducible apply Br.mk<;>intro _)))
  obtain ⟨⟨a,b,c,d,e,f,g1,h⟩,hv2⟩:∃ x,x=v 64:=⟨_,rfl⟩
  rw [← hv2] at hH ⊢
  refine W.loop (fun k st=>∃ i,i≤8∧k=8 - i ∧
   st=(E [(11,.d (.int .i64 (i:Int))),(7,.ptr 0 7 (b7.g+1) 0),(5,.d (.int .i64 ((64 * n:Nat):Int))),(4,.d (.list (m.map eB))),(3,.ptr 0 3 1 0),(2,.ptr 0 2 1 0)],
    HB [(2,⟨1,some z32⟩),(3,⟨1,some (eH (H8.mid8 ⟨sa,sb,sc,sd,se,sf,sg,sh⟩ ⟨a,b,c,d,e,f,g1,h⟩ i))⟩),(6,⟨b6.g+1,some (w.map eW)⟩),(7,⟨b7.g+1,some (eH ⟨a,b,c,d,e,f,g1,h⟩)⟩)],[],noGh))
   ⟨_,_,z7 rfl,0,by omega,rfl,rfl⟩ ?_
  rintro k st ⟨i,hi,rfl,rfl⟩
  rcases (by omega:i=0∨i=1∨i=2∨i=3∨i=4∨i=5∨i=6∨i=7∨i=8) with rfl|rfl|rfl|rfl|rfl|rfl|rfl|rfl|rfl
  · simp only [H8.mid8,Nat.lt_irrefl,Nat.reduceLT,if_true,if_false,Nat.not_lt_zero,eH]
    refine goS trivial ?_
    (refine goX trivial ?_;(repeat' (with_reducible apply Br.mk<;>intro _)))
    refine ⟨_,_,?_,z7 rfl,1,by omega,rfl,rfl⟩
    omega
  · simp only [H8.mid8,Nat.lt_irrefl,Nat.reduceLT,if_true,if_false,Nat.not_lt_zero,eH]
    refine goS trivial ?_
    (refine goX trivial ?_;(repeat' (with_reducible apply Br.mk<;>intro _)))
    refine ⟨_,_,?_,z7 rfl,2,by omega,rfl,rfl⟩
    omega
  · simp only [H8.mid8,Nat.lt_irrefl,Nat.reduceLT,if_true,if_false,Nat.not_lt_zero,eH]
    refine goS trivial ?_
    (refine goX trivial ?_;(repeat' (with_reducible apply Br.mk<;>intro _)))
    refine ⟨_,_,?_,z7 rfl,3,by omega,rfl,rfl⟩
    omega
  · simp only [H8.mid8,Nat.lt_irrefl,Nat.reduceLT,if_true,if_false,Nat.not_lt_zero,eH]
    refine goS trivial ?_
    (refine goX trivial ?_;(repeat' (with_reducible apply Br.mk<;>intro _)))
    refine ⟨_,_,?_,z7 rfl,4,by omega,rfl,rfl⟩
    omega
  · simp only [H8.mid8,Nat.lt_irrefl,Nat.reduceLT,if_true,if_false,Nat.not_lt_zero,eH]
    refine goS trivial ?_
    (refine goX trivial ?_;(repeat' (with_reducible apply Br.mk<;>intro _)))
    refine ⟨_,_,?_,z7 rfl,5,by omega,rfl,rfl⟩
    omega
  · simp only [H8.mid8,Nat.lt_irrefl,Nat.reduceLT,if_true,if_false,Nat.not_lt_zero,eH]
    refine goS trivial ?_
    (refine goX trivial ?_;(repeat' (with_reducible apply Br.mk<;>intro _)))
    refine ⟨_,_,?_,z7 rfl,6,by omega,rfl,rfl⟩
    omega
  · simp only [H8.mid8,Nat.lt_irrefl,Nat.reduceLT,if_true,if_false,Nat.not_lt_zero,eH]
    refine goS trivial ?_
    (refine goX trivial ?_;(repeat' (with_reducible apply Br.mk<;>intro _)))
    refine ⟨_,_,?_,z7 rfl,7,by omega,rfl,rfl⟩
    omega
  · simp only [H8.mid8,Nat.lt_irrefl,Nat.reduceLT,if_true,if_false,Nat.not_lt_zero,eH]
    refine goS trivial ?_
    (refine goX trivial ?_;(repeat' (with_reducible apply Br.mk<;>intro _)))
    refine ⟨_,_,?_,z7 rfl,8,by omega,rfl,rfl⟩
    omega
  · simp only [H8.mid8,Nat.lt_irrefl,Nat.reduceLT,if_true,if_false,Nat.not_lt_zero,eH]
    refine goS trivial ?_
    (refine goX trivial ?_;(repeat' (with_reducible apply Br.mk<;>intro _)))
    have e64:((64 * (n+1):Nat):Int)=((64 * n:Nat):Int)+64:=by omega
    refine ⟨_,_,?_,zvn e64 (by rw [hH];rfl),n+1,_,_,by omega,rfl,rfl⟩
    omega
 obtain rfl:n=N:=by omega
 have z32e:zr 32 (D.int .u8 0)=z32:=hz32.symm
 (refine goX (nn h1 z32e) ?_;(repeat' (with_reducible apply Br.mk<;>intro _)))
 generalize H n=hn at *
 have hbl:=H8.bytes_len hn
 refine W.loop (fun k st=>∃ (i:Nat) (c:List D),i≤32∧k=32 - i∧c.length=32∧c.take i=(hn.bytes.take i).map eB ∧
  st=(E [(13,.d (.int .i64 (i:Int))),(12,.ptr 0 12 1 0),(3,.ptr 0 3 1 0),(2,.ptr 0 2 1 0)],
   HB [(2,⟨1,some z32⟩),(3,⟨1,some (eH hn)⟩),(6,b6),(7,b7),(12,⟨1,some c⟩)],[],noGh))
  ⟨_,_,z7 rfl,0,z32,by omega,rfl,z32l,rfl,rfl⟩ ?_
 rintro k st ⟨i,c,hi,rfl,hcl,hct,rfl⟩
 by_cases h2:(i:Int)<32
 case pos =>
  have hib:i<hn.bytes.length:=by omega
  have q1:(i:Int).tdiv 4=((i / 4:Nat):Int):=by rw [ylqQ (by omega)];omega
  have q2:(i:Int).tmod 4=((i % 4:Nat):Int):=by rw [Int.tmod_eq_emod_of_nonneg (by omega)];omega
  have hg:zae false 1 (some (eH hn)) (i / 4 * 1)=some (.d (eW (hn.list.getD (i / 4) 0))):=by
   have h0:=H8.get hn (i:=i / 4) (by omega)
   simp only [zae,zbv,List.head?_drop,ylsQ,h0];rfl
  have hby:=zo4 hn hib
  generalize hn.list.getD (i / 4) 0=x at hg hby
  have hsh:=z82 x (k:=24 - 8 * (i % 4)) (by omega)
  rw [show ((24 - 8 * (i % 4):Nat):Int)=24 - 8 * ((i % 4:Nat):Int) from by omega] at hsh
  have hcv:=zsg (x.toNat / 2 ^ (24 - 8 * (i % 4)))
  have hfit:i * 1+1≤c.length:=by omega
  (refine goX (nn h2 (nn q1 (nn q2 (nn hg (nn hsh (nn hcv hfit)))))) ?_;(repeat' (with_reducible apply Br.mk<;>intro _)))
  obtain ⟨e1,e2⟩:=setB hcl hct hib (by omega)
  rw [hby] at e1 e2
  refine ⟨_,_,?_,z7 rfl,i+1,_,by omega,rfl,?_,?_,rfl⟩
  · omega
  · rw [ylsQ];exact e1
  · rw [ylsQ];exact e2
 obtain rfl:i=32:=by omega
 rw [yk1Q (by omega),yk1Q (by omega)] at hct
 subst hct
 have hbn:(hn.bytes.map eB).length=32:=hcl
 have htk:List.take 32 (hn.bytes.map eB)=hn.bytes.map eB:=yk1Q (by omega)
 have hall:(hn.bytes.map eB).all D.one=true:=by rw [List.all_map,ylbQ];intro x _;rfl
 generalize hn.bytes.map eB=cs at hbn htk hall ⊢
 (refine goX (nn h2 (nn hbn (nn htk (nn hall (nn z32l z32d))))) ?_;(repeat' (with_reducible apply Br.mk<;>intro _)))
 exact Fin.eq (r:=.d (.agg cs)) (goE (nn hbn (nn htk hall))) ⟨rfl,rfl,rfl⟩
end Go.Proofs.YtpplfpnjfjnkdaaGreatDoor
namespace Go.Proofs.YtpplfpnjfjnkdaaGreatDoor
open Go Go.E2 CW CH
set_option maxHeartbeats 4000000
def zbk (s:H8) (blk:Str) (n:Nat):List D:=eH s++blk.map eB++[.int .u64 (n:Int)]
structure zty (m blk:Str):Prop where
 len:blk.length=64
 is:blk.take (m.length % 64)=m.drop (64 * (m.length / 64))
def z1y (m:Str) (x:D):Prop:=∃ blk,zty m blk∧x=.agg (zbk (CH.hb m (m.length / 64)) blk m.length)
theorem zcp {s:H8} {blk:Str} {n:Nat} (h:blk.length=64):(zbk s blk n).length=73:=by
 rw [zbk,yk2Q,yk2Q,yk3Q,h];rfl
theorem zwz {s:H8} {blk:Str} {n:Nat} (h:blk.length=64):zae false 1 (some (zbk s blk n)) 72=some (.d (.int .u64 (n:Int))):=by
 have:(zbk s blk n)[72]?=some (.int .u64 (n:Int)):=by
  rw [zbk,yllQ (by rw [yk2Q,yk3Q,h];exact Nat.le_refl _),yk2Q,yk3Q,h];rfl
 simp only [zae,zbv,List.head?_drop,this];rfl
theorem z83 {s:H8} {blk:Str} {n:Nat}:zae true 8 (some (zbk s blk n)) 0=some (.d (.agg (eH s))):=by
 simp [zae,zbv,zbk,eH]
theorem zgc {s:H8} {blk:Str} {n:Nat}:(zbk s blk n).all D.one=true:=by
 simp only [zbk,ylmQ,yk9Q]
 exact ⟨⟨rfl,by rw [List.all_map,ylbQ];intro x _;rfl⟩,rfl⟩
def lay (blk:Str) (at_:Nat) (x:Str):Str:=blk.take at_++x++blk.drop (at_+x.length)
theorem zqw {blk:Str} {a:Nat} {x:Str} (h:blk.length=64) (hx:a+x.length≤64):(lay blk a x).length=64:=by
 simp only [lay,yk2Q,yk4Q,ylfQ];omega
theorem zw0 {s:H8} {blk:Str} {n a:Nat} {x:Str} (h:blk.length=64) (hx:a+x.length≤64) :
 zau (zbk s blk n) (x.map fun u=>D.int .u8 u.toNat) (8+a)=zbk s (lay blk a x) n:=by
 have e8:(eH s).length=8:=rfl
 have e1:(zbk s blk n).take (8+a)=eH s++(blk.map eB).take a:=by
  rw [zbk,yk5Q,List.take_append,yk1Q (by omega),e8,show 8+a - 8=a from by omega,List.take_append_of_le_length (by rw [yk3Q];omega)]
 have e2:(zbk s blk n).drop (8+a+x.length)=(blk.map eB).drop (a+x.length)++[.int .u64 (n:Int)]:=by
  rw [zbk,yk5Q,List.drop_append,yk7Q (by omega),e8,show 8+a+x.length - 8=a+x.length from by omega,List.nil_append,List.drop_append_of_le_length (by rw [yk3Q];omega)]
 unfold zau
 rw [yk3Q,e1,e2,zbk,lay,yk6Q,yk6Q,List.map_take,List.map_drop]
 simp only [yk5Q]
 rfl
theorem z84 {s:H8} {blk:Str} {n k:Nat} (h:blk.length=64):(zbk s blk n).take 72++[D.int .u64 ((n:Int)+(k:Int))]++(zbk s blk n).drop 73=zbk s blk (n+k):=by
 rw [← Int.natCast_add]
 have e8:(eH s++blk.map eB).length=72:=by rw [yk2Q,yk3Q,h];rfl
 rw [zbk,ylnQ e8,yk7Q (by rw [yk2Q,e8];exact Nat.le_refl _),ylvQ];rfl
theorem z85 {s s':H8} {blk:Str} {n:Nat}:eH s'++(zbk s blk n).drop 8=zbk s' blk n:=rfl
theorem z4a {p blk x:Str} (h:zty p blk) (hx:p.length % 64+x.length<64) :
 zty (p++x) (lay blk (p.length % 64) x)∧CH.hb (p++x) ((p++x).length / 64)=CH.hb p (p.length / 64):=by
 have e:(p++x).length / 64=p.length / 64:=by rw [yk2Q];omega
 have e2:(p++x).length % 64=p.length % 64+x.length:=by rw [yk2Q];omega
 refine ⟨⟨zqw h.len (by omega),?_⟩,by rw [e];exact zxx _ _ _ (by omega)⟩
 rw [e,e2,List.drop_append_of_le_length (by omega),← h.is,lay,ylnQ]
 rw [yk2Q,yk4Q,h.len];omega
theorem z4b {p blk x:Str} (h:zty p blk) (hx:p.length % 64+x.length=64) :
 zty (p++x) (lay blk (p.length % 64) x)∧CH.hb (p++x) ((p++x).length / 64)=comp (CH.hb p (p.length / 64)) (lay blk (p.length % 64) x):=by
 have e:(p++x).length / 64=p.length / 64+1:=by rw [yk2Q];omega
 have e2:(p++x).length % 64=0:=by rw [yk2Q];omega
 have hl:=zqw h.len (Nat.le_of_eq hx)
 refine ⟨⟨hl,?_⟩,?_⟩
 · rw [e2,List.take_zero,yk7Q (by omega)]
 · rw [e,CH.hb,zxx _ _ _ (by omega),List.drop_append_of_le_length (by omega),← h.is]
   have:blk.take (p.length % 64)++x=lay blk (p.length % 64) x:=by rw [lay,hx,yk7Q (by rw [h.len];exact Nat.le_refl _),ylvQ]
   rw [this,yk1Q (by omega)]
@[go_sem] theorem gdD_arr0 (sz n b off:Nat) (G:Gh):gdD (.arrS sz n false false false) [.gp b off] G=some (.d (.gs b off n n),G):=by
  simp [gdD,zpw]
theorem zz4:zw Tryz.prog f_zz109 [] (fun r=>∃ x,r=.d x∧z1y [] x):=by
 refine zh fol zz109_cp ?_
 have zr8:zr 8 (D.int .u32 0)=[.int .u32 0,.int .u32 0,.int .u32 0,.int .u32 0,.int .u32 0,.int .u32 0,.int .u32 0,.int .u32 0]:=rfl
 obtain ⟨z,hz⟩:∃ z,z=zr 64 (D.int .u8 0):=⟨_,rfl⟩
 have hz0:zr 64 (D.int .u8 0)=z:=hz.symm
 have hzl:(z++[D.int .u64 0]).length=65:=by rw [hz];rfl
 have hza:(z++[D.int .u64 0]).all D.one=true:=by rw [hz];rfl
 have hzt:List.take 65 (z++[D.int .u64 0])=z++[D.int .u64 0]:=yk1Q (by omega)
 have hzd:List.drop 65 (z++[D.int .u64 0])=[]:=by rw [hz];rfl
 have hzb:z=(List.replicate 64 (0:UInt8)).map eB:=by rw [hz];rfl
 refine goS (nn zr8 hz0) ?_
 (refine goX (nn zr8 (nn hz0 (nn hza (nn hzl (nn hzt hzd))))) ?_;(repeat' (with_reducible apply Br.mk<;>intro _)))
 have e:D.int .u32 1779033703::D.int .u32 3144134277::D.int .u32 1013904242::D.int .u32 2773480762::D.int .u32 1359893119::D.int .u32 2600822924::D.int .u32 528734635::D.int .u32 1541459225::(z++[D.int .u64 0])=zbk iv (List.replicate 64 0) 0:=by rw [hzb];rfl
 rw [e]
 have hl:=zcp (s:=iv) (blk:=List.replicate 64 0) (n:=0) rfl
 have hall:=zgc (s:=iv) (blk:=List.replicate 64 0) (n:=0)
 generalize hc:zbk iv (List.replicate 64 0) 0=c at hl hall
 have htk:List.take 73 c=c:=yk1Q (by omega)
 exact Fin.eq (r:=.d (.agg c)) (goE (nn hl (nn htk hall))) ⟨rfl,rfl,_,rfl,List.replicate 64 0,⟨rfl,rfl⟩,by rw [← hc];rfl⟩
theorem zw1 (m text:Str) (h1:m.length≤4000000) (h2:text.length≤4000000) {x:D} (hx:z1y m x):zw Tryz.prog f_zz82 [x,.str text] (fun r=>∃ y,r=.d y∧z1y (m++text) y):=by
 refine zw.of_deep (zm fol zz82_cp ?_)
 obtain ⟨blk,hblk,rfl⟩:=hx
 have hl:=zcp (s:=CH.hb m (m.length / 64)) (n:=m.length) hblk.len
 have hall:=zgc (s:=CH.hb m (m.length / 64)) (blk:=blk) (n:=m.length)
 obtain ⟨z,hz⟩:∃ z,z=zr 8 (D.int .u32 0)++zr 64 (D.int .u8 0)++[D.int .u64 0]:=⟨_,rfl⟩
 have hz0:=hz.symm
 have hzl:z.length=73:=by rw [hz];rfl
 have hzd:List.drop 73 z=[]:=by rw [hz];rfl
 generalize hc0:zbk (CH.hb m (m.length / 64)) blk m.length=c0 at *
 refine goS (nn hl (nn hall hz0)) ?_
 refine goR (nn hl (nn hall hz0)) ?_
 refine zx fun g hg=>?_
 refine goS hz0 ?_
 refine goR hz0 ?_
 have hG0:(noGh.set g (some c0)).c g=some c0:=by simp [upd]
 generalize noGh.set g (some c0)=G0 at hG0 ⊢
 refine W.loop (fun k st=>∃ (p rest blk:Str) (G:Gh),k=rest.length∧p++rest=m++text∧zty p blk∧G.c g=some (zbk (CH.hb p (p.length / 64)) blk p.length) ∧
  st=(E [(1,.d (.str rest)),(2,.d (.gp g 0)),(4,.ptr 0 4 1 0)],HB [(4,⟨1,some z⟩)],[],G))
  ⟨_,_,z7 ?_,m,text,blk,G0,rfl,rfl,hblk,by rw [hc0];exact hG0,rfl⟩ ?_
 · rfl
 clear hG0 hl hall hc0 hblk
 rintro k st ⟨p,rest,blk,G,rfl,hpr,hblk,hG,rfl⟩
 obtain ⟨s,hs⟩:∃ s,s=CH.hb p (p.length / 64):=⟨_,rfl⟩
 rw [← hs] at hG
 have hlen:p.length+rest.length=m.length+text.length:=by rw [← yk2Q,hpr,yk2Q]
 by_cases hre:rest=[]
 case pos =>
  subst hre
  rw [ylvQ] at hpr
  have hl:=zcp (s:=s) (n:=p.length) hblk.len
  have hall:=zgc (s:=s) (blk:=blk) (n:=p.length)
  generalize hc:zbk s blk p.length=c at hG hl hall
  have htk:List.take 73 c=c:=yk1Q (by omega)
  (refine goX (nn hG (nn hl (nn hall (nn htk (nn hzl hzd))))) ?_;(repeat' (with_reducible apply Br.mk<;>intro _)))
  refine Fin.eq (r:=.d (.agg c)) (goE (nn hl (nn hall htk))) ⟨rfl,_,.refl _,_,rfl,blk,?_,?_⟩
  · rw [← hpr];exact hblk
  · rw [← hc,← hpr,hs]
 have hrl:0<rest.length:=List.length_pos_iff.2 hre
 obtain ⟨a,ha⟩:∃ a,a=p.length % 64:=⟨_,rfl⟩
 have ha64:a<64:=by omega
 have q1:(p.length:Int).tmod 64=(a:Int):=by rw [Int.tmod_eq_emod_of_nonneg (by omega)];omega
 have hn:=zwz (s:=s) (n:=p.length) hblk.len
 have hne:(rest=[])=False:=eq_false hre
 obtain ⟨x,hx⟩:∃ x,x=rest.take (64 - a):=⟨_,rfl⟩
 have hxl:x.length=min (64 - a) rest.length:=by rw [hx,yk4Q]
 have hxp:0<x.length:=by omega
 have hov:=zw0 (s:=s) (n:=p.length) hblk.len (a:=a) (x:=x) (by omega)
 have hl0:=zcp (s:=s) (n:=p.length) hblk.len
 have ev:gdD GD.copyS [D.gs g (8+a * 1) (64 - a) (64 - a),D.str rest] G=some (.d (.int .i64 ((x.length:Nat):Int)),G.set g (some (zbk s (lay blk a x) p.length))):=by
  have hfit:8+a * 1+(64 - a)≤(zbk s blk p.length).length:=by omega
  simp only [gdD,hG,if_pos hfit]
  rw [← hx,ylsQ,hov,hxl]
 have hpre:rest.drop x.length=rest.drop x.length:=rfl
 (refine goX (nn hG (nn hn (nn q1 hne))) ?_;(repeat' (with_reducible apply Br.mk<;>intro _)))
 refine zrx ev ?_
 clear ev hn
 have hlb:=zqw (blk:=blk) (a:=a) (x:=x) hblk.len (by omega)
 have hn:=zwz (s:=s) (blk:=lay blk a x) (n:=p.length) hlb
 have hl1:=zcp (s:=s) (blk:=lay blk a x) (n:=p.length) hlb
 have hfit:72+(0+1)≤(zbk s (lay blk a x) p.length).length:=by omega
 have hov2:=z84 (s:=s) (blk:=lay blk a x) (n:=p.length) (k:=x.length) hlb
 have hs8:=z83 (s:=s) (blk:=lay blk a x) (n:=p.length+x.length)
 have hl2:=zcp (s:=s) (blk:=lay blk a x) (n:=p.length+x.length) hlb
 have hpr2:(p++x)++rest.drop x.length=m++text:=by
  have:x=rest.take x.length:=by rw [hxl,hx];by_cases h:64 - a≤rest.length;rw [Nat.min_eq_left h];rw [Nat.min_eq_right (by omega),yk1Q (by omega),yk1Q (Nat.le_refl _)]
  rw [yk5Q,← hpr]
  conv=>lhs;rhs;lhs;rw [this]
  rw [List.take_append_drop]
 have hrd:(rest.drop x.length).length<rest.length:=by rw [ylfQ];omega
 generalize hr2:rest.drop x.length=rest2 at *
 have hpx:p.length+x.length=(p++x).length:=by rw [yk2Q]
 by_cases h3:(a:Int)+(x.length:Int)=64
 case neg =>
  obtain ⟨n1,n2⟩:=z4a (x:=x) hblk (by omega)
  rw [← ha] at n1
  rw [← hs] at n2
  generalize hc1:zbk s (lay blk a x) p.length=c1 at *
  refine goS hn ?_
  (refine goX (nn hn (nn hl1 (nn hov2 (nn h3 hr2)))) ?_;(repeat' (with_reducible apply Br.mk<;>intro _)))
  refine ⟨_,_,?_,z7 rfl,p++x,rest2,lay blk a x,_,rfl,hpr2,n1,?_,rfl⟩
  · exact hrd
  · rw [n2,← hpx];simp [upd]
 obtain ⟨n1,n2⟩:=z4b (x:=x) hblk (by omega)
 rw [← ha] at n1 n2
 rw [← hs] at n2
 have hcp:=zqv s (lay blk a x) hlb
 generalize hc1:zbk s (lay blk a x) p.length=c1 at *
 have hlend:∀ G:Gh,G.c g=some (zbk s (lay blk a x) (p.length+x.length))→zvg G (.gs g 8 64 64) (.list ((lay blk a x).map eB)):=fun G hG=>by
  refine .gs g 8 64 64 1 _ _ hG (by omega) (by rw [yk3Q,hlb]) (zhm _) ?_
  have e1:flat ((lay blk a x).map eB)=(lay blk a x).map eB:=zha _
  rw [e1,zbk,yk5Q,yloQ (show (eH s).length=8 from rfl),ylsQ,ylnQ (by rw [yk3Q,hlb])]
 generalize hc2:zbk s (lay blk a x) (p.length+x.length)=c2 at *
 refine goS hn ?_
 (refine goX (nn hn (nn hl1 (nn hov2 (nn h3 (nn hr2 (nn hs8 hl2)))))) ?_;(repeat' (with_reducible apply Br.mk<;>intro _)))
 refine zgw (xs:=[.agg (eH s),.gs g 8 64 64]) hcp goD goD (.cons (.refl _) (.cons (hlend _ (by simp [upd])) .nil)) (by rintro _ rfl;rfl) ?_
 rintro _ rfl
 have e8:(eH (comp s (lay blk a x))).length=8:=rfl
 have hov3:=z85 (s:=s) (s':=comp s (lay blk a x)) (blk:=lay blk a x) (n:=p.length+x.length)
 rw [hc2] at hov3
 have e8a:(eH (comp s (lay blk a x))).all D.one=true:=rfl
 generalize hcs:eH (comp s (lay blk a x))=cs at *
 refine goS (nn e8 (nn hl2 e8a)) ?_
 (refine goX (nn e8 (nn hl2 (nn hov3 e8a))) ?_;(repeat' (with_reducible apply Br.mk<;>intro _)))
 refine ⟨_,_,?_,z7 rfl,p++x,rest2,lay blk a x,_,rfl,hpr2,n1,?_,rfl⟩
 · exact hrd
 · rw [n2,← hpx];simp [upd]
end Go.Proofs.YtpplfpnjfjnkdaaGreatDoor
namespace Go.Proofs.YtpplfpnjfjnkdaaGreatDoor
open Go Go.E2 CW CH
set_option maxHeartbeats 4000000
theorem z86 {s:H8} {blk:Str} {n i:Nat} (hi:i<8):zae false 1 (some (zbk s blk n)) (i * 1)=some (.d (eW (s.list.getD i 0))):=by
 have h0:(zbk s blk n)[i]?=some (eW (s.list.getD i 0)):=by
  rw [zbk,yk5Q,ylkQ (by show i<8;exact hi)];exact H8.get s hi
 simp only [zae,zbv,List.head?_drop,ylsQ,h0];rfl
theorem z4c (m:Str) (h1:m.length≤2000000) {x:D} (hx:z1y m x):zw Tryz.prog f_zz83 [x] (·=.d (.agg ((sha m).map eB))):=by
 refine zh fol zz83_cp ?_
 have hadd:=fun h=>zw1 m (zfs m.length) (by omega) h hx
 have hz:zs m.length<64:=by unfold zs;omega
 have hadd:=hadd (by rw [zkv];omega)
 obtain ⟨blk,hblk,rfl⟩:=hx
 obtain ⟨z32,hz32⟩:∃ z,z=zr 32 (D.int .u8 0):=⟨_,rfl⟩
 have z32l:z32.length=32:=by rw [hz32];rfl
 have z32d:List.drop 32 z32=[]:=by rw [hz32];rfl
 have z32e:zr 32 (D.int .u8 0)=z32:=hz32.symm
 have hl:=zcp (s:=CH.hb m (m.length / 64)) (n:=m.length) hblk.len
 have hall:=zgc (s:=CH.hb m (m.length / 64)) (blk:=blk) (n:=m.length)
 have hn:=zwz (s:=CH.hb m (m.length / 64)) (n:=m.length) hblk.len
 have htk:∀ c:List D,c.length=73→List.take 73 c=c:=fun c h=>yk1Q (by omega)
 have htk1:=htk _ hl
 generalize hc0:zbk (CH.hb m (m.length / 64)) blk m.length=c0 at *
 refine goS (nn hl (nn hall z32e)) ?_
 (refine goX (nn hl (nn hall (nn hn z32e))) ?_;(repeat' (with_reducible apply Br.mk<;>intro _)))
 have e8:((8 * m.length:Nat):Int)=8 * (m.length:Int):=by omega
 refine W.loop (fun q st=>∃ (k:Nat) (out:Str),k≤zs m.length∧q=zs m.length - k∧out=128::List.replicate k 0 ∧
  st=(E [(4,.own 1 (out.map eB)),(3,.d (.int .u64 ((8 * m.length:Nat):Int))),(2,.ptr 0 2 1 0),(1,.ptr 0 1 1 0)],HB [(1,⟨1,some c0⟩),(2,⟨1,some z32⟩)],[],noGh))
  ⟨_,_,zgm (by (simp -dsimp (disch:=first|omega|(simp only [go_sem];omega)) only [go_sem,seval,Nat.reduceEqDiff,Nat.reduceLeDiff,e8,List.map_cons,List.map_nil,zo1]<;>((repeat' apply And.intro)<;>first|exact VLe.refl _|(apply zaa;omega)|(apply zaa;simp;done)|exact VLe.own _ _|exact VLe.nilown _|exact VLe.norm _))) rfl,0,[128],by omega,rfl,rfl,rfl⟩ ?_
 rintro q st ⟨k,out,hk,rfl,hout,rfl⟩
 have hol:out.length=1+k:=by rw [hout,List.length_cons,ylgQ];omega
 have hr:((m.length:Int)+(out.length:Int)).tmod 64=(((m.length+out.length) % 64:Nat):Int):=by rw [Int.tmod_eq_emod_of_nonneg (by omega)];omega
 have hm:=z2
 by_cases h3:k<zs m.length
 case pos =>
  have h4:((((m.length+out.length) % 64:Nat):Int)=56)=False:=eq_false (by have:=zwt m.length k h3;omega)
  (refine goX (nn hn (nn hr h4)) ?_;(repeat' (with_reducible apply Br.mk<;>intro _)))
  refine ⟨_,_,?_,zgm (by (simp -dsimp (disch:=first|omega|(simp only [go_sem];omega)) only [go_sem,seval,Nat.reduceEqDiff,Nat.reduceLeDiff,yk6Q,List.map_cons,List.map_nil]<;>((repeat' apply And.intro)<;>first|exact VLe.refl _|(apply zaa;omega)|(apply zaa;simp;done)|exact VLe.own _ _|exact VLe.nilown _|exact VLe.norm _))) rfl,k+1,out++[0],by omega,rfl,by rw [hout,List.cons_append,← List.replicate_succ'],rfl⟩
  omega
 obtain rfl:k=zs m.length:=by omega
 have h4:((((m.length+out.length) % 64:Nat):Int)=56)=True:=eq_true (by have:=zwu m.length;omega)
 (refine goX (nn hn (nn hr h4)) ?_;(repeat' (with_reducible apply Br.mk<;>intro _)))
 refine W.loop (fun q st=>∃ (i:Nat) (o2:Str),i≤8∧q=8 - i∧o2=out++(be8 (8 * m.length)).take i ∧
  st=(E [(23,.d (.int .i64 (i:Int))),(4,.own 1 (o2.map eB)),(3,.d (.int .u64 ((8 * m.length:Nat):Int))),(2,.ptr 0 2 1 0),(1,.ptr 0 1 1 0)],HB [(1,⟨1,some c0⟩),(2,⟨1,some z32⟩)],[],noGh))
  ⟨_,_,z7 rfl,0,out,by omega,rfl,by simp,rfl⟩ ?_
 rintro q st ⟨i,o2,hi,rfl,ho2,rfl⟩
 have hol2:o2.length=out.length+i:=by rw [ho2,yk2Q,yk4Q];show _+min i 8=_;omega
 by_cases h5:(i:Int)<8
 case pos =>
  have hib:i<(be8 (8 * m.length)).length:=by show i<8;omega
  have hsh:=zww (8 * m.length) (k:=56 - 8 * i) (by omega)
  rw [show ((56 - 8 * i:Nat):Int)=56 - 8 * (i:Int) from by omega] at hsh
  have hcv:=zwx (8 * m.length / 2 ^ (56 - 8 * i))
  (refine goX (nn h5 (nn hsh hcv)) ?_;(repeat' (with_reducible apply Br.mk<;>intro _)))
  refine ⟨_,_,?_,zgm (by (simp -dsimp (disch:=first|omega|(simp only [go_sem];omega)) only [go_sem,seval,Nat.reduceEqDiff,Nat.reduceLeDiff,yk6Q,List.map_cons,List.map_nil,zo1]<;>((repeat' apply And.intro)<;>first|exact VLe.refl _|(apply zaa;omega)|(apply zaa;simp;done)|exact VLe.own _ _|exact VLe.nilown _|exact VLe.norm _))) rfl,i+1,o2++[UInt8.ofNat (8 * m.length / 2 ^ (56 - 8 * i))],by omega,rfl,?_,rfl⟩
  · omega
  · rw [yldQ hib,zwv _ hib,← yk5Q,ho2]
 obtain rfl:i=8:=by omega
 have hpad:o2=zfs m.length:=by rw [ho2,hout,zfs];rfl
 subst hpad
 (refine goX (nn h5 (nn hl (nn hall htk1))) ?_;(repeat' (with_reducible apply Br.mk<;>intro _)))
 refine wC_p hadd goD goD ?_
 rintro _ ⟨y,rfl,blk2,hblk2,rfl⟩
 have hsha:sha m=(CH.hb (m++zfs m.length) ((m++zfs m.length).length / 64)).bytes:=by rw [sha,yk2Q]
 rw [hsha]
 generalize CH.hb (m++zfs m.length) ((m++zfs m.length).length / 64)=s
 generalize (m++zfs m.length).length=n2
 have hl2:=zcp (s:=s) (n:=n2) hblk2.len
 have hall2:=zgc (s:=s) (blk:=blk2) (n:=n2)
 have hld:List.drop 73 c0=[]:=yk7Q (by omega)
 have hw:=fun i (hi:i<8)=>z86 (s:=s) (blk:=blk2) (n:=n2) hi
 generalize zbk s blk2 n2=c2 at *
 refine goS (nn hl2 (nn hall2 (nn hld (nn z32e hl)))) ?_
 (refine goX (nn hl2 (nn hall2 (nn hld (nn z32e hl)))) ?_;(repeat' (with_reducible apply Br.mk<;>intro _)))
 have hbl:=H8.bytes_len s
 refine W.loop (fun q st=>∃ (i:Nat) (c:List D),i≤32∧q=32 - i∧c.length=32∧c.take i=(s.bytes.take i).map eB ∧
  st=(E [(40,.d (.int .i64 (i:Int))),(6,.ptr 0 6 1 0),(2,.ptr 0 2 1 0),(1,.ptr 0 1 1 0)],
   HB [(1,⟨1,some c2⟩),(2,⟨1,some z32⟩),(6,⟨1,some c⟩)],[],noGh))
  ⟨_,_,z7 rfl,0,z32,by omega,rfl,z32l,rfl,rfl⟩ ?_
 rintro q st ⟨i,c,hi,rfl,hcl,hct,rfl⟩
 by_cases h2:(i:Int)<32
 case pos =>
  have hib:i<s.bytes.length:=by omega
  have q1:(i:Int).tdiv 4=((i / 4:Nat):Int):=by rw [ylqQ (by omega)];omega
  have q2:(i:Int).tmod 4=((i % 4:Nat):Int):=by rw [Int.tmod_eq_emod_of_nonneg (by omega)];omega
  have hg:=hw (i / 4) (by omega)
  have hby:=zo4 s hib
  generalize s.list.getD (i / 4) 0=x at hg hby
  have hsh:=z82 x (k:=24 - 8 * (i % 4)) (by omega)
  rw [show ((24 - 8 * (i % 4):Nat):Int)=24 - 8 * ((i % 4:Nat):Int) from by omega] at hsh
  have hcv:=zsg (x.toNat / 2 ^ (24 - 8 * (i % 4)))
  have hfit:i * 1+1≤c.length:=by omega
  (refine goX (nn h2 (nn q1 (nn q2 (nn hg (nn hsh (nn hcv hfit)))))) ?_;(repeat' (with_reducible apply Br.mk<;>intro _)))
  obtain ⟨e1,e2⟩:=setB hcl hct hib (by omega)
  rw [hby] at e1 e2
  refine ⟨_,_,?_,z7 rfl,i+1,_,by omega,rfl,?_,?_,rfl⟩
  · omega
  · rw [ylsQ];exact e1
  · rw [ylsQ];exact e2
 obtain rfl:i=32:=by omega
 rw [yk1Q (by omega),yk1Q (by omega)] at hct
 subst hct
 have hbn:(s.bytes.map eB).length=32:=hcl
 have htk2:List.take 32 (s.bytes.map eB)=s.bytes.map eB:=yk1Q (by omega)
 have hall3:(s.bytes.map eB).all D.one=true:=by rw [List.all_map,ylbQ];intro x _;rfl
 generalize s.bytes.map eB=cs at hbn htk2 hall3 ⊢
 (refine goX (nn h2 (nn hbn (nn htk2 (nn hall3 (nn z32l z32d))))) ?_;(repeat' (with_reducible apply Br.mk<;>intro _)))
 exact Fin.eq (r:=.d (.agg cs)) (goE (nn hbn (nn htk2 hall3))) ⟨rfl,rfl,rfl⟩
@[go_sem] theorem strs_all (l:List Str):(l.map D.str).all (ze 1)=true:=by rw [List.all_map,ylbQ];intro x _;rfl
def eDg (d:List UInt8):D:=.agg (d.map eB)
theorem zsh {tag:Nat} {parts:List Str} {k:Nat} (h:k<parts.length):inp tag (parts.take (k+1))=inp tag (parts.take k)++zd5 parts[k]:=by
 simp only [inp,yldQ h,yk6Q,List.flatten_append,List.map_cons,List.map_nil,List.flatten_cons,List.flatten_nil,ylvQ,List.cons_append]
theorem zin {s:Str} (h:s.length≤1000000):(zd5 s).length≤s.length+10:=by
 have:=zdn (zkp h)
 rw [zd5,yk2Q];omega
theorem zqx {tag:Nat} {parts:List Str} {c:Nat} (hc:c≤1000000) (h:∀ s∈parts,s.length≤c):(inp tag parts).length≤1+parts.length * (c+10):=by
 rw [inp,List.length_cons]
 suffices ((parts.map zd5).flatten).length≤parts.length * (c+10) by omega
 induction parts with
 | nil=>simp
 | cons s l ih =>
  have h1:=h s (by simp)
  have h2:=zin (s:=s) (by omega)
  have h3:=ih fun x hx=>h x (by simp [hx])
  simp only [List.map_cons,List.flatten_cons,yk2Q,List.length_cons,ylrQ]
  omega
theorem z1y.cells {m:Str} {x:D} (h:z1y m x):∃ c,x=.agg c∧c.length=73∧c.all D.one=true∧List.take 73 c=c∧List.drop 73 c=[]:=by
 obtain ⟨blk,hb,rfl⟩:=h
 have hl:=zcp (s:=CH.hb m (m.length / 64)) (n:=m.length) hb.len
 exact ⟨_,rfl,hl,zgc,yk1Q (by omega),yk7Q (by omega)⟩
theorem z87 (tag:Int) (h0:0≤tag∧tag<256) (parts:List Str) (h1:parts.length≤64) (h2:∀ s∈parts,s.length≤2000) :
 zw Tryz.prog f_zz114 [.int .i64 tag,.list (parts.map .str)] (·=.d (eDg (dig tag.toNat parts))):=by
 refine zw.of_deep (zm fol zz114_cp ?_)
 obtain ⟨z16,hz16⟩:∃ z,z=zr 16 (D.int .u8 0):=⟨_,rfl⟩
 have z16e:zr 16 (D.int .u8 0)=z16:=hz16.symm
 refine goS z16e ?_
 (refine goX z16e ?_;(repeat' (with_reducible apply Br.mk<;>intro _)))
 have hb1:=zz4
 refine wC_p hb1 goD goD ?_
 rintro _ ⟨x,rfl,hx⟩
 have ha:=zw1 [] [UInt8.ofNat tag.toNat] (by decide) (by simp) hx
 refine goS trivial ?_
 (refine goX trivial ?_;(repeat' (with_reducible apply Br.mk<;>intro _)))
 refine wC_p ha goD goD ?_
 rintro _ ⟨y,rfl,hy⟩
 obtain ⟨z73,hz73⟩:∃ z,z=zr 8 (D.int .u32 0)++zr 64 (D.int .u8 0)++[D.int .u64 0]:=⟨_,rfl⟩
 have z73e:=hz73.symm
 have z73l:z73.length=73:=by rw [hz73];rfl
 have z73d:List.drop 73 z73=[]:=by rw [hz73];rfl
 have hy:z1y (inp tag.toNat (parts.take 0)) y:=hy
 obtain ⟨c,rfl,c1,c2,c3,c4⟩:=hy.cells
 refine goS (nn z73e (nn z73l (nn z73d (nn c1 c2)))) ?_
 (refine goX (nn z73e (nn z73l (nn z73d (nn c1 c2)))) ?_;(repeat' (with_reducible apply Br.mk<;>intro _)))
 clear c1 c2 c3 c4 hx ha hb1
 refine W.loop (fun q st=>∃ (k:Nat) (c:List D),k≤parts.length∧q=parts.length - k∧z1y (inp tag.toNat (parts.take k)) (.agg c) ∧
  st=(E [(17,.d (.int .i64 (k:Int))),(16,.d (.int .i64 (parts.length:Int))),(15,.d (.list (parts.map D.str))),(5,.ptr 0 5 1 0),(4,.ptr 0 4 1 0)],HB [(4,⟨1,some z16⟩),(5,⟨1,some c⟩)],[],noGh))
  ⟨_,_,z7 rfl,0,c,by omega,rfl,hy,rfl⟩ ?_
 clear hy
 rintro q st ⟨k,c,hk,rfl,hy,rfl⟩
 obtain ⟨c',e,c1,c2,c3,c4⟩:=hy.cells
 cases e
 have hil:=zqx (tag:=tag.toNat) (parts:=parts.take k) (c:=2000) (by omega) fun s hs=>h2 s (List.mem_of_mem_take hs)
 rw [yk4Q] at hil
 have hil2:(inp tag.toNat (parts.take k)).length≤200000:=by
  have:min k parts.length * (2000+10)≤64 * 2010:=Nat.mul_le_mul_right _ (by omega)
  omega
 by_cases h3:(k:Int)<(parts.length:Int)
 case pos =>
  have hk':k<parts.length:=by omega
  have hs:=h2 parts[k] (List.getElem_mem hk')
  have hBy:=zz0 parts[k] (by omega)
  have hbl:=zin (s:=parts[k]) (by omega)
  have ha:=zw1 (inp tag.toNat (parts.take k)) (zd5 parts[k]) (by omega) (by omega) hy
  rw [← zsh hk'] at ha
  (refine zb7 (nn h3 (nn c1 (nn c2 c3))) (hBy) ?_;(repeat' (with_reducible apply Br.mk<;>intro _)))
  refine wC_p ha goD goD ?_
  rintro _ ⟨y2,rfl,hy2⟩
  obtain ⟨d,rfl,d1,d2,d3,d4⟩:=hy2.cells
  refine goS (nn c1 (nn d1 (nn d2 c4))) ?_
  (refine goX (nn c1 (nn d1 (nn d2 c4))) ?_;(repeat' (with_reducible apply Br.mk<;>intro _)))
  refine ⟨_,_,?_,z7 rfl,k+1,d,hk',rfl,hy2,rfl⟩
  omega
 obtain rfl:k=parts.length:=by omega
 rw [List.take_length] at hy hil2
 have hsum:=z4c (inp tag.toNat parts) (by omega) hy
 have hsl:=zrc (inp tag.toNat parts)
 have hdg:dig tag.toNat parts=(sha (inp tag.toNat parts)).take 16:=rfl
 have hdl:=dig_len tag.toNat parts
 rw [eDg]
 rw [hdg] at hdl ⊢
 generalize sha (inp tag.toNat parts)=h at hsum hsl hdl ⊢
 have e1:(h.map eB).length=32:=by rw [yk3Q,hsl]
 have e2:(h.map eB).all D.one=true:=by rw [List.all_map,ylbQ];intro x _;rfl
 have e3:List.take 32 (h.map eB)=h.map eB:=yk1Q (by omega)
 have e4:List.take 16 (h.map eB)=(h.take 16).map eB:=by rw [List.map_take]
 have e5:((h.take 16).map eB).length=16:=by rw [yk3Q,hdl]
 have e6:((h.take 16).map eB).all D.one=true:=by rw [List.all_map,ylbQ];intro x _;rfl
 have e7:List.take 16 ((h.take 16).map eB)=(h.take 16).map eB:=yk1Q (by omega)
 have z16l:z16.length=16:=by rw [hz16];rfl
 have z16d:List.drop 16 z16=[]:=by rw [hz16];rfl
 obtain ⟨z32,hz32⟩:∃ z,z=zr 32 (D.int .u8 0):=⟨_,rfl⟩
 have z32l:z32.length=32:=by rw [hz32];rfl
 have z32d:List.drop 32 z32=[]:=by rw [hz32];rfl
 have z32e:zr 32 (D.int .u8 0)=z32:=hz32.symm
 generalize (h.take 16).map eB=dg at *
 generalize h.map eB=hh at *
 (refine zb7 (nn h3 (nn c1 (nn c2 c3))) (hsum) ?_;(repeat' (with_reducible apply Br.mk<;>intro _)))
 refine zx fun g hg=>?_
 have eG:∀ v,(noGh.set g v).c g=v:=fun v=>by simp [upd]
 refine goS (nn z32e (nn z32l (nn z32d (nn e1 (nn e2 (nn e3 eG)))))) ?_
 (refine goX (nn z32e (nn z32l (nn z32d (nn e1 (nn e2 (nn e3 (nn eG (nn e4 (nn e5 (nn e6 (nn e7 (nn z16l z16d)))))))))))) ?_;(repeat' (with_reducible apply Br.mk<;>intro _)))
 exact Fin.eq (r:=.d (.agg dg)) (goE (nn e5 (nn e7 e6))) ⟨rfl,_,.refl _,rfl⟩
end Go.Proofs.YtpplfpnjfjnkdaaGreatDoor
namespace Go.Proofs.YtpplfpnjfjnkdaaGreatDoor
open Go Go.E2 CW CH
set_option maxHeartbeats 4000000
theorem z1z {d:List UInt8} (h:d.length=16):(d.map eB).length=16∧List.take 16 (d.map eB)=d.map eB∧(d.map eB).all D.one=true∧List.drop 16 (d.map eB)=[]:=by
 have h1:(d.map eB).length=16:=by rw [yk3Q,h]
 exact ⟨h1,yk1Q (by omega),by rw [List.all_map,ylbQ];intro x _;rfl,yk7Q (by omega)⟩
theorem zm8 {l:List UInt8} {i:Nat} (h:i<l.length):zae false 1 (some (l.map eB)) (i * 1)=some (.d (eB l[i])):=by
 have:(l.map eB)[i]?=some (eB l[i]):=by rw [ylhQ,yliQ h];rfl
 simp only [zae,zbv,List.head?_drop,ylsQ,this];rfl
theorem zz5 (b:Str) (hb:b.length≤1000000):zw Tryz.prog f_zz57 [.list (b.map eB)] (·=.d (eDg ((sha b).take 16))):=by
 refine zh fol zz57_cp ?_
 have hs:=z39 b hb
 have hl:=zrc b
 generalize sha b=h at hs hl ⊢
 have e1:(h.map eB).length=32:=by rw [yk3Q,hl]
 have e2:(h.map eB).all D.one=true:=by rw [List.all_map,ylbQ];intro x _;rfl
 have e3:List.take 32 (h.map eB)=h.map eB:=yk1Q (by omega)
 obtain ⟨z32,hz32⟩:∃ z,z=zr 32 (D.int .u8 0):=⟨_,rfl⟩
 have z32l:z32.length=32:=by rw [hz32];rfl
 have z32d:List.drop 32 z32=[]:=by rw [hz32];rfl
 have z32e:zr 32 (D.int .u8 0)=z32:=hz32.symm
 obtain ⟨z16,hz16⟩:∃ z,z=zr 16 (D.int .u8 0):=⟨_,rfl⟩
 have z16l:z16.length=16:=by rw [hz16];rfl
 have z16d:List.drop 16 z16=[]:=by rw [hz16];rfl
 have z16t:List.take 16 z16=z16:=by rw [hz16];rfl
 have z16a:z16.all D.one=true:=by rw [hz16];rfl
 have z16e:zr 16 (D.int .u8 0)=z16:=hz16.symm
 obtain ⟨hh,hhe⟩:∃ hh,hh=h.map eB:=⟨_,rfl⟩
 rw [← hhe] at e1 e2 e3 hs
 refine goS (nn z16e (nn z16l (nn z16d (nn z32e (nn z32l z32d))))) ?_
 (refine zb7 (nn z16e (nn z16l (nn z16d (nn z16t (nn z16a (nn z32e (nn z32l (nn z32d (nn e1 (nn e2 e3)))))))))) (hs) ?_;(repeat' (with_reducible apply Br.mk<;>intro _)))
 refine W.loop (fun q st=>∃ (i:Nat) (c:List D),i≤16∧q=16 - i∧c.length=16∧c.take i=(h.take i).map eB ∧
  st=(E [(5,.d (.int .i64 (i:Int))),(4,.ptr 0 4 1 0),(3,.ptr 0 3 1 0),(2,.ptr 0 2 1 0)],
   HB [(2,⟨1,some z16⟩),(3,⟨1,some hh⟩),(4,⟨1,some c⟩)],[],noGh))
  ⟨_,_,z7 rfl,0,z16,by omega,rfl,z16l,rfl,rfl⟩ ?_
 rintro q st ⟨i,c,hi,rfl,hcl,hct,rfl⟩
 by_cases h2:(i:Int)<16
 case pos =>
  have hib:i<h.length:=by omega
  have hg:=zm8 hib
  rw [← hhe,zo1] at hg
  have hfit:i * 1+1≤c.length:=by omega
  obtain ⟨a1,a2⟩:=setB hcl hct hib (by omega)
  (refine goX (nn h2 (nn hg hfit)) ?_;(repeat' (with_reducible apply Br.mk<;>intro _)))
  refine ⟨_,_,?_,z7 rfl,i+1,_,by omega,rfl,?_,?_,rfl⟩
  · omega
  · rw [ylsQ];exact a1
  · rw [ylsQ];exact a2
 obtain rfl:i=16:=by omega
 rw [yk1Q (by omega)] at hct
 have hdl:(h.take 16).length=16:=by rw [yk4Q];omega
 obtain ⟨d1,d2,d3,d4⟩:=z1z hdl
 rw [← hct] at d1 d2 d3 d4
 (refine goX (nn h2 (nn d1 (nn d2 (nn d3 (nn z16l z16d))))) ?_;(repeat' (with_reducible apply Br.mk<;>intro _)))
 exact Fin.eq (r:=.d (.agg c)) (goE (nn d1 (nn d2 d3))) ⟨rfl,rfl,by rw [hct];rfl⟩
theorem zz6 (tag:Int) (h0:0≤tag∧tag<256) (parts:List Str) (h1:parts.length≤64) (h2:∀ s∈parts,s.length≤2000) :
 zw Tryz.prog f_zz56 [.int .i64 tag,.list (parts.map .str)] (·=.d (.list ((inp tag.toNat parts).map eB))):=by
 refine zh fol zz56_cp ?_
 have et:[D.int .u8 tag]=(inp tag.toNat (parts.take 0)).map eB:=by
  have:((tag.toNat:Nat):Int)=tag:=by omega
  show _=[D.int .u8 ((UInt8.ofNat tag.toNat).toNat:Int)]
  rw [zjp (by omega),this]
 have hm:=z2
 refine goS trivial ?_
 (refine goX trivial ?_;(repeat' (with_reducible apply Br.mk<;>intro _)))
 refine W.loop (fun q st=>∃ (k:Nat) (out:Str),k≤parts.length∧q=parts.length - k∧out=inp tag.toNat (parts.take k) ∧
  st=(E [(6,.d (.int .i64 (k:Int))),(5,.own 1 (out.map eB)),(1,.d (.list (parts.map D.str)))],HB [],[],noGh))
  ⟨_,_,z6x et,0,_,by omega,rfl,rfl,rfl⟩ ?_
 rintro q st ⟨k,out,hk,rfl,hout,rfl⟩
 by_cases h3:(k:Int)<(parts.length:Int)
 case pos =>
  have hk':k<parts.length:=by omega
  have hs:=h2 parts[k] (List.getElem_mem hk')
  have hBy:=zwr parts[k] (by omega)
  have hbl:=zin (s:=parts[k]) (by omega)
  have hil:=zqx (tag:=tag.toNat) (parts:=parts.take k) (c:=2000) (by omega) fun s hs=>h2 s (List.mem_of_mem_take hs)
  rw [yk4Q,← hout] at hil
  have hil2:out.length≤200000:=by
   have:min k parts.length * (2000+10)≤64 * 2010:=Nat.mul_le_mul_right _ (by omega)
   omega
  (refine zb7 h3 (hBy) ?_;(repeat' (with_reducible apply Br.mk<;>intro _)))
  refine ⟨_,_,?_,zkc (by (simp -dsimp (disch:=first|omega|(simp only [go_sem];omega)) only [go_sem,seval,Nat.reduceEqDiff,Nat.reduceLeDiff,yk6Q]<;>((repeat' apply And.intro)<;>first|exact VLe.refl _|(apply zaa;omega)|(apply zaa;simp;done)|exact VLe.own _ _|exact VLe.nilown _|exact VLe.norm _))),k+1,out++zd5 parts[k],hk',rfl,by rw [hout,zsh hk'],rfl⟩
  omega
 obtain rfl:k=parts.length:=by omega
 rw [List.take_length] at hout
 (refine goX h3 ?_;(repeat' (with_reducible apply Br.mk<;>intro _)))
 exact Fin.p rfl (by rw [hout])
theorem z10 (tag:Int) (h0:0≤tag∧tag<256) (parts:List Str) (h1:parts.length≤64) (h2:∀ s∈parts,s.length≤2000) :
 zw Tryz.prog f_zz84 [.int .i64 tag,.list (parts.map .str)] (·=.d (eDg (dig tag.toNat parts))):=by
 refine zh fol zz84_cp ?_
 have hi:=zz6 tag h0 parts h1 h2
 have hil:=zqx (tag:=tag.toNat) (parts:=parts) (c:=2000) (by omega) h2
 have hil2:(inp tag.toNat parts).length≤1000000:=by
  have:parts.length * (2000+10)≤64 * 2010:=Nat.mul_le_mul_right _ h1
  omega
 have hs:=zz5 _ hil2
 have hdl:=dig_len tag.toNat parts
 rw [← dig] at hs
 obtain ⟨d1,d2,d3,d4⟩:=z1z hdl
 rw [eDg] at hs ⊢
 generalize (dig tag.toNat parts).map eB=c at *
 obtain ⟨z16,hz16⟩:∃ z,z=zr 16 (D.int .u8 0):=⟨_,rfl⟩
 have z16l:z16.length=16:=by rw [hz16];rfl
 have z16d:List.drop 16 z16=[]:=by rw [hz16];rfl
 have z16e:zr 16 (D.int .u8 0)=z16:=hz16.symm
 refine goS (nn z16e (nn z16l z16d)) ?_
 (refine zgi (nn z16e (nn z16l (nn z16d (nn d1 d3)))) (hi) (hs) ?_;(repeat' (with_reducible apply Br.mk<;>intro _)))
 exact Fin.eq (r:=.d (.agg c)) (goE (nn d1 (nn d2 d3))) ⟨rfl,rfl,rfl⟩
theorem zw2 (d:List UInt8) (hd:d.length=16):zw Tryz.prog f_zz65 [eDg d] (·=.d (.str d)):=by
 refine zh fol zz65_cp ?_
 obtain ⟨d1,d2,d3,d4⟩:=z1z hd
 have hm:=z2
 obtain ⟨c,hc⟩:∃ c,c=d.map eB:=⟨_,rfl⟩
 rw [eDg]
 rw [← hc] at d1 d2 d3 d4 ⊢
 refine goS (nn d1 d3) ?_
 (refine goX (nn d1 d3) ?_;(repeat' (with_reducible apply Br.mk<;>intro _)))
 refine W.loop (fun q st=>∃ (i:Nat) (out:Str),i≤16∧q=16 - i∧out=d.take i ∧
  st=(E [(4,.d (.int .i64 (i:Int))),(3,.own 1 (out.map eB)),(1,.ptr 0 1 1 0)],HB [(1,⟨1,some c⟩)],[],noGh))
  ⟨_,_,z7 rfl,0,[],by omega,rfl,rfl,rfl⟩ ?_
 rintro q st ⟨i,out,hi,rfl,hout,rfl⟩
 have hol:out.length=i:=by rw [hout,yk4Q];omega
 by_cases h2:(i:Int)<16
 case pos =>
  have hib:i<d.length:=by omega
  have hg:=zm8 hib
  rw [← hc,zo1] at hg
  (refine goX (nn h2 hg) ?_;(repeat' (with_reducible apply Br.mk<;>intro _)))
  refine ⟨_,_,?_,zgm (by (simp -dsimp (disch:=first|omega|(simp only [go_sem];omega)) only [go_sem,seval,Nat.reduceEqDiff,Nat.reduceLeDiff,yk6Q,List.map_cons,List.map_nil,zo1]<;>((repeat' apply And.intro)<;>first|exact VLe.refl _|(apply zaa;omega)|(apply zaa;simp;done)|exact VLe.own _ _|exact VLe.nilown _|exact VLe.norm _))) rfl,i+1,out++[d[i]],by omega,rfl,by rw [hout,yldQ hib],rfl⟩
  omega
 obtain rfl:i=16:=by omega
 rw [yk1Q (by omega)] at hout
 (refine goX h2 ?_;(repeat' (with_reducible apply Br.mk<;>intro _)))
 exact Fin.p rfl (by rw [hout])
