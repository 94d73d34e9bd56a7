/-
 SHA-256: a block is compressed,by the program.
 Conditions: of each contract as it says.
-/
import Derived.Test.YtclmdhceceacoaaGreatDoorH1
import Derived.KernelRfl
namespace Go.Proofs.YtclmdhceceacoaaGreatDoor
open Go Go.E2 CW CH
set_option linter.unusedSimpArgs false
set_option maxHeartbeats 4000000
theorem k256_W:k256.map (D.int .u32)=kK.map eW:=by kernel_rfl
@[go_sem ↓] theorem ev_g1 (ρ:Env):ev ρ (.g 1)=.cptr (kK.map eW):=by rw [← k256_W]; rfl
@[go_sem ↓] theorem ev_g2 (ρ:Env):ev ρ (.g 2)=.cptr (kK.map eW):=by rw [← k256_W]; rfl
theorem mix_ok (x:W32) (i j k:Nat) (hi:1≤i∧i≤31) (hj:1≤j∧j≤31) (hk:1≤k∧k≤31):CallP Tryz.prog f_zz59 [eW x,.int .i64 (i:Int),.int .i64 (j:Int),.int .i64 (k:Int)] (·=.d (eW (rr x i ^^^ rr x j ^^^ rr x k))):=by
 refine callP_of_W fol zz59_cp ?_
 have r1:=Rot_ok x i hi.1 hi.2
 have r2:=Rot_ok x j hj.1 hj.2
 have r3:=Rot_ok x k hk.1 hk.2
 rw [← Int.zero_sub] at r1 r2 r3
 refine goS trivial ?_
 (refine goX3 trivial (r1) (r2) (r3) ?_; (repeat' (with_reducible apply Br.mk<;>intro _)))
 exact Fin.p rfl rfl
theorem dropW {l:List W32} {t:Nat} (h:t < l.length):(List.drop (t * 1) (l.map eW)).head?=some (eW (l.getD t 0)):=by
 rw [Nat.mul_one,List.head?_drop,List.getElem?_map,List.getD_eq_getElem?_getD,List.getElem?_eq_getElem h]; rfl
structure RndOk (w:List W32) (v:Nat→H8):Prop where
 s:∀ t,v (t + 1)=rnd (v t) (kK.getD t 0) (w.getD t 0)
theorem rndOk (s:H8) (w:List W32):RndOk w (rnds s w):=⟨fun _=>rfl⟩
def H8.mid (s v:H8) (i:Nat):H8:=⟨if 0 < i then s.a + v.a else s.a,if 1 < i then s.b + v.b else s.b,if 2 < i then s.c + v.c else s.c,if 3 < i then s.d + v.d else s.d,
 if 0 < i then s.e + v.e else s.e,if 1 < i then s.f + v.f else s.f,if 2 < i then s.g + v.g else s.g,if 3 < i then s.h + v.h else s.h⟩
def eH (s:H8):List D:=[eW s.a,eW s.b,eW s.c,eW s.d,eW s.e,eW s.f,eW s.g,eW s.h]
theorem compress_ok (s:H8) (b:Str) (hb:b.length=64):CallP Tryz.prog f_zz34 [.agg (eH s),.list (b.map eB)] (·=.d (.agg (eH (comp s b)))):=by
 refine CallP.of_deep (callT_of_W fol zz34_cp ?_)
 have hsc:=schedule_ok b hb
 have hw:(sch b 64).length=64:=sch_len b 64
 unfold comp
 generalize sch b 64=w at hsc hw ⊢
 have hR:=rndOk s w
 have hR0:rnds s w 0=s:=rfl
 generalize rnds s w=v at hR hR0 ⊢
 obtain ⟨hn,htk,hall⟩:=fin64 hw
 obtain ⟨kn,ktk,kall⟩:=fin64 kK_len
 have kl:=kK_len
 simp only [eH]
 refine goS trivial ?_
 refine goR trivial ?_
 refine wNew_mk fun g hg=>?_
 refine goS trivial ?_
 have z64:(zr 64 (D.int IntKind.u32 0)).length=64:=rfl
 have z64d:List.drop 64 (zr 64 (D.int IntKind.u32 0))=[]:=rfl
 (refine goX1 (nn hn (nn htk (nn hall (nn z64 (nn z64d (nn kl ktk)))))) (hsc) ?_; (repeat' (with_reducible apply Br.mk<;>intro _)))
 generalize hG0:noGh.set g _=G0
 have hGg:G0.c g=some [eW s.a,eW s.b,eW s.c,eW s.d,eW s.e,eW s.f,eW s.g,eW s.h]:=by rw [← hG0]; simp [upd]
 refine W.loop (fun m st=>∃ (t:Nat) (b5 b6 b7 b8:Blk),t≤64∧m=64 - t ∧
  st=(E [(22,.d (.int .i64 (t:Int))),(21,.d (.agg (kK.map eW))),(7,.ptr 0 7 1 0),(6,.ptr 0 6 1 0),(5,.ptr 0 5 1 0),(4,.ptr 0 4 1 0),(2,.d (.gp g 0))],
   HB [(4,⟨1,some (zr 8 (D.int .u32 0))⟩),(5,⟨1,some (w.map eW)⟩),(6,⟨1,some [eW (v t).a,eW (v t).b,eW (v t).c,eW (v t).d]⟩),(7,⟨1,some [eW (v t).e,eW (v t).f,eW (v t).g,eW (v t).h]⟩)],[],G0))
  ⟨_,_,stleB (by rw [hR0]),0,⟨0,none⟩,⟨0,none⟩,⟨0,none⟩,⟨0,none⟩,by omega,rfl,rfl⟩ ?_
 rintro m st ⟨t,-,-,-,-,ht,rfl,rfl⟩
 by_cases h1:(t:Int) < 64
 case pos =>
  have m1:=fun x=>mix_ok x 6 11 25 (by omega) (by omega) (by omega)
  have m2:=fun x=>mix_ok x 2 13 22 (by omega) (by omega) (by omega)
  have hs:=hR.s t
  obtain ⟨⟨a,b,c,d,e,f,g1,h⟩,hv⟩:∃ x,x=v t:=⟨_,rfl⟩
  rw [← hv] at hs ⊢
  have hwv:vCells false 1 (some (w.map eW)) (t * 1)=some (.d (eW (w.getD t 0))):=by
   rw [Nat.mul_one,← wCells_64 hw]; exact wCells_v (by omega)
  have hkv:=dropW (l:=kK) (t:=t) (by rw [kl]; omega)
  generalize w.getD t 0=wt at hs hwv
  generalize kK.getD t 0=kt at hs hkv
  simp only
  (refine goX2 (nn h1 (nn hwv hkv)) (m1 _) (m2 _) ?_; (repeat' (with_reducible apply Br.mk<;>intro _)))
  refine ⟨_,_,?_,stleB (by rw [hs]; rfl),t + 1,⟨0,none⟩,⟨0,none⟩,⟨0,none⟩,⟨0,none⟩,by omega,rfl,rfl⟩
  omega
 obtain rfl:t=64:=by omega
 (refine goX h1 ?_; (repeat' (with_reducible apply Br.mk<;>intro _)))
 obtain ⟨⟨a,b,c,d,e,f,g1,h⟩,hv⟩:∃ x,x=v 64:=⟨_,rfl⟩
 rw [← hv]
 obtain ⟨sa,sb,sc,sd,se,sf,sg,sh⟩:=s
 simp only at hGg ⊢
 refine W.loop (fun m st=>∃ (i:Nat) (G:Gh),i≤4∧m=4 - i∧G.c g=some (eH (H8.mid ⟨sa,sb,sc,sd,se,sf,sg,sh⟩ ⟨a,b,c,d,e,f,g1,h⟩ i)) ∧
  st=(E [(94,.d (.int .i64 (i:Int))),(7,.ptr 0 7 1 0),(6,.ptr 0 6 1 0),(4,.ptr 0 4 1 0),(2,.d (.gp g 0))],
   HB [(4,⟨1,some (zr 8 (D.int .u32 0))⟩),(5,⟨1,some (w.map eW)⟩),(6,⟨1,some [eW a,eW b,eW c,eW d]⟩),(7,⟨1,some [eW e,eW f,eW g1,eW h]⟩)],[],G))
  ⟨_,_,stleB rfl,0,G0,by omega,rfl,hGg,rfl⟩ ?_
 rintro m st ⟨i,G,hi,rfl,hG,rfl⟩
 rcases (by omega:i=0∨i=1∨i=2∨i=3∨i=4) with rfl|rfl|rfl|rfl|rfl
 · simp only [H8.mid,eH,Nat.lt_irrefl,Nat.reduceLT,if_true,if_false,Nat.not_lt_zero] at hG
   refine goS hG ?_
   (refine goX hG ?_; (repeat' (with_reducible apply Br.mk<;>intro _)))
   refine ⟨_,_,?_,stleB rfl,1,_,by omega,rfl,?_,rfl⟩
   · omega
   · simp [upd,H8.mid,eH]
 · simp only [H8.mid,eH,Nat.lt_irrefl,Nat.reduceLT,if_true,if_false,Nat.not_lt_zero] at hG
   refine goS hG ?_
   (refine goX hG ?_; (repeat' (with_reducible apply Br.mk<;>intro _)))
   refine ⟨_,_,?_,stleB rfl,2,_,by omega,rfl,?_,rfl⟩
   · omega
   · simp [upd,H8.mid,eH]
 · simp only [H8.mid,eH,Nat.lt_irrefl,Nat.reduceLT,if_true,if_false,Nat.not_lt_zero] at hG
   refine goS hG ?_
   (refine goX hG ?_; (repeat' (with_reducible apply Br.mk<;>intro _)))
   refine ⟨_,_,?_,stleB rfl,3,_,by omega,rfl,?_,rfl⟩
   · omega
   · simp [upd,H8.mid,eH]
 · simp only [H8.mid,eH,Nat.lt_irrefl,Nat.reduceLT,if_true,if_false,Nat.not_lt_zero] at hG
   refine goS hG ?_
   (refine goX hG ?_; (repeat' (with_reducible apply Br.mk<;>intro _)))
   refine ⟨_,_,?_,stleB rfl,4,_,by omega,rfl,?_,rfl⟩
   · omega
   · simp [upd,H8.mid,eH]
 · simp only [H8.mid,eH,Nat.lt_irrefl,Nat.reduceLT,if_true,if_false,Nat.not_lt_zero] at hG
   have z8:(zr 8 (D.int .u32 0)).length=8:=rfl
   have z8d:List.drop 8 (zr 8 (D.int .u32 0))=[]:=rfl
   refine goS hG ?_
   (refine goX (nn hG (nn z8 z8d)) ?_; (repeat' (with_reducible apply Br.mk<;>intro _)))
   refine Fin.eq (r:=.d (.agg (eH (H8.add ⟨sa,sb,sc,sd,se,sf,sg,sh⟩ ⟨a,b,c,d,e,f,g1,h⟩)))) (by simp -dsimp (disch:=first|omega|(simp only [go_sem]; omega)) only [go_sem,seval,Nat.reduceEqDiff,Nat.reduceLeDiff,hG,eH,H8.add]) ⟨rfl,_,.refl _,rfl⟩
end Go.Proofs.YtclmdhceceacoaaGreatDoor
/-
 SHA-256: the padding,and the hash of a message,by the reference.
 Conditions: of each contract as it says.
-/
namespace Go.Proofs.YtclmdhceceacoaaGreatDoor
open Go Go.E2 CW CH
set_option linter.unusedSimpArgs false
set_option maxHeartbeats 4000000
theorem mod_pad (n k:Nat) (hk:k < zs n):(n + 1 + k) % 64 ≠ 56:=by unfold zs at hk; omega
theorem mod_end (n:Nat):(n + 1 + zs n) % 64=56:=by unfold zs; omega
theorem be8_get (n:Nat) {i:Nat} (hi:i < (be8 n).length):(be8 n)[i]=UInt8.ofNat (n / 2 ^ (56 - 8 * i)):=by
 have h8:i < 8:=hi
 rcases (by omega:i=0∨i=1∨i=2∨i=3∨i=4∨i=5∨i=6∨i=7) with rfl|rfl|rfl|rfl|rfl|rfl|rfl|rfl<;>simp [be8]
theorem shr_u64 (n:Nat) {k:Nat} (hk:k≤64):binD .shr (.int .u64 (n:Int)) (.int .i64 (k:Int))=some (.int .u64 ((n / 2 ^ k:Nat):Int)):=by
 show (if (k:Int) < 0 then none else some (D.int .u64 (Int.fdiv (n:Int) (2 ^ (min (k:Int).toNat 64)))))=_
 rw [if_neg (by omega),Int.toNat_natCast,Nat.min_eq_left hk,Int.fdiv_eq_ediv_of_nonneg _ (Int.pow_nonneg (by omega))]
 norm_cast
theorem conv_u8 (n:Nat):vConv .u8 (.d (.int .u64 (n:Int)))=some (.d (.int .u8 ((UInt8.ofNat n).toNat:Int))):=by
 show some (AV.d (.int .u8 (IntKind.u8.wrap (n:Int))))=_
 have:IntKind.u8.wrap (n:Int)=((n % 256:Nat):Int):=by simp [IntKind.wrap,IntKind.bits,IntKind.signed]
 rw [this]; simp
theorem padded_ok (b:Str) (hb:b.length≤1000000):CallP Tryz.prog f_zz14 [.list (b.map eB)] (·=.d (.list ((b ++ padOf b.length).map eB))):=by
 refine callP_of_W fol zz14_cp ?_
 have hm:=mostBytes_eq
 refine goS trivial ?_
 (refine goX trivial ?_; (repeat' (with_reducible apply Br.mk<;>intro _)))
 refine W.loop (fun m st=>∃ (k:Nat) (out:Str),k≤zs b.length∧m=zs b.length - k∧out=b ++ 128::List.replicate k 0 ∧
  st=(E [(3,.own 1 (out.map eB)),(0,.d (.list (b.map eB)))],HB [],[],noGh))
  ⟨_,_,st_le (by (simp -dsimp (disch:=first|omega|(simp only [go_sem]; omega)) only [go_sem,seval,Nat.reduceEqDiff,Nat.reduceLeDiff,List.map_append,List.map_cons,List.map_nil,List.replicate_zero]<;>((repeat' apply And.intro)<;>first|exact VLe.refl _|(apply vle_int; omega)|(apply vle_int; simp; done)|exact VLe.own _ _|exact VLe.nilown _|exact VLe.norm _))),0,b ++ [128],by omega,rfl,rfl,rfl⟩ ?_
 rintro m st ⟨k,out,hk,rfl,hout,rfl⟩
 have hol:out.length=b.length + 1 + k:=by rw [hout,List.length_append,List.length_cons,List.length_replicate]; omega
 have hz:zs b.length < 64:=by unfold zs; omega
 have hr:(out.length:Int).tmod 64=((out.length % 64:Nat):Int):=by rw [Int.tmod_eq_emod_of_nonneg (by omega)]; omega
 by_cases h1:k < zs b.length
 case pos =>
  have h2:(((out.length % 64:Nat):Int)=56)=False:=eq_false (by have:=mod_pad b.length k h1; omega)
  (refine goX (nn hr h2) ?_; (repeat' (with_reducible apply Br.mk<;>intro _)))
  refine ⟨_,_,?_,st_le (by (simp -dsimp (disch:=first|omega|(simp only [go_sem]; omega)) only [go_sem,seval,Nat.reduceEqDiff,Nat.reduceLeDiff,List.map_append,List.map_cons,List.map_nil]<;>((repeat' apply And.intro)<;>first|exact VLe.refl _|(apply vle_int; omega)|(apply vle_int; simp; done)|exact VLe.own _ _|exact VLe.nilown _|exact VLe.norm _))),k + 1,out ++ [0],by omega,rfl,by rw [hout,List.append_assoc,List.cons_append,← List.replicate_succ'],rfl⟩
  omega
 obtain rfl:k=zs b.length:=by omega
 have h2:(((out.length % 64:Nat):Int)=56)=True:=eq_true (by have:=mod_end b.length; omega)
 (refine goX (nn hr h2) ?_; (repeat' (with_reducible apply Br.mk<;>intro _)))
 refine W.loop (fun m st=>∃ (i:Nat) (o2:Str),i≤8∧m=8 - i∧o2=out ++ (be8 (8 * b.length)).take i ∧
  st=(E [(5,.d (.int .i64 (i:Int))),(4,.d (.int .u64 (((8 * b.length:Nat)):Int))),(3,.own 1 (o2.map eB))],HB [],[],noGh))
  ⟨_,_,stle,0,out,by omega,rfl,by simp,rfl⟩ ?_
 rintro m st ⟨i,o2,hi,rfl,ho2,rfl⟩
 have hol2:o2.length=out.length + i:=by rw [ho2,List.length_append,List.length_take]; show _ + min i 8=_; omega
 by_cases h3:(i:Int) < 8
 case pos =>
  have hib:i < (be8 (8 * b.length)).length:=by show i < 8; omega
  have hsh:=shr_u64 (8 * b.length) (k:=56 - 8 * i) (by omega)
  rw [show ((56 - 8 * i:Nat):Int)=56 - 8 * (i:Int) from by omega] at hsh
  have hcv:=conv_u8 (8 * b.length / 2 ^ (56 - 8 * i))
  (refine goX (nn h3 (nn hsh hcv)) ?_; (repeat' (with_reducible apply Br.mk<;>intro _)))
  refine ⟨_,_,?_,st_le (by (simp -dsimp (disch:=first|omega|(simp only [go_sem]; omega)) only [go_sem,seval,Nat.reduceEqDiff,Nat.reduceLeDiff,List.map_append,List.map_cons,List.map_nil,eB_mk]<;>((repeat' apply And.intro)<;>first|exact VLe.refl _|(apply vle_int; omega)|(apply vle_int; simp; done)|exact VLe.own _ _|exact VLe.nilown _|exact VLe.norm _))),i + 1,o2 ++ [UInt8.ofNat (8 * b.length / 2 ^ (56 - 8 * i))],by omega,rfl,?_,rfl⟩
  · omega
  · rw [List.take_succ_eq_append_getElem hib,be8_get _ hib,← List.append_assoc,ho2]
 obtain rfl:i=8:=by omega
 (refine goX h3 ?_; (repeat' (with_reducible apply Br.mk<;>intro _)))
 refine Fin.p rfl ?_
 rw [ho2,hout,padOf]
 show _=AV.d (.list ((b ++ 128::(List.replicate (zs b.length) 0 ++ be8 (8 * b.length))).map eB))
 congr 3
 rw [List.append_assoc]; rfl
theorem H8.get (s:H8) {i:Nat} (hi:i < 8):(eH s)[i]?=some (eW (s.list.getD i 0)):=by
 rcases (by omega:i=0∨i=1∨i=2∨i=3∨i=4∨i=5∨i=6∨i=7) with rfl|rfl|rfl|rfl|rfl|rfl|rfl|rfl<;>rfl
theorem bytes_get (s:H8) {i:Nat} (hi:i < s.bytes.length):s.bytes[i]=UInt8.ofNat ((s.list.getD (i / 4) 0).toNat / 2 ^ (24 - 8 * (i % 4))):=by
 have h:i < 32:=hi
 rcases (by omega:i=0∨i=1∨i=2∨i=3∨i=4∨i=5∨i=6∨i=7∨i=8∨i=9∨i=10∨i=11∨i=12∨i=13∨i=14∨i=15∨i=16∨i=17∨i=18∨i=19∨i=20∨i=21∨i=22∨i=23∨i=24∨i=25∨i=26∨i=27∨i=28∨i=29∨i=30∨i=31) with rfl|rfl|rfl|rfl|rfl|rfl|rfl|rfl|rfl|rfl|rfl|rfl|rfl|rfl|rfl|rfl|rfl|rfl|rfl|rfl|rfl|rfl|rfl|rfl|rfl|rfl|rfl|rfl|rfl|rfl|rfl|rfl<;>first|rfl|simp [H8.bytes,H8.list,wBytes,List.flatMap_cons]
theorem shr_w (w:W32) {k:Nat} (hk:k≤32):binD .shr (eW w) (.int .i64 (k:Int))=some (.int .u32 ((w.toNat / 2 ^ k:Nat):Int)):=by
 show (if (k:Int) < 0 then none else some (D.int .u32 (Int.fdiv (w.toNat:Int) (2 ^ (min (k:Int).toNat 32)))))=_
 rw [if_neg (by omega),Int.toNat_natCast,Nat.min_eq_left hk,Int.fdiv_eq_ediv_of_nonneg _ (Int.pow_nonneg (by omega))]
 norm_cast
theorem conv_u8w (n:Nat):vConv .u8 (.d (.int .u32 (n:Int)))=some (.d (.int .u8 ((UInt8.ofNat n).toNat:Int))):=by
 show some (AV.d (.int .u8 (IntKind.u8.wrap (n:Int))))=_
 have:IntKind.u8.wrap (n:Int)=((n % 256:Nat):Int):=by simp [IntKind.wrap,IntKind.bits,IntKind.signed]
 rw [this]; simp
theorem take_pad (m:Str) {n:Nat} (h:64 * n + 64≤m.length):((m.drop (64 * n)).take 64).length=64:=by rw [List.length_take,List.length_drop]; omega
def H8.mid8 (s v:H8) (i:Nat):H8:=⟨if 0 < i then s.a + v.a else s.a,if 1 < i then s.b + v.b else s.b,if 2 < i then s.c + v.c else s.c,if 3 < i then s.d + v.d else s.d,
 if 4 < i then s.e + v.e else s.e,if 5 < i then s.f + v.f else s.f,if 6 < i then s.g + v.g else s.g,if 7 < i then s.h + v.h else s.h⟩
theorem setB {c:List D} {bs:Str} {i n:Nat} (hc:c.length=n) (h:c.take i=(bs.take i).map eB) (hi:i < bs.length) (hn:i < n) :
 (c.take i ++ [eB bs[i]] ++ c.drop (i + 1)).length=n∧(c.take i ++ [eB bs[i]] ++ c.drop (i + 1)).take (i + 1)=(bs.take (i + 1)).map eB:=by
 have hl:(c.take i).length=i:=by rw [List.length_take]; omega
 refine ⟨by rw [List.length_append,List.length_append,hl,List.length_drop]; simp; omega,?_⟩
 rw [List.take_left' (by rw [List.length_append,hl]; rfl),h,List.take_succ_eq_append_getElem hi,List.map_append]; rfl
theorem rSum_ok (b:Str) (hb:b.length≤1000000):CallP Tryz.prog f_zz26 [.list (b.map eB)] (·=.d (.agg ((sha b).map eB))):=by
 refine callP_of_W fol zz26_cp ?_
 have hp:=padded_ok b hb
 obtain ⟨m,hm⟩:∃ m,m=b ++ padOf b.length:=⟨_,rfl⟩
 have hml:m.length≤1000100:=by rw [hm,List.length_append,padOf_len]; unfold zs; omega
 have hmd:m.length % 64=0:=by rw [hm,List.length_append]; exact padOf_mod _
 obtain ⟨N,hN⟩:∃ N,m.length=64 * N:=⟨m.length / 64,by omega⟩
 have hsha:sha b=(CH.hb m N).bytes:=by
  have:(b.length + (padOf b.length).length) / 64=N:=by rw [← List.length_append,← hm,hN]; omega
  unfold sha; rw [this,← hm]
 rw [hsha]
 rw [← hm] at hp
 have hblk:∀ n,CH.hb m (n + 1)=comp (CH.hb m n) ((m.drop (64 * n)).take 64):=fun _=>rfl
 have hb0:CH.hb m 0=iv:=rfl
 generalize CH.hb m=H at hblk hb0 ⊢
 have zr8:zr 8 (D.int .u32 0)=[.int .u32 0,.int .u32 0,.int .u32 0,.int .u32 0,.int .u32 0,.int .u32 0,.int .u32 0,.int .u32 0]:=rfl
 obtain ⟨z32,hz32⟩:∃ z,z=zr 32 (D.int .u8 0):=⟨_,rfl⟩
 have z32l:z32.length=32:=by rw [hz32]; rfl
 have z32d:List.drop 32 z32=[]:=by rw [hz32]; rfl
 simp -dsimp (disch:=first|omega|(simp only [go_sem]; omega)) only [go_sem,seval,Nat.reduceEqDiff,Nat.reduceLeDiff,zr8,← hz32]
 (refine goX1 zr8 (hp) ?_; (repeat' (with_reducible apply Br.mk<;>intro _)))
 refine W.loop (fun k st=>∃ (n:Nat) (b6 b7:Blk),n≤N∧k=N - n ∧
  st=(E [(5,.d (.int .i64 ((64 * n:Nat):Int))),(4,.d (.list (m.map eB))),(3,.ptr 0 3 1 0),(2,.ptr 0 2 1 0)],
   HB [(2,⟨1,some z32⟩),(3,⟨1,some (eH (H n))⟩),(6,b6),(7,b7)],[],noGh))
  ⟨_,_,stleB (by rw [hz32,hb0]; exact (HB_pad [(2,⟨1,some (zr 32 (D.int .u8 0))⟩),(3,⟨1,some (eH iv)⟩)] [6,7] rfl).symm),0,_,_,by omega,rfl,rfl⟩ ?_
 rintro k st ⟨n,b6,b7,hn,rfl,rfl⟩
 by_cases h1:((64 * n:Nat):Int) < (m.length:Int)
 case pos =>
  obtain ⟨q,hq⟩:∃ q,q=(m.drop (64 * n)).take 64:=⟨_,rfl⟩
  have hql:q.length=64:=by rw [hq]; exact take_pad m (by omega)
  have hv:vSlH 1 (some (.list (m.map eB))) (some ((64 * n:Nat):Int)) (some (((64 * n:Nat):Int) + 64))=some (.d (.list (q.map eB))):=by
   rw [vSlH_list 1 _ _ _ (by omega) (by omega) (by rw [List.length_map]; omega),if_pos (eB_all m)]
   have e1:(((64 * n:Nat):Int) + 64).toNat=64 * n + 64:=by omega
   rw [e1,Int.toNat_natCast,hq,List.map_take,List.map_drop,List.take_drop]
  have hw:=words_ok q hql
  have hH:=hblk n
  rw [← hq,comp] at hH
  have hwl:(sch q 64).length=64:=sch_len q 64
  generalize sch q 64=w at hw hH hwl
  have hR:=rndOk (H n) w
  have hR0:rnds (H n) w 0=H n:=rfl
  generalize rnds (H n) w=v at hR hR0 hH
  obtain ⟨wn,wtk,wall⟩:=fin64 hwl
  have z64:(zr 64 (D.int IntKind.u32 0)).length=64:=rfl
  have z64d:List.drop 64 (zr 64 (D.int IntKind.u32 0))=[]:=rfl
  obtain ⟨⟨sa,sb,sc,sd,se,sf,sg,sh⟩,hs⟩:∃ x,x=H n:=⟨_,rfl⟩
  rw [← hs] at hH hR0 ⊢
  simp only [eH]
  (refine goX1 (nn h1 (nn hv (nn wn (nn wtk (nn wall (nn z64 (nn z64d zr8))))))) (hw) ?_; (repeat' (with_reducible apply Br.mk<;>intro _)))
  refine W.loop (fun k st=>∃ t,t≤64∧k=64 - t ∧
   st=(E [(8,.d (.int .i64 (t:Int))),(7,.ptr 0 7 (b7.g + 1) 0),(6,.ptr 0 6 (b6.g + 1) 0),(5,.d (.int .i64 ((64 * n:Nat):Int))),(4,.d (.list (m.map eB))),(3,.ptr 0 3 1 0),(2,.ptr 0 2 1 0)],
    HB [(2,⟨1,some z32⟩),(3,⟨1,some (eH ⟨sa,sb,sc,sd,se,sf,sg,sh⟩)⟩),(6,⟨b6.g + 1,some (w.map eW)⟩),(7,⟨b7.g + 1,some (eH (v t))⟩)],[],noGh))
   ⟨_,_,stleB (by rw [hR0]; rfl),0,by omega,rfl,rfl⟩ ?_
  rintro k st ⟨t,ht,rfl,rfl⟩
  by_cases h2:(t:Int) < 64
  case pos =>
   have r6:=fun x=>rotr_ok x 6 (by omega) (by omega)
   have r11:=fun x=>rotr_ok x 11 (by omega) (by omega)
   have r25:=fun x=>rotr_ok x 25 (by omega) (by omega)
   have r2:=fun x=>rotr_ok x 2 (by omega) (by omega)
   have r13:=fun x=>rotr_ok x 13 (by omega) (by omega)
   have r22:=fun x=>rotr_ok x 22 (by omega) (by omega)
   have hs2:=hR.s t
   obtain ⟨⟨a,b,c,d,e,f,g1,h⟩,hv2⟩:∃ x,x=v t:=⟨_,rfl⟩
   rw [← hv2] at hs2 ⊢
   have hwv:vCells false 1 (some (w.map eW)) (t * 1)=some (.d (eW (w.getD t 0))):=by
    rw [Nat.mul_one,← wCells_64 hwl]; exact wCells_v (by omega)
   have kl:=kK_len
   have hkv:=dropW (l:=kK) (t:=t) (by rw [kl]; omega)
   generalize w.getD t 0=wt at hs2 hwv
   generalize kK.getD t 0=kt at hs2 hkv
   simp only [eH]
   (refine goX3 (nn h2 (nn hwv (nn hkv zr8))) (r6 _) (r11 _) (r25 _) ?_; (repeat' (with_reducible apply Br.mk<;>intro _)))
   (refine goX3 (nn h2 (nn hwv (nn hkv zr8))) (r2 _) (r13 _) (r22 _) ?_; (repeat' (with_reducible apply Br.mk<;>intro _)))
   refine ⟨_,_,?_,stleB (by rw [hs2]; rfl),t + 1,by omega,rfl,rfl⟩
   omega
  obtain rfl:t=64:=by omega
  (refine goX h2 ?_; (repeat' (with_reducible apply Br.mk<;>intro _)))
  obtain ⟨⟨a,b,c,d,e,f,g1,h⟩,hv2⟩:∃ x,x=v 64:=⟨_,rfl⟩
  rw [← hv2] at hH ⊢
  refine W.loop (fun k st=>∃ i,i≤8∧k=8 - i ∧
   st=(E [(11,.d (.int .i64 (i:Int))),(7,.ptr 0 7 (b7.g + 1) 0),(5,.d (.int .i64 ((64 * n:Nat):Int))),(4,.d (.list (m.map eB))),(3,.ptr 0 3 1 0),(2,.ptr 0 2 1 0)],
    HB [(2,⟨1,some z32⟩),(3,⟨1,some (eH (H8.mid8 ⟨sa,sb,sc,sd,se,sf,sg,sh⟩ ⟨a,b,c,d,e,f,g1,h⟩ i))⟩),(6,⟨b6.g + 1,some (w.map eW)⟩),(7,⟨b7.g + 1,some (eH ⟨a,b,c,d,e,f,g1,h⟩)⟩)],[],noGh))
   ⟨_,_,stleB rfl,0,by omega,rfl,rfl⟩ ?_
  rintro k st ⟨i,hi,rfl,rfl⟩
  rcases (by omega:i=0∨i=1∨i=2∨i=3∨i=4∨i=5∨i=6∨i=7∨i=8) with rfl|rfl|rfl|rfl|rfl|rfl|rfl|rfl|rfl
  · simp only [H8.mid8,Nat.lt_irrefl,Nat.reduceLT,if_true,if_false,Nat.not_lt_zero,eH]
    refine goS trivial ?_
    (refine goX trivial ?_; (repeat' (with_reducible apply Br.mk<;>intro _)))
    refine ⟨_,_,?_,stleB rfl,1,by omega,rfl,rfl⟩
    omega
  · simp only [H8.mid8,Nat.lt_irrefl,Nat.reduceLT,if_true,if_false,Nat.not_lt_zero,eH]
    refine goS trivial ?_
    (refine goX trivial ?_; (repeat' (with_reducible apply Br.mk<;>intro _)))
    refine ⟨_,_,?_,stleB rfl,2,by omega,rfl,rfl⟩
    omega
  · simp only [H8.mid8,Nat.lt_irrefl,Nat.reduceLT,if_true,if_false,Nat.not_lt_zero,eH]
    refine goS trivial ?_
    (refine goX trivial ?_; (repeat' (with_reducible apply Br.mk<;>intro _)))
    refine ⟨_,_,?_,stleB rfl,3,by omega,rfl,rfl⟩
    omega
  · simp only [H8.mid8,Nat.lt_irrefl,Nat.reduceLT,if_true,if_false,Nat.not_lt_zero,eH]
    refine goS trivial ?_
    (refine goX trivial ?_; (repeat' (with_reducible apply Br.mk<;>intro _)))
    refine ⟨_,_,?_,stleB rfl,4,by omega,rfl,rfl⟩
    omega
  · simp only [H8.mid8,Nat.lt_irrefl,Nat.reduceLT,if_true,if_false,Nat.not_lt_zero,eH]
    refine goS trivial ?_
    (refine goX trivial ?_; (repeat' (with_reducible apply Br.mk<;>intro _)))
    refine ⟨_,_,?_,stleB rfl,5,by omega,rfl,rfl⟩
    omega
  · simp only [H8.mid8,Nat.lt_irrefl,Nat.reduceLT,if_true,if_false,Nat.not_lt_zero,eH]
    refine goS trivial ?_
    (refine goX trivial ?_; (repeat' (with_reducible apply Br.mk<;>intro _)))
    refine ⟨_,_,?_,stleB rfl,6,by omega,rfl,rfl⟩
    omega
  · simp only [H8.mid8,Nat.lt_irrefl,Nat.reduceLT,if_true,if_false,Nat.not_lt_zero,eH]
    refine goS trivial ?_
    (refine goX trivial ?_; (repeat' (with_reducible apply Br.mk<;>intro _)))
    refine ⟨_,_,?_,stleB rfl,7,by omega,rfl,rfl⟩
    omega
  · simp only [H8.mid8,Nat.lt_irrefl,Nat.reduceLT,if_true,if_false,Nat.not_lt_zero,eH]
    refine goS trivial ?_
    (refine goX trivial ?_; (repeat' (with_reducible apply Br.mk<;>intro _)))
    refine ⟨_,_,?_,stleB rfl,8,by omega,rfl,rfl⟩
    omega
  · simp only [H8.mid8,Nat.lt_irrefl,Nat.reduceLT,if_true,if_false,Nat.not_lt_zero,eH]
    refine goS trivial ?_
    (refine goX trivial ?_; (repeat' (with_reducible apply Br.mk<;>intro _)))
    have e64:((64 * (n + 1):Nat):Int)=((64 * n:Nat):Int) + 64:=by omega
    refine ⟨_,_,?_,st_leB (by (simp -dsimp (disch:=first|omega|(simp only [go_sem]; omega)) only [go_sem,seval,Nat.reduceEqDiff,Nat.reduceLeDiff,e64]<;>((repeat' apply And.intro)<;>first|exact VLe.refl _|(apply vle_int; omega)|(apply vle_int; simp; done)|exact VLe.own _ _|exact VLe.nilown _|exact VLe.norm _))) (by rw [hH]; rfl),n + 1,_,_,by omega,rfl,rfl⟩
    omega
 obtain rfl:n=N:=by omega
 have z32e:zr 32 (D.int .u8 0)=z32:=hz32.symm
 (refine goX (nn h1 z32e) ?_; (repeat' (with_reducible apply Br.mk<;>intro _)))
 generalize H n=hn at *
 have hbl:=H8.bytes_len hn
 refine W.loop (fun k st=>∃ (i:Nat) (c:List D),i≤32∧k=32 - i∧c.length=32∧c.take i=(hn.bytes.take i).map eB ∧
  st=(E [(13,.d (.int .i64 (i:Int))),(12,.ptr 0 12 1 0),(3,.ptr 0 3 1 0),(2,.ptr 0 2 1 0)],
   HB [(2,⟨1,some z32⟩),(3,⟨1,some (eH hn)⟩),(6,b6),(7,b7),(12,⟨1,some c⟩)],[],noGh))
  ⟨_,_,stleB rfl,0,z32,by omega,rfl,z32l,rfl,rfl⟩ ?_
 rintro k st ⟨i,c,hi,rfl,hcl,hct,rfl⟩
 by_cases h2:(i:Int) < 32
 case pos =>
  have hib:i < hn.bytes.length:=by omega
  have q1:(i:Int).tdiv 4=((i / 4:Nat):Int):=by rw [Int.tdiv_eq_ediv_of_nonneg (by omega)]; omega
  have q2:(i:Int).tmod 4=((i % 4:Nat):Int):=by rw [Int.tmod_eq_emod_of_nonneg (by omega)]; omega
  have hg:vCells false 1 (some (eH hn)) (i / 4 * 1)=some (.d (eW (hn.list.getD (i / 4) 0))):=by
   have h0:=H8.get hn (i:=i / 4) (by omega)
   simp only [vCells,loadD,List.head?_drop,Nat.mul_one,h0]; rfl
  have hby:=bytes_get hn hib
  generalize hn.list.getD (i / 4) 0=x at hg hby
  have hsh:=shr_w x (k:=24 - 8 * (i % 4)) (by omega)
  rw [show ((24 - 8 * (i % 4):Nat):Int)=24 - 8 * ((i % 4:Nat):Int) from by omega] at hsh
  have hcv:=conv_u8w (x.toNat / 2 ^ (24 - 8 * (i % 4)))
  have hfit:i * 1 + 1≤c.length:=by omega
  (refine goX (nn h2 (nn q1 (nn q2 (nn hg (nn hsh (nn hcv hfit)))))) ?_; (repeat' (with_reducible apply Br.mk<;>intro _)))
  obtain ⟨e1,e2⟩:=setB hcl hct hib (by omega)
  rw [hby] at e1 e2
  refine ⟨_,_,?_,stleB rfl,i + 1,_,by omega,rfl,?_,?_,rfl⟩
  · omega
  · rw [Nat.mul_one]; exact e1
  · rw [Nat.mul_one]; exact e2
 obtain rfl:i=32:=by omega
 rw [List.take_of_length_le (by omega),List.take_of_length_le (by omega)] at hct
 subst hct
 have hbn:(hn.bytes.map eB).length=32:=hcl
 have htk:List.take 32 (hn.bytes.map eB)=hn.bytes.map eB:=List.take_of_length_le (by omega)
 have hall:(hn.bytes.map eB).all D.one=true:=by rw [List.all_map,List.all_eq_true]; intro x _; rfl
 generalize hn.bytes.map eB=cs at hbn htk hall ⊢
 (refine goX (nn h2 (nn hbn (nn htk (nn hall (nn z32l z32d))))) ?_; (repeat' (with_reducible apply Br.mk<;>intro _)))
 exact Fin.eq (r:=.d (.agg cs)) (by simp -dsimp (disch:=first|omega|(simp only [go_sem]; omega)) only [go_sem,seval,Nat.reduceEqDiff,Nat.reduceLeDiff,hbn,htk,hall]) ⟨rfl,rfl,rfl⟩
end Go.Proofs.YtclmdhceceacoaaGreatDoor
