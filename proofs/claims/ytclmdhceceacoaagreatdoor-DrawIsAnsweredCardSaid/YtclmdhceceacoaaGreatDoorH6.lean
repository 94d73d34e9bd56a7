/-
 SHA-256: a message that is hashed piece by piece,by the program.
 Conditions: of each contract as it says.
-/
import Derived.Test.YtclmdhceceacoaaGreatDoorH4
namespace Go.Proofs.YtclmdhceceacoaaGreatDoor
open Go Go.E2 CW CH
set_option linter.unusedSimpArgs false
set_option maxHeartbeats 4000000
def strmC (s:H8) (blk:Str) (n:Nat):List D:=eH s ++ blk.map eB ++ [.int .u64 (n:Int)]
structure BlkOk (m blk:Str):Prop where
 len:blk.length=64
 is:blk.take (m.length % 64)=m.drop (64 * (m.length / 64))
def Strm (m:Str) (x:D):Prop:=∃ blk,BlkOk m blk∧x=.agg (strmC (CH.hb m (m.length / 64)) blk m.length)
theorem strmC_len {s:H8} {blk:Str} {n:Nat} (h:blk.length=64):(strmC s blk n).length=73:=by
 rw [strmC,List.length_append,List.length_append,List.length_map,h]; rfl
theorem strm_n {s:H8} {blk:Str} {n:Nat} (h:blk.length=64):vCells false 1 (some (strmC s blk n)) 72=some (.d (.int .u64 (n:Int))):=by
 have:(strmC s blk n)[72]?=some (.int .u64 (n:Int)):=by
  rw [strmC,List.getElem?_append_right (by rw [List.length_append,List.length_map,h]; exact Nat.le_refl _),List.length_append,List.length_map,h]; rfl
 simp only [vCells,loadD,List.head?_drop,this]; rfl
theorem strm_s {s:H8} {blk:Str} {n:Nat}:vCells true 8 (some (strmC s blk n)) 0=some (.d (.agg (eH s))):=by
 simp [vCells,loadD,strmC,eH]
theorem strm_all {s:H8} {blk:Str} {n:Nat}:(strmC s blk n).all D.one=true:=by
 simp only [strmC,List.all_append,Bool.and_eq_true]
 exact ⟨⟨rfl,by rw [List.all_map,List.all_eq_true]; intro x _; rfl⟩,rfl⟩
def lay (blk:Str) (at_:Nat) (x:Str):Str:=blk.take at_ ++ x ++ blk.drop (at_ + x.length)
theorem lay_len {blk:Str} {a:Nat} {x:Str} (h:blk.length=64) (hx:a + x.length≤64):(lay blk a x).length=64:=by
 simp only [lay,List.length_append,List.length_take,List.length_drop]; omega
theorem over_strm {s:H8} {blk:Str} {n a:Nat} {x:Str} (h:blk.length=64) (hx:a + x.length≤64) :
 over (strmC s blk n) (x.map fun u=>D.int .u8 u.toNat) (8 + a)=strmC s (lay blk a x) n:=by
 have e8:(eH s).length=8:=rfl
 have e1:(strmC s blk n).take (8 + a)=eH s ++ (blk.map eB).take a:=by
  rw [strmC,List.append_assoc,List.take_append,List.take_of_length_le (by omega),e8,show 8 + a - 8=a from by omega,List.take_append_of_le_length (by rw [List.length_map]; omega)]
 have e2:(strmC s blk n).drop (8 + a + x.length)=(blk.map eB).drop (a + x.length) ++ [.int .u64 (n:Int)]:=by
  rw [strmC,List.append_assoc,List.drop_append,List.drop_of_length_le (by omega),e8,show 8 + a + x.length - 8=a + x.length from by omega,List.nil_append,List.drop_append_of_le_length (by rw [List.length_map]; omega)]
 unfold over
 rw [List.length_map,e1,e2,strmC,lay,List.map_append,List.map_append,List.map_take,List.map_drop]
 simp only [List.append_assoc]
 rfl
theorem over_n {s:H8} {blk:Str} {n k:Nat} (h:blk.length=64):(strmC s blk n).take 72 ++ [D.int .u64 ((n:Int) + (k:Int))] ++ (strmC s blk n).drop 73=strmC s blk (n + k):=by
 rw [← Int.natCast_add]
 have e8:(eH s ++ blk.map eB).length=72:=by rw [List.length_append,List.length_map,h]; rfl
 rw [strmC,List.take_left' e8,List.drop_of_length_le (by rw [List.length_append,e8]; exact Nat.le_refl _),List.append_nil]; rfl
theorem over_s {s s':H8} {blk:Str} {n:Nat}:eH s' ++ (strmC s blk n).drop 8=strmC s' blk n:=rfl
theorem step_lo {p blk x:Str} (h:BlkOk p blk) (hx:p.length % 64 + x.length < 64) :
 BlkOk (p ++ x) (lay blk (p.length % 64) x)∧CH.hb (p ++ x) ((p ++ x).length / 64)=CH.hb p (p.length / 64):=by
 have e:(p ++ x).length / 64=p.length / 64:=by rw [List.length_append]; omega
 have e2:(p ++ x).length % 64=p.length % 64 + x.length:=by rw [List.length_append]; omega
 refine ⟨⟨lay_len h.len (by omega),?_⟩,by rw [e]; exact hb_app _ _ _ (by omega)⟩
 rw [e,e2,List.drop_append_of_le_length (by omega),← h.is,lay,List.take_left']
 rw [List.length_append,List.length_take,h.len]; omega
theorem step_hi {p blk x:Str} (h:BlkOk p blk) (hx:p.length % 64 + x.length=64) :
 BlkOk (p ++ x) (lay blk (p.length % 64) x)∧CH.hb (p ++ x) ((p ++ x).length / 64)=comp (CH.hb p (p.length / 64)) (lay blk (p.length % 64) x):=by
 have e:(p ++ x).length / 64=p.length / 64 + 1:=by rw [List.length_append]; omega
 have e2:(p ++ x).length % 64=0:=by rw [List.length_append]; omega
 have hl:=lay_len h.len (Nat.le_of_eq hx)
 refine ⟨⟨hl,?_⟩,?_⟩
 · rw [e2,List.take_zero,List.drop_of_length_le (by omega)]
 · rw [e,CH.hb,hb_app _ _ _ (by omega),List.drop_append_of_le_length (by omega),← h.is]
   have:blk.take (p.length % 64) ++ x=lay blk (p.length % 64) x:=by rw [lay,hx,List.drop_of_length_le (by rw [h.len]; exact Nat.le_refl _),List.append_nil]
   rw [this,List.take_of_length_le (by omega)]
@[go_sem] theorem gdD_arr0 (sz n b off:Nat) (G:Gh):gdD (.arrS sz n false false false) [.gp b off] G=some (.d (.gs b off n n),G):=by
  simp [gdD,optI]
theorem Begin_ok:CallP Tryz.prog f_zz50 [] (fun r=>∃ x,r=.d x∧Strm [] x):=by
 refine callP_of_W fol zz50_cp ?_
 have zr8:zr 8 (D.int .u32 0)=[.int .u32 0,.int .u32 0,.int .u32 0,.int .u32 0,.int .u32 0,.int .u32 0,.int .u32 0,.int .u32 0]:=rfl
 obtain ⟨z,hz⟩:∃ z,z=zr 64 (D.int .u8 0):=⟨_,rfl⟩
 have hz0:zr 64 (D.int .u8 0)=z:=hz.symm
 have hzl:(z ++ [D.int .u64 0]).length=65:=by rw [hz]; rfl
 have hza:(z ++ [D.int .u64 0]).all D.one=true:=by rw [hz]; rfl
 have hzt:List.take 65 (z ++ [D.int .u64 0])=z ++ [D.int .u64 0]:=List.take_of_length_le (by omega)
 have hzd:List.drop 65 (z ++ [D.int .u64 0])=[]:=by rw [hz]; rfl
 have hzb:z=(List.replicate 64 (0:UInt8)).map eB:=by rw [hz]; rfl
 refine goS (nn zr8 hz0) ?_
 (refine goX (nn zr8 (nn hz0 (nn hza (nn hzl (nn hzt hzd))))) ?_; (repeat' (with_reducible apply Br.mk<;>intro _)))
 have e:D.int .u32 1779033703::D.int .u32 3144134277::D.int .u32 1013904242::D.int .u32 2773480762::D.int .u32 1359893119::D.int .u32 2600822924::D.int .u32 528734635::D.int .u32 1541459225::(z ++ [D.int .u64 0])=strmC iv (List.replicate 64 0) 0:=by rw [hzb]; rfl
 rw [e]
 have hl:=strmC_len (s:=iv) (blk:=List.replicate 64 0) (n:=0) rfl
 have hall:=strm_all (s:=iv) (blk:=List.replicate 64 0) (n:=0)
 generalize hc:strmC iv (List.replicate 64 0) 0=c at hl hall
 have htk:List.take 73 c=c:=List.take_of_length_le (by omega)
 exact Fin.eq (r:=.d (.agg c)) (by simp -dsimp (disch:=first|omega|(simp only [go_sem]; omega)) only [go_sem,seval,Nat.reduceEqDiff,Nat.reduceLeDiff,hl,htk,hall]) ⟨rfl,rfl,_,rfl,List.replicate 64 0,⟨rfl,rfl⟩,by rw [← hc]; rfl⟩
theorem Add_ok (m text:Str) (h1:m.length≤4000000) (h2:text.length≤4000000) {x:D} (hx:Strm m x):CallP Tryz.prog f_zz28 [x,.str text] (fun r=>∃ y,r=.d y∧Strm (m ++ text) y):=by
 refine CallP.of_deep (callT_of_W fol zz28_cp ?_)
 obtain ⟨blk,hblk,rfl⟩:=hx
 have hl:=strmC_len (s:=CH.hb m (m.length / 64)) (n:=m.length) hblk.len
 have hall:=strm_all (s:=CH.hb m (m.length / 64)) (blk:=blk) (n:=m.length)
 obtain ⟨z,hz⟩:∃ z,z=zr 8 (D.int .u32 0) ++ zr 64 (D.int .u8 0) ++ [D.int .u64 0]:=⟨_,rfl⟩
 have hz0:=hz.symm
 have hzl:z.length=73:=by rw [hz]; rfl
 have hzd:List.drop 73 z=[]:=by rw [hz]; rfl
 generalize hc0:strmC (CH.hb m (m.length / 64)) blk m.length=c0 at *
 refine goS (nn hl (nn hall hz0)) ?_
 refine goR (nn hl (nn hall hz0)) ?_
 refine wNew_mk fun g hg=>?_
 refine goS hz0 ?_
 refine goR hz0 ?_
 have hG0:(noGh.set g (some c0)).c g=some c0:=by simp [upd]
 generalize noGh.set g (some c0)=G0 at hG0 ⊢
 refine W.loop (fun k st=>∃ (p rest blk:Str) (G:Gh),k=rest.length∧p ++ rest=m ++ text∧BlkOk p blk∧G.c g=some (strmC (CH.hb p (p.length / 64)) blk p.length) ∧
  st=(E [(1,.d (.str rest)),(2,.d (.gp g 0)),(4,.ptr 0 4 1 0)],HB [(4,⟨1,some z⟩)],[],G))
  ⟨_,_,stleB ?_,m,text,blk,G0,rfl,rfl,hblk,by rw [hc0]; exact hG0,rfl⟩ ?_
 · rfl
 clear hG0 hl hall hc0 hblk
 rintro k st ⟨p,rest,blk,G,rfl,hpr,hblk,hG,rfl⟩
 obtain ⟨s,hs⟩:∃ s,s=CH.hb p (p.length / 64):=⟨_,rfl⟩
 rw [← hs] at hG
 have hlen:p.length + rest.length=m.length + text.length:=by rw [← List.length_append,hpr,List.length_append]
 by_cases hre:rest=[]
 case pos =>
  subst hre
  rw [List.append_nil] at hpr
  have hl:=strmC_len (s:=s) (n:=p.length) hblk.len
  have hall:=strm_all (s:=s) (blk:=blk) (n:=p.length)
  generalize hc:strmC s blk p.length=c at hG hl hall
  have htk:List.take 73 c=c:=List.take_of_length_le (by omega)
  (refine goX (nn hG (nn hl (nn hall (nn htk (nn hzl hzd))))) ?_; (repeat' (with_reducible apply Br.mk<;>intro _)))
  refine Fin.eq (r:=.d (.agg c)) (by simp -dsimp (disch:=first|omega|(simp only [go_sem]; omega)) only [go_sem,seval,Nat.reduceEqDiff,Nat.reduceLeDiff,hl,hall,htk]) ⟨rfl,_,.refl _,_,rfl,blk,?_,?_⟩
  · rw [← hpr]; exact hblk
  · rw [← hc,← hpr,hs]
 have hrl:0 < rest.length:=List.length_pos_iff.2 hre
 obtain ⟨a,ha⟩:∃ a,a=p.length % 64:=⟨_,rfl⟩
 have ha64:a < 64:=by omega
 have q1:(p.length:Int).tmod 64=(a:Int):=by rw [Int.tmod_eq_emod_of_nonneg (by omega)]; omega
 have hn:=strm_n (s:=s) (n:=p.length) hblk.len
 have hne:(rest=[])=False:=eq_false hre
 obtain ⟨x,hx⟩:∃ x,x=rest.take (64 - a):=⟨_,rfl⟩
 have hxl:x.length=min (64 - a) rest.length:=by rw [hx,List.length_take]
 have hxp:0 < x.length:=by omega
 have hov:=over_strm (s:=s) (n:=p.length) hblk.len (a:=a) (x:=x) (by omega)
 have hl0:=strmC_len (s:=s) (n:=p.length) hblk.len
 have ev:gdD GD.copyS [D.gs g (8 + a * 1) (64 - a) (64 - a),D.str rest] G=some (.d (.int .i64 ((x.length:Nat):Int)),G.set g (some (strmC s (lay blk a x) p.length))):=by
  have hfit:8 + a * 1 + (64 - a)≤(strmC s blk p.length).length:=by omega
  simp only [gdD,hG,if_pos hfit]
  rw [← hx,Nat.mul_one,hov,hxl]
 have hpre:rest.drop x.length=rest.drop x.length:=rfl
 (refine goX (nn hG (nn hn (nn q1 hne))) ?_; (repeat' (with_reducible apply Br.mk<;>intro _)))
 refine wGd_mk ev ?_
 clear ev hn
 have hlb:=lay_len (blk:=blk) (a:=a) (x:=x) hblk.len (by omega)
 have hn:=strm_n (s:=s) (blk:=lay blk a x) (n:=p.length) hlb
 have hl1:=strmC_len (s:=s) (blk:=lay blk a x) (n:=p.length) hlb
 have hfit:72 + (0 + 1)≤(strmC s (lay blk a x) p.length).length:=by omega
 have hov2:=over_n (s:=s) (blk:=lay blk a x) (n:=p.length) (k:=x.length) hlb
 have hs8:=strm_s (s:=s) (blk:=lay blk a x) (n:=p.length + x.length)
 have hl2:=strmC_len (s:=s) (blk:=lay blk a x) (n:=p.length + x.length) hlb
 have hpr2:(p ++ x) ++ rest.drop x.length=m ++ text:=by
  have:x=rest.take x.length:=by rw [hxl,hx]; by_cases h:64 - a≤rest.length; rw [Nat.min_eq_left h]; rw [Nat.min_eq_right (by omega),List.take_of_length_le (by omega),List.take_of_length_le (Nat.le_refl _)]
  rw [List.append_assoc,← hpr]
  conv=>lhs; rhs; lhs; rw [this]
  rw [List.take_append_drop]
 have hrd:(rest.drop x.length).length < rest.length:=by rw [List.length_drop]; omega
 generalize hr2:rest.drop x.length=rest2 at *
 have hpx:p.length + x.length=(p ++ x).length:=by rw [List.length_append]
 by_cases h3:(a:Int) + (x.length:Int)=64
 case neg =>
  obtain ⟨n1,n2⟩:=step_lo (x:=x) hblk (by omega)
  rw [← ha] at n1
  rw [← hs] at n2
  generalize hc1:strmC s (lay blk a x) p.length=c1 at *
  refine goS hn ?_
  (refine goX (nn hn (nn hl1 (nn hov2 (nn h3 hr2)))) ?_; (repeat' (with_reducible apply Br.mk<;>intro _)))
  refine ⟨_,_,?_,stleB rfl,p ++ x,rest2,lay blk a x,_,rfl,hpr2,n1,?_,rfl⟩
  · exact hrd
  · rw [n2,← hpx]; simp [upd]
 obtain ⟨n1,n2⟩:=step_hi (x:=x) hblk (by omega)
 rw [← ha] at n1 n2
 rw [← hs] at n2
 have hcp:=compress_ok s (lay blk a x) hlb
 generalize hc1:strmC s (lay blk a x) p.length=c1 at *
 have hlend:∀ G:Gh,G.c g=some (strmC s (lay blk a x) (p.length + x.length))→Lend G (.gs g 8 64 64) (.list ((lay blk a x).map eB)):=fun G hG=>by
  refine .gs g 8 64 64 1 _ _ hG (by omega) (by rw [List.length_map,hlb]) (eB_all _) ?_
  have e1:flat ((lay blk a x).map eB)=(lay blk a x).map eB:=flat_u8s _
  rw [e1,strmC,List.append_assoc,List.drop_left' (show (eH s).length=8 from rfl),Nat.mul_one,List.take_left' (by rw [List.length_map,hlb])]
 generalize hc2:strmC s (lay blk a x) (p.length + x.length)=c2 at *
 refine goS hn ?_
 (refine goX (nn hn (nn hl1 (nn hov2 (nn h3 (nn hr2 (nn hs8 hl2)))))) ?_; (repeat' (with_reducible apply Br.mk<;>intro _)))
 refine wC_lend (xs:=[.agg (eH s),.gs g 8 64 64]) hcp (by simp -dsimp (disch:=first|omega|(simp only [go_sem]; omega)) only [go_sem,seval,Nat.reduceEqDiff,Nat.reduceLeDiff]) (by simp -dsimp (disch:=first|omega|(simp only [go_sem]; omega)) only [go_sem,seval,Nat.reduceEqDiff,Nat.reduceLeDiff]) (.cons (.refl _) (.cons (hlend _ (by simp [upd])) .nil)) (by rintro _ rfl; rfl) ?_
 rintro _ rfl
 have e8:(eH (comp s (lay blk a x))).length=8:=rfl
 have hov3:=over_s (s:=s) (s':=comp s (lay blk a x)) (blk:=lay blk a x) (n:=p.length + x.length)
 rw [hc2] at hov3
 have e8a:(eH (comp s (lay blk a x))).all D.one=true:=rfl
 generalize hcs:eH (comp s (lay blk a x))=cs at *
 refine goS (nn e8 (nn hl2 e8a)) ?_
 (refine goX (nn e8 (nn hl2 (nn hov3 e8a))) ?_; (repeat' (with_reducible apply Br.mk<;>intro _)))
 refine ⟨_,_,?_,stleB rfl,p ++ x,rest2,lay blk a x,_,rfl,hpr2,n1,?_,rfl⟩
 · exact hrd
 · rw [n2,← hpx]; simp [upd]
end Go.Proofs.YtclmdhceceacoaaGreatDoor
/-
 SHA-256: the hash of a message,and digests of parts,by the program.
 Conditions: of each contract as it says.
-/
namespace Go.Proofs.YtclmdhceceacoaaGreatDoor
open Go Go.E2 CW CH
set_option linter.unusedSimpArgs false
set_option maxHeartbeats 4000000
theorem strm_w {s:H8} {blk:Str} {n i:Nat} (hi:i < 8):vCells false 1 (some (strmC s blk n)) (i * 1)=some (.d (eW (s.list.getD i 0))):=by
 have h0:(strmC s blk n)[i]?=some (eW (s.list.getD i 0)):=by
  rw [strmC,List.append_assoc,List.getElem?_append_left (by show i < 8; exact hi)]; exact H8.get s hi
 simp only [vCells,loadD,List.head?_drop,Nat.mul_one,h0]; rfl
theorem SSum_ok (m:Str) (h1:m.length≤2000000) {x:D} (hx:Strm m x):CallP Tryz.prog f_zz29 [x] (·=.d (.agg ((sha m).map eB))):=by
 refine callP_of_W fol zz29_cp ?_
 have hadd:=fun h=>Add_ok m (padOf m.length) (by omega) h hx
 have hz:zs m.length < 64:=by unfold zs; omega
 have hadd:=hadd (by rw [padOf_len]; omega)
 obtain ⟨blk,hblk,rfl⟩:=hx
 obtain ⟨z32,hz32⟩:∃ z,z=zr 32 (D.int .u8 0):=⟨_,rfl⟩
 have z32l:z32.length=32:=by rw [hz32]; rfl
 have z32d:List.drop 32 z32=[]:=by rw [hz32]; rfl
 have z32e:zr 32 (D.int .u8 0)=z32:=hz32.symm
 have hl:=strmC_len (s:=CH.hb m (m.length / 64)) (n:=m.length) hblk.len
 have hall:=strm_all (s:=CH.hb m (m.length / 64)) (blk:=blk) (n:=m.length)
 have hn:=strm_n (s:=CH.hb m (m.length / 64)) (n:=m.length) hblk.len
 have htk:∀ c:List D,c.length=73→List.take 73 c=c:=fun c h=>List.take_of_length_le (by omega)
 have htk1:=htk _ hl
 generalize hc0:strmC (CH.hb m (m.length / 64)) blk m.length=c0 at *
 refine goS (nn hl (nn hall z32e)) ?_
 (refine goX (nn hl (nn hall (nn hn z32e))) ?_; (repeat' (with_reducible apply Br.mk<;>intro _)))
 have e8:((8 * m.length:Nat):Int)=8 * (m.length:Int):=by omega
 refine W.loop (fun q st=>∃ (k:Nat) (out:Str),k≤zs m.length∧q=zs m.length - k∧out=128::List.replicate k 0 ∧
  st=(E [(4,.own 1 (out.map eB)),(3,.d (.int .u64 ((8 * m.length:Nat):Int))),(2,.ptr 0 2 1 0),(1,.ptr 0 1 1 0)],HB [(1,⟨1,some c0⟩),(2,⟨1,some z32⟩)],[],noGh))
  ⟨_,_,st_leB (by (simp -dsimp (disch:=first|omega|(simp only [go_sem]; omega)) only [go_sem,seval,Nat.reduceEqDiff,Nat.reduceLeDiff,e8,List.map_cons,List.map_nil,eB_mk]<;>((repeat' apply And.intro)<;>first|exact VLe.refl _|(apply vle_int; omega)|(apply vle_int; simp; done)|exact VLe.own _ _|exact VLe.nilown _|exact VLe.norm _))) rfl,0,[128],by omega,rfl,rfl,rfl⟩ ?_
 rintro q st ⟨k,out,hk,rfl,hout,rfl⟩
 have hol:out.length=1 + k:=by rw [hout,List.length_cons,List.length_replicate]; omega
 have hr:((m.length:Int) + (out.length:Int)).tmod 64=(((m.length + out.length) % 64:Nat):Int):=by rw [Int.tmod_eq_emod_of_nonneg (by omega)]; omega
 have hm:=mostBytes_eq
 by_cases h3:k < zs m.length
 case pos =>
  have h4:((((m.length + out.length) % 64:Nat):Int)=56)=False:=eq_false (by have:=mod_pad m.length k h3; omega)
  (refine goX (nn hn (nn hr h4)) ?_; (repeat' (with_reducible apply Br.mk<;>intro _)))
  refine ⟨_,_,?_,st_leB (by (simp -dsimp (disch:=first|omega|(simp only [go_sem]; omega)) only [go_sem,seval,Nat.reduceEqDiff,Nat.reduceLeDiff,List.map_append,List.map_cons,List.map_nil]<;>((repeat' apply And.intro)<;>first|exact VLe.refl _|(apply vle_int; omega)|(apply vle_int; simp; done)|exact VLe.own _ _|exact VLe.nilown _|exact VLe.norm _))) rfl,k + 1,out ++ [0],by omega,rfl,by rw [hout,List.cons_append,← List.replicate_succ'],rfl⟩
  omega
 obtain rfl:k=zs m.length:=by omega
 have h4:((((m.length + out.length) % 64:Nat):Int)=56)=True:=eq_true (by have:=mod_end m.length; omega)
 (refine goX (nn hn (nn hr h4)) ?_; (repeat' (with_reducible apply Br.mk<;>intro _)))
 refine W.loop (fun q st=>∃ (i:Nat) (o2:Str),i≤8∧q=8 - i∧o2=out ++ (be8 (8 * m.length)).take i ∧
  st=(E [(23,.d (.int .i64 (i:Int))),(4,.own 1 (o2.map eB)),(3,.d (.int .u64 ((8 * m.length:Nat):Int))),(2,.ptr 0 2 1 0),(1,.ptr 0 1 1 0)],HB [(1,⟨1,some c0⟩),(2,⟨1,some z32⟩)],[],noGh))
  ⟨_,_,stleB rfl,0,out,by omega,rfl,by simp,rfl⟩ ?_
 rintro q st ⟨i,o2,hi,rfl,ho2,rfl⟩
 have hol2:o2.length=out.length + i:=by rw [ho2,List.length_append,List.length_take]; show _ + min i 8=_; omega
 by_cases h5:(i:Int) < 8
 case pos =>
  have hib:i < (be8 (8 * m.length)).length:=by show i < 8; omega
  have hsh:=shr_u64 (8 * m.length) (k:=56 - 8 * i) (by omega)
  rw [show ((56 - 8 * i:Nat):Int)=56 - 8 * (i:Int) from by omega] at hsh
  have hcv:=conv_u8 (8 * m.length / 2 ^ (56 - 8 * i))
  (refine goX (nn h5 (nn hsh hcv)) ?_; (repeat' (with_reducible apply Br.mk<;>intro _)))
  refine ⟨_,_,?_,st_leB (by (simp -dsimp (disch:=first|omega|(simp only [go_sem]; omega)) only [go_sem,seval,Nat.reduceEqDiff,Nat.reduceLeDiff,List.map_append,List.map_cons,List.map_nil,eB_mk]<;>((repeat' apply And.intro)<;>first|exact VLe.refl _|(apply vle_int; omega)|(apply vle_int; simp; done)|exact VLe.own _ _|exact VLe.nilown _|exact VLe.norm _))) rfl,i + 1,o2 ++ [UInt8.ofNat (8 * m.length / 2 ^ (56 - 8 * i))],by omega,rfl,?_,rfl⟩
  · omega
  · rw [List.take_succ_eq_append_getElem hib,be8_get _ hib,← List.append_assoc,ho2]
 obtain rfl:i=8:=by omega
 have hpad:o2=padOf m.length:=by rw [ho2,hout,padOf]; rfl
 subst hpad
 (refine goX (nn h5 (nn hl (nn hall htk1))) ?_; (repeat' (with_reducible apply Br.mk<;>intro _)))
 refine wC_p hadd (by simp -dsimp (disch:=first|omega|(simp only [go_sem]; omega)) only [go_sem,seval,Nat.reduceEqDiff,Nat.reduceLeDiff]) (by simp -dsimp (disch:=first|omega|(simp only [go_sem]; omega)) only [go_sem,seval,Nat.reduceEqDiff,Nat.reduceLeDiff]) ?_
 rintro _ ⟨y,rfl,blk2,hblk2,rfl⟩
 have hsha:sha m=(CH.hb (m ++ padOf m.length) ((m ++ padOf m.length).length / 64)).bytes:=by rw [sha,List.length_append]
 rw [hsha]
 generalize CH.hb (m ++ padOf m.length) ((m ++ padOf m.length).length / 64)=s
 generalize (m ++ padOf m.length).length=n2
 have hl2:=strmC_len (s:=s) (n:=n2) hblk2.len
 have hall2:=strm_all (s:=s) (blk:=blk2) (n:=n2)
 have hld:List.drop 73 c0=[]:=List.drop_of_length_le (by omega)
 have hw:=fun i (hi:i < 8)=>strm_w (s:=s) (blk:=blk2) (n:=n2) hi
 generalize strmC s blk2 n2=c2 at *
 refine goS (nn hl2 (nn hall2 (nn hld (nn z32e hl)))) ?_
 (refine goX (nn hl2 (nn hall2 (nn hld (nn z32e hl)))) ?_; (repeat' (with_reducible apply Br.mk<;>intro _)))
 have hbl:=H8.bytes_len s
 refine W.loop (fun q st=>∃ (i:Nat) (c:List D),i≤32∧q=32 - i∧c.length=32∧c.take i=(s.bytes.take i).map eB ∧
  st=(E [(40,.d (.int .i64 (i:Int))),(6,.ptr 0 6 1 0),(2,.ptr 0 2 1 0),(1,.ptr 0 1 1 0)],
   HB [(1,⟨1,some c2⟩),(2,⟨1,some z32⟩),(6,⟨1,some c⟩)],[],noGh))
  ⟨_,_,stleB rfl,0,z32,by omega,rfl,z32l,rfl,rfl⟩ ?_
 rintro q st ⟨i,c,hi,rfl,hcl,hct,rfl⟩
 by_cases h2:(i:Int) < 32
 case pos =>
  have hib:i < s.bytes.length:=by omega
  have q1:(i:Int).tdiv 4=((i / 4:Nat):Int):=by rw [Int.tdiv_eq_ediv_of_nonneg (by omega)]; omega
  have q2:(i:Int).tmod 4=((i % 4:Nat):Int):=by rw [Int.tmod_eq_emod_of_nonneg (by omega)]; omega
  have hg:=hw (i / 4) (by omega)
  have hby:=bytes_get s hib
  generalize s.list.getD (i / 4) 0=x at hg hby
  have hsh:=shr_w x (k:=24 - 8 * (i % 4)) (by omega)
  rw [show ((24 - 8 * (i % 4):Nat):Int)=24 - 8 * ((i % 4:Nat):Int) from by omega] at hsh
  have hcv:=conv_u8w (x.toNat / 2 ^ (24 - 8 * (i % 4)))
  have hfit:i * 1 + 1≤c.length:=by omega
  (refine goX (nn h2 (nn q1 (nn q2 (nn hg (nn hsh (nn hcv hfit)))))) ?_; (repeat' (with_reducible apply Br.mk<;>intro _)))
  obtain ⟨e1,e2⟩:=setB hcl hct hib (by omega)
  rw [hby] at e1 e2
  refine ⟨_,_,?_,stleB rfl,i + 1,_,by omega,rfl,?_,?_,rfl⟩
  · omega
  · rw [Nat.mul_one]; exact e1
  · rw [Nat.mul_one]; exact e2
 obtain rfl:i=32:=by omega
 rw [List.take_of_length_le (by omega),List.take_of_length_le (by omega)] at hct
 subst hct
 have hbn:(s.bytes.map eB).length=32:=hcl
 have htk2:List.take 32 (s.bytes.map eB)=s.bytes.map eB:=List.take_of_length_le (by omega)
 have hall3:(s.bytes.map eB).all D.one=true:=by rw [List.all_map,List.all_eq_true]; intro x _; rfl
 generalize s.bytes.map eB=cs at hbn htk2 hall3 ⊢
 (refine goX (nn h2 (nn hbn (nn htk2 (nn hall3 (nn z32l z32d))))) ?_; (repeat' (with_reducible apply Br.mk<;>intro _)))
 exact Fin.eq (r:=.d (.agg cs)) (by simp -dsimp (disch:=first|omega|(simp only [go_sem]; omega)) only [go_sem,seval,Nat.reduceEqDiff,Nat.reduceLeDiff,hbn,htk2,hall3]) ⟨rfl,rfl,rfl⟩
@[go_sem] theorem strs_all (l:List Str):(l.map D.str).all (sizeOk 1)=true:=by rw [List.all_map,List.all_eq_true]; intro x _; rfl
def eDg (d:List UInt8):D:=.agg (d.map eB)
theorem inp_take {tag:Nat} {parts:List Str} {k:Nat} (h:k < parts.length):inp tag (parts.take (k + 1))=inp tag (parts.take k) ++ bytesB parts[k]:=by
 simp only [inp,List.take_succ_eq_append_getElem h,List.map_append,List.flatten_append,List.map_cons,List.map_nil,List.flatten_cons,List.flatten_nil,List.append_nil,List.cons_append]
theorem bytesB_len {s:Str} (h:s.length≤1000000):(bytesB s).length≤s.length + 10:=by
 have:=intB_len (len_i64 h)
 rw [bytesB,List.length_append]; omega
theorem inp_len {tag:Nat} {parts:List Str} {c:Nat} (hc:c≤1000000) (h:∀ s ∈ parts,s.length≤c):(inp tag parts).length≤1 + parts.length * (c + 10):=by
 rw [inp,List.length_cons]
 suffices ((parts.map bytesB).flatten).length≤parts.length * (c + 10) by omega
 induction parts with
 | nil=>simp
 | cons s l ih =>
  have h1:=h s (by simp)
  have h2:=bytesB_len (s:=s) (by omega)
  have h3:=ih fun x hx=>h x (by simp [hx])
  simp only [List.map_cons,List.flatten_cons,List.length_append,List.length_cons,Nat.add_mul]
  omega
theorem Strm.cells {m:Str} {x:D} (h:Strm m x):∃ c,x=.agg c∧c.length=73∧c.all D.one=true∧List.take 73 c=c∧List.drop 73 c=[]:=by
 obtain ⟨blk,hb,rfl⟩:=h
 have hl:=strmC_len (s:=CH.hb m (m.length / 64)) (n:=m.length) hb.len
 exact ⟨_,rfl,hl,strm_all,List.take_of_length_le (by omega),List.drop_of_length_le (by omega)⟩
theorem Of_ok (tag:Int) (h0:0≤tag∧tag < 256) (parts:List Str) (h1:parts.length≤64) (h2:∀ s ∈ parts,s.length≤2000) :
 CallP Tryz.prog f_zz64 [.int .i64 tag,.list (parts.map .str)] (·=.d (eDg (dig tag.toNat parts))):=by
 refine CallP.of_deep (callT_of_W fol zz64_cp ?_)
 obtain ⟨z16,hz16⟩:∃ z,z=zr 16 (D.int .u8 0):=⟨_,rfl⟩
 have z16e:zr 16 (D.int .u8 0)=z16:=hz16.symm
 refine goS z16e ?_
 (refine goX z16e ?_; (repeat' (with_reducible apply Br.mk<;>intro _)))
 have hb1:=Begin_ok
 refine wC_p hb1 (by simp -dsimp (disch:=first|omega|(simp only [go_sem]; omega)) only [go_sem,seval,Nat.reduceEqDiff,Nat.reduceLeDiff]) (by simp -dsimp (disch:=first|omega|(simp only [go_sem]; omega)) only [go_sem,seval,Nat.reduceEqDiff,Nat.reduceLeDiff]) ?_
 rintro _ ⟨x,rfl,hx⟩
 have ha:=Add_ok [] [UInt8.ofNat tag.toNat] (by decide) (by simp) hx
 refine goS trivial ?_
 (refine goX trivial ?_; (repeat' (with_reducible apply Br.mk<;>intro _)))
 refine wC_p ha (by simp -dsimp (disch:=first|omega|(simp only [go_sem]; omega)) only [go_sem,seval,Nat.reduceEqDiff,Nat.reduceLeDiff]) (by simp -dsimp (disch:=first|omega|(simp only [go_sem]; omega)) only [go_sem,seval,Nat.reduceEqDiff,Nat.reduceLeDiff]) ?_
 rintro _ ⟨y,rfl,hy⟩
 obtain ⟨z73,hz73⟩:∃ z,z=zr 8 (D.int .u32 0) ++ zr 64 (D.int .u8 0) ++ [D.int .u64 0]:=⟨_,rfl⟩
 have z73e:=hz73.symm
 have z73l:z73.length=73:=by rw [hz73]; rfl
 have z73d:List.drop 73 z73=[]:=by rw [hz73]; rfl
 have hy:Strm (inp tag.toNat (parts.take 0)) y:=hy
 obtain ⟨c,rfl,c1,c2,c3,c4⟩:=hy.cells
 refine goS (nn z73e (nn z73l (nn z73d (nn c1 c2)))) ?_
 (refine goX (nn z73e (nn z73l (nn z73d (nn c1 c2)))) ?_; (repeat' (with_reducible apply Br.mk<;>intro _)))
 clear c1 c2 c3 c4 hx ha hb1
 refine W.loop (fun q st=>∃ (k:Nat) (c:List D),k≤parts.length∧q=parts.length - k∧Strm (inp tag.toNat (parts.take k)) (.agg c) ∧
  st=(E [(17,.d (.int .i64 (k:Int))),(16,.d (.int .i64 (parts.length:Int))),(15,.d (.list (parts.map D.str))),(5,.ptr 0 5 1 0),(4,.ptr 0 4 1 0)],HB [(4,⟨1,some z16⟩),(5,⟨1,some c⟩)],[],noGh))
  ⟨_,_,stleB rfl,0,c,by omega,rfl,hy,rfl⟩ ?_
 clear hy
 rintro q st ⟨k,c,hk,rfl,hy,rfl⟩
 obtain ⟨c',e,c1,c2,c3,c4⟩:=hy.cells
 cases e
 have hil:=inp_len (tag:=tag.toNat) (parts:=parts.take k) (c:=2000) (by omega) fun s hs=>h2 s (List.mem_of_mem_take hs)
 rw [List.length_take] at hil
 have hil2:(inp tag.toNat (parts.take k)).length≤200000:=by
  have:min k parts.length * (2000 + 10)≤64 * 2010:=Nat.mul_le_mul_right _ (by omega)
  omega
 by_cases h3:(k:Int) < (parts.length:Int)
 case pos =>
  have hk':k < parts.length:=by omega
  have hs:=h2 parts[k] (List.getElem_mem hk')
  have hBy:=Bytes_ok parts[k] (by omega)
  have hbl:=bytesB_len (s:=parts[k]) (by omega)
  have ha:=Add_ok (inp tag.toNat (parts.take k)) (bytesB parts[k]) (by omega) (by omega) hy
  rw [← inp_take hk'] at ha
  (refine goX1 (nn h3 (nn c1 (nn c2 c3))) (hBy) ?_; (repeat' (with_reducible apply Br.mk<;>intro _)))
  refine wC_p ha (by simp -dsimp (disch:=first|omega|(simp only [go_sem]; omega)) only [go_sem,seval,Nat.reduceEqDiff,Nat.reduceLeDiff]) (by simp -dsimp (disch:=first|omega|(simp only [go_sem]; omega)) only [go_sem,seval,Nat.reduceEqDiff,Nat.reduceLeDiff]) ?_
  rintro _ ⟨y2,rfl,hy2⟩
  obtain ⟨d,rfl,d1,d2,d3,d4⟩:=hy2.cells
  refine goS (nn c1 (nn d1 (nn d2 c4))) ?_
  (refine goX (nn c1 (nn d1 (nn d2 c4))) ?_; (repeat' (with_reducible apply Br.mk<;>intro _)))
  refine ⟨_,_,?_,stleB rfl,k + 1,d,hk',rfl,hy2,rfl⟩
  omega
 obtain rfl:k=parts.length:=by omega
 rw [List.take_length] at hy hil2
 have hsum:=SSum_ok (inp tag.toNat parts) (by omega) hy
 have hsl:=sha_len (inp tag.toNat parts)
 have hdg:dig tag.toNat parts=(sha (inp tag.toNat parts)).take 16:=rfl
 have hdl:=dig_len tag.toNat parts
 rw [eDg]
 rw [hdg] at hdl ⊢
 generalize sha (inp tag.toNat parts)=h at hsum hsl hdl ⊢
 have e1:(h.map eB).length=32:=by rw [List.length_map,hsl]
 have e2:(h.map eB).all D.one=true:=by rw [List.all_map,List.all_eq_true]; intro x _; rfl
 have e3:List.take 32 (h.map eB)=h.map eB:=List.take_of_length_le (by omega)
 have e4:List.take 16 (h.map eB)=(h.take 16).map eB:=by rw [List.map_take]
 have e5:((h.take 16).map eB).length=16:=by rw [List.length_map,hdl]
 have e6:((h.take 16).map eB).all D.one=true:=by rw [List.all_map,List.all_eq_true]; intro x _; rfl
 have e7:List.take 16 ((h.take 16).map eB)=(h.take 16).map eB:=List.take_of_length_le (by omega)
 have z16l:z16.length=16:=by rw [hz16]; rfl
 have z16d:List.drop 16 z16=[]:=by rw [hz16]; rfl
 obtain ⟨z32,hz32⟩:∃ z,z=zr 32 (D.int .u8 0):=⟨_,rfl⟩
 have z32l:z32.length=32:=by rw [hz32]; rfl
 have z32d:List.drop 32 z32=[]:=by rw [hz32]; rfl
 have z32e:zr 32 (D.int .u8 0)=z32:=hz32.symm
 generalize (h.take 16).map eB=dg at *
 generalize h.map eB=hh at *
 (refine goX1 (nn h3 (nn c1 (nn c2 c3))) (hsum) ?_; (repeat' (with_reducible apply Br.mk<;>intro _)))
 refine wNew_mk fun g hg=>?_
 have eG:∀ v,(noGh.set g v).c g=v:=fun v=>by simp [upd]
 refine goS (nn z32e (nn z32l (nn z32d (nn e1 (nn e2 (nn e3 eG)))))) ?_
 (refine goX (nn z32e (nn z32l (nn z32d (nn e1 (nn e2 (nn e3 (nn eG (nn e4 (nn e5 (nn e6 (nn e7 (nn z16l z16d)))))))))))) ?_; (repeat' (with_reducible apply Br.mk<;>intro _)))
 exact Fin.eq (r:=.d (.agg dg)) (by simp -dsimp (disch:=first|omega|(simp only [go_sem]; omega)) only [go_sem,seval,Nat.reduceEqDiff,Nat.reduceLeDiff,e5,e7,e6]) ⟨rfl,_,.refl _,rfl⟩
end Go.Proofs.YtclmdhceceacoaaGreatDoor
/-
 Digests of parts,by the reference; digests of numbers,by both.
 Conditions: of each contract as it says.
-/
namespace Go.Proofs.YtclmdhceceacoaaGreatDoor
open Go Go.E2 CW CH
set_option linter.unusedSimpArgs false
set_option maxHeartbeats 4000000
theorem dgOk {d:List UInt8} (h:d.length=16):(d.map eB).length=16∧List.take 16 (d.map eB)=d.map eB∧(d.map eB).all D.one=true∧List.drop 16 (d.map eB)=[]:=by
 have h1:(d.map eB).length=16:=by rw [List.length_map,h]
 exact ⟨h1,List.take_of_length_le (by omega),by rw [List.all_map,List.all_eq_true]; intro x _; rfl,List.drop_of_length_le (by omega)⟩
theorem cell_get {l:List UInt8} {i:Nat} (h:i < l.length):vCells false 1 (some (l.map eB)) (i * 1)=some (.d (eB l[i])):=by
 have:(l.map eB)[i]?=some (eB l[i]):=by rw [List.getElem?_map,List.getElem?_eq_getElem h]; rfl
 simp only [vCells,loadD,List.head?_drop,Nat.mul_one,this]; rfl
theorem Short_ok (b:Str) (hb:b.length≤1000000):CallP Tryz.prog f_zz18 [.list (b.map eB)] (·=.d (eDg ((sha b).take 16))):=by
 refine callP_of_W fol zz18_cp ?_
 have hs:=rSum_ok b hb
 have hl:=sha_len b
 generalize sha b=h at hs hl ⊢
 have e1:(h.map eB).length=32:=by rw [List.length_map,hl]
 have e2:(h.map eB).all D.one=true:=by rw [List.all_map,List.all_eq_true]; intro x _; rfl
 have e3:List.take 32 (h.map eB)=h.map eB:=List.take_of_length_le (by omega)
 obtain ⟨z32,hz32⟩:∃ z,z=zr 32 (D.int .u8 0):=⟨_,rfl⟩
 have z32l:z32.length=32:=by rw [hz32]; rfl
 have z32d:List.drop 32 z32=[]:=by rw [hz32]; rfl
 have z32e:zr 32 (D.int .u8 0)=z32:=hz32.symm
 obtain ⟨z16,hz16⟩:∃ z,z=zr 16 (D.int .u8 0):=⟨_,rfl⟩
 have z16l:z16.length=16:=by rw [hz16]; rfl
 have z16d:List.drop 16 z16=[]:=by rw [hz16]; rfl
 have z16t:List.take 16 z16=z16:=by rw [hz16]; rfl
 have z16a:z16.all D.one=true:=by rw [hz16]; rfl
 have z16e:zr 16 (D.int .u8 0)=z16:=hz16.symm
 obtain ⟨hh,hhe⟩:∃ hh,hh=h.map eB:=⟨_,rfl⟩
 rw [← hhe] at e1 e2 e3 hs
 refine goS (nn z16e (nn z16l (nn z16d (nn z32e (nn z32l z32d))))) ?_
 (refine goX1 (nn z16e (nn z16l (nn z16d (nn z16t (nn z16a (nn z32e (nn z32l (nn z32d (nn e1 (nn e2 e3)))))))))) (hs) ?_; (repeat' (with_reducible apply Br.mk<;>intro _)))
 refine W.loop (fun q st=>∃ (i:Nat) (c:List D),i≤16∧q=16 - i∧c.length=16∧c.take i=(h.take i).map eB ∧
  st=(E [(5,.d (.int .i64 (i:Int))),(4,.ptr 0 4 1 0),(3,.ptr 0 3 1 0),(2,.ptr 0 2 1 0)],
   HB [(2,⟨1,some z16⟩),(3,⟨1,some hh⟩),(4,⟨1,some c⟩)],[],noGh))
  ⟨_,_,stleB rfl,0,z16,by omega,rfl,z16l,rfl,rfl⟩ ?_
 rintro q st ⟨i,c,hi,rfl,hcl,hct,rfl⟩
 by_cases h2:(i:Int) < 16
 case pos =>
  have hib:i < h.length:=by omega
  have hg:=cell_get hib
  rw [← hhe,eB_mk] at hg
  have hfit:i * 1 + 1≤c.length:=by omega
  obtain ⟨a1,a2⟩:=setB hcl hct hib (by omega)
  (refine goX (nn h2 (nn hg hfit)) ?_; (repeat' (with_reducible apply Br.mk<;>intro _)))
  refine ⟨_,_,?_,stleB rfl,i + 1,_,by omega,rfl,?_,?_,rfl⟩
  · omega
  · rw [Nat.mul_one]; exact a1
  · rw [Nat.mul_one]; exact a2
 obtain rfl:i=16:=by omega
 rw [List.take_of_length_le (by omega)] at hct
 have hdl:(h.take 16).length=16:=by rw [List.length_take]; omega
 obtain ⟨d1,d2,d3,d4⟩:=dgOk hdl
 rw [← hct] at d1 d2 d3 d4
 (refine goX (nn h2 (nn d1 (nn d2 (nn d3 (nn z16l z16d))))) ?_; (repeat' (with_reducible apply Br.mk<;>intro _)))
 exact Fin.eq (r:=.d (.agg c)) (by simp -dsimp (disch:=first|omega|(simp only [go_sem]; omega)) only [go_sem,seval,Nat.reduceEqDiff,Nat.reduceLeDiff,d1,d2,d3]) ⟨rfl,rfl,by rw [hct]; rfl⟩
theorem Input_ok (tag:Int) (h0:0≤tag∧tag < 256) (parts:List Str) (h1:parts.length≤64) (h2:∀ s ∈ parts,s.length≤2000) :
 CallP Tryz.prog f_zz17 [.int .i64 tag,.list (parts.map .str)] (·=.d (.list ((inp tag.toNat parts).map eB))):=by
 refine callP_of_W fol zz17_cp ?_
 have et:[D.int .u8 tag]=(inp tag.toNat (parts.take 0)).map eB:=by
  have:((tag.toNat:Nat):Int)=tag:=by omega
  show _=[D.int .u8 ((UInt8.ofNat tag.toNat).toNat:Int)]
  rw [ofNat_lo (by omega),this]
 have hm:=mostBytes_eq
 refine goS trivial ?_
 (refine goX trivial ?_; (repeat' (with_reducible apply Br.mk<;>intro _)))
 refine W.loop (fun q st=>∃ (k:Nat) (out:Str),k≤parts.length∧q=parts.length - k∧out=inp tag.toNat (parts.take k) ∧
  st=(E [(6,.d (.int .i64 (k:Int))),(5,.own 1 (out.map eB)),(1,.d (.list (parts.map D.str)))],HB [],[],noGh))
  ⟨_,_,st_le (by (simp -dsimp (disch:=first|omega|(simp only [go_sem]; omega)) only [go_sem,seval,Nat.reduceEqDiff,Nat.reduceLeDiff,et]<;>((repeat' apply And.intro)<;>first|exact VLe.refl _|(apply vle_int; omega)|(apply vle_int; simp; done)|exact VLe.own _ _|exact VLe.nilown _|exact VLe.norm _))),0,_,by omega,rfl,rfl,rfl⟩ ?_
 rintro q st ⟨k,out,hk,rfl,hout,rfl⟩
 by_cases h3:(k:Int) < (parts.length:Int)
 case pos =>
  have hk':k < parts.length:=by omega
  have hs:=h2 parts[k] (List.getElem_mem hk')
  have hBy:=rBytes_ok parts[k] (by omega)
  have hbl:=bytesB_len (s:=parts[k]) (by omega)
  have hil:=inp_len (tag:=tag.toNat) (parts:=parts.take k) (c:=2000) (by omega) fun s hs=>h2 s (List.mem_of_mem_take hs)
  rw [List.length_take,← hout] at hil
  have hil2:out.length≤200000:=by
   have:min k parts.length * (2000 + 10)≤64 * 2010:=Nat.mul_le_mul_right _ (by omega)
   omega
  (refine goX1 h3 (hBy) ?_; (repeat' (with_reducible apply Br.mk<;>intro _)))
  refine ⟨_,_,?_,st_le (by (simp -dsimp (disch:=first|omega|(simp only [go_sem]; omega)) only [go_sem,seval,Nat.reduceEqDiff,Nat.reduceLeDiff,List.map_append]<;>((repeat' apply And.intro)<;>first|exact VLe.refl _|(apply vle_int; omega)|(apply vle_int; simp; done)|exact VLe.own _ _|exact VLe.nilown _|exact VLe.norm _))),k + 1,out ++ bytesB parts[k],hk',rfl,by rw [hout,inp_take hk'],rfl⟩
  omega
 obtain rfl:k=parts.length:=by omega
 rw [List.take_length] at hout
 (refine goX h3 ?_; (repeat' (with_reducible apply Br.mk<;>intro _)))
 exact Fin.p rfl (by rw [hout])
theorem rOf_ok (tag:Int) (h0:0≤tag∧tag < 256) (parts:List Str) (h1:parts.length≤64) (h2:∀ s ∈ parts,s.length≤2000) :
 CallP Tryz.prog f_zz30 [.int .i64 tag,.list (parts.map .str)] (·=.d (eDg (dig tag.toNat parts))):=by
 refine callP_of_W fol zz30_cp ?_
 have hi:=Input_ok tag h0 parts h1 h2
 have hil:=inp_len (tag:=tag.toNat) (parts:=parts) (c:=2000) (by omega) h2
 have hil2:(inp tag.toNat parts).length≤1000000:=by
  have:parts.length * (2000 + 10)≤64 * 2010:=Nat.mul_le_mul_right _ h1
  omega
 have hs:=Short_ok _ hil2
 have hdl:=dig_len tag.toNat parts
 rw [← dig] at hs
 obtain ⟨d1,d2,d3,d4⟩:=dgOk hdl
 rw [eDg] at hs ⊢
 generalize (dig tag.toNat parts).map eB=c at *
 obtain ⟨z16,hz16⟩:∃ z,z=zr 16 (D.int .u8 0):=⟨_,rfl⟩
 have z16l:z16.length=16:=by rw [hz16]; rfl
 have z16d:List.drop 16 z16=[]:=by rw [hz16]; rfl
 have z16e:zr 16 (D.int .u8 0)=z16:=hz16.symm
 refine goS (nn z16e (nn z16l z16d)) ?_
 (refine goX2 (nn z16e (nn z16l (nn z16d (nn d1 d3)))) (hi) (hs) ?_; (repeat' (with_reducible apply Br.mk<;>intro _)))
 exact Fin.eq (r:=.d (.agg c)) (by simp -dsimp (disch:=first|omega|(simp only [go_sem]; omega)) only [go_sem,seval,Nat.reduceEqDiff,Nat.reduceLeDiff,d1,d2,d3]) ⟨rfl,rfl,rfl⟩
theorem nums_len {l:List Int} (h:∀ n ∈ l,i64 n):∀ s ∈ l.map intB,s.length≤2000:=by
 intro s hs
 obtain ⟨n,hn,rfl⟩:=List.mem_map.1 hs
 have:=intB_len (h n hn)
 omega
theorem of_ok (tag:Int) (h0:0≤tag∧tag < 256) (l:List Int) (h1:l.length≤64) (h2:∀ n ∈ l,i64 n) :
 CallP Tryz.prog f_zz63 [.int .i64 tag,.list (l.map eI)] (·=.d (eDg (dig tag.toNat (l.map intB)))):=by
 refine callP_of_W fol zz63_cp ?_
 obtain ⟨z16,hz16⟩:∃ z,z=zr 16 (D.int .u8 0):=⟨_,rfl⟩
 have z16l:z16.length=16:=by rw [hz16]; rfl
 have z16d:List.drop 16 z16=[]:=by rw [hz16]; rfl
 have z16e:zr 16 (D.int .u8 0)=z16:=hz16.symm
 have hm:=mostBytes_eq
 refine goS z16e ?_
 (refine goX z16e ?_; (repeat' (with_reducible apply Br.mk<;>intro _)))
 refine W.loop (fun q st=>∃ (k:Nat) (out:List Str),k≤l.length∧q=l.length - k∧out=(l.take k).map intB ∧
  st=(E [(10,.d (.int .i64 (k:Int))),(9,.d (.int .i64 (l.length:Int))),(8,.d (.list (l.map eI))),(5,.own 1 (out.map D.str)),(4,.ptr 0 4 1 0),(0,.d (.int .i64 tag))],HB [(4,⟨1,some z16⟩)],[],noGh))
  ⟨_,_,stleB rfl,0,[],by omega,rfl,rfl,rfl⟩ ?_
 rintro q st ⟨k,out,hk,rfl,hout,rfl⟩
 have hol:out.length=k:=by rw [hout,List.length_map,List.length_take]; omega
 by_cases h3:(k:Int) < (l.length:Int)
 case pos =>
  have hk':k < l.length:=by omega
  have hI:=Int_ok l[k] (h2 _ (List.getElem_mem hk'))
  (refine goX1 h3 (hI) ?_; (repeat' (with_reducible apply Br.mk<;>intro _)))
  refine ⟨_,_,?_,st_leB (by (simp -dsimp (disch:=first|omega|(simp only [go_sem]; omega)) only [go_sem,seval,Nat.reduceEqDiff,Nat.reduceLeDiff,List.map_append,List.map_cons,List.map_nil]<;>((repeat' apply And.intro)<;>first|exact VLe.refl _|(apply vle_int; omega)|(apply vle_int; simp; done)|exact VLe.own _ _|exact VLe.nilown _|exact VLe.norm _))) rfl,k + 1,out ++ [intB l[k]],hk',rfl,by rw [hout,List.take_succ_eq_append_getElem hk',List.map_append]; rfl,rfl⟩
  omega
 obtain rfl:k=l.length:=by omega
 rw [List.take_length] at hout
 subst hout
 have ho:=Of_ok tag h0 (l.map intB) (by rw [List.length_map]; exact h1) (nums_len h2)
 have hdl:=dig_len tag.toNat (l.map intB)
 obtain ⟨d1,d2,d3,d4⟩:=dgOk hdl
 rw [eDg] at ho ⊢
 generalize (dig tag.toNat (l.map intB)).map eB=c at *
 (refine goX1 (nn h3 (nn z16l (nn z16d (nn d1 d3)))) (ho) ?_; (repeat' (with_reducible apply Br.mk<;>intro _)))
 exact Fin.eq (r:=.d (.agg c)) (by simp -dsimp (disch:=first|omega|(simp only [go_sem]; omega)) only [go_sem,seval,Nat.reduceEqDiff,Nat.reduceLeDiff,d1,d2,d3]) ⟨rfl,rfl,rfl⟩
theorem numbers_ok (l:List Int) (h1:l.length≤1000) (h2:∀ n ∈ l,i64 n):CallP Tryz.prog f_zz11 [.list (l.map eI)] (·=.d (.list ((l.map intB).map D.str))):=by
 refine callP_of_W fol zz11_cp ?_
 have hm:=mostBytes_eq
 refine goS trivial ?_
 (refine goX trivial ?_; (repeat' (with_reducible apply Br.mk<;>intro _)))
 refine W.loop (fun q st=>∃ (k:Nat) (out:List Str),k≤l.length∧q=l.length - k∧out=(l.take k).map intB ∧
  st=(E [(4,.d (.int .i64 (k:Int))),(3,.own 1 (out.map D.str)),(0,.d (.list (l.map eI)))],HB [],[],noGh))
  ⟨_,_,stle,0,[],by omega,rfl,rfl,rfl⟩ ?_
 rintro q st ⟨k,out,hk,rfl,hout,rfl⟩
 have hol:out.length=k:=by rw [hout,List.length_map,List.length_take]; omega
 by_cases h3:(k:Int) < (l.length:Int)
 case pos =>
  have hk':k < l.length:=by omega
  have hI:=rInt_ok l[k] (h2 _ (List.getElem_mem hk'))
  (refine goX1 h3 (hI) ?_; (repeat' (with_reducible apply Br.mk<;>intro _)))
  refine ⟨_,_,?_,st_le (by (simp -dsimp (disch:=first|omega|(simp only [go_sem]; omega)) only [go_sem,seval,Nat.reduceEqDiff,Nat.reduceLeDiff,List.map_append,List.map_cons,List.map_nil]<;>((repeat' apply And.intro)<;>first|exact VLe.refl _|(apply vle_int; omega)|(apply vle_int; simp; done)|exact VLe.own _ _|exact VLe.nilown _|exact VLe.norm _))),k + 1,out ++ [intB l[k]],hk',rfl,by rw [hout,List.take_succ_eq_append_getElem hk',List.map_append]; rfl,rfl⟩
  omega
 obtain rfl:k=l.length:=by omega
 rw [List.take_length] at hout
 (refine goX h3 ?_; (repeat' (with_reducible apply Br.mk<;>intro _)))
 exact Fin.p rfl (by rw [hout])
end Go.Proofs.YtclmdhceceacoaaGreatDoor
