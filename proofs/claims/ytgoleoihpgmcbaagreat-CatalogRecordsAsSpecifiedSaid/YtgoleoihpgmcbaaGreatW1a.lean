/-
 Wire: integers read.
 Conditions: of each contract as it says.
-/
import Derived.Test.YtgoleoihpgmcbaaGreatS01
import Derived.Test.YtgoleoihpgmcbaaGreatT39z
namespace Go.Proofs.YtgoleoihpgmcbaaGreat.Wire
open Go Go.E2 CW
set_option linter.unusedSimpArgs false
set_option maxHeartbeats 4000000
theorem eB_mk (b:UInt8):eB b=.int .u8 b.toNat:=rfl
abbrev eI (n:Int):D:=.int .i64 n
@[go_sem] theorem eI_all (l:List Int):(l.map eI).all (sizeOk 1)=true:=by simp [List.all_map,Function.comp_def,sizeOk,D.cells,D.one]
abbrev oI (r:Int × Int × Int):AV:=.tup [eI r.1,eI r.2.1,eI r.2.2]
theorem drop_at {α:Type} {l:List α} {k:Nat} (h:k < l.length):l.drop k=l[k]::l.drop (k + 1):=List.drop_eq_getElem_cons h
theorem GetInt_ok (b:Str):CallP Tryz.prog f_zz93 [.list (b.map eB)] (·=oI (getI b)):=by
 refine callP_of_W fol zz93_cp ?_
 refine goS trivial ?_
 refine goR trivial ?_
 refine W.loop (fun m st=>∃ k z,k≤b.length∧k≤9∧m=b.length - k∧z < 128 ^ k∧getI b=getP k z (b.drop k) ∧
  st=(E [(5,.d (.int .u64 ((z:Nat):Int))),(6,.d (eI 0)),(9,.d (.list (b.map eB))),(10,.d (eI b.length)),(11,.d (eI k))],HB [],[],noGh))
  ⟨_,_,stle,0,0,by omega,by omega,rfl,by decide,rfl,rfl⟩ ?_
 rintro m st ⟨k,z,hk,hk9,rfl,hz,hg,rfl⟩
 by_cases h1:(k:Int) < (b.length:Int)
 case neg =>
  have e:b.drop k=[]:=List.drop_of_length_le (by omega)
  rw [e,getP] at hg
  (refine goX h1 ?_; (repeat' (with_reducible apply Br.mk<;>intro _)))
  exact Fin.p rfl (by rw [hg])
 have hk':k < b.length:=by omega
 have hc:=b[k].toNat_lt
 rw [drop_at hk',getP] at hg
 have hd:b[k].toNat % 128 < 128:=Nat.mod_lt _ (by decide)
 have w1:=w_and127 b[k]
 by_cases hbad:(k=9∧1 < b[k].toNat)∨(0 < k∧b[k].toNat=0)
 case pos =>
  rw [if_pos hbad] at hg
  (refine goX (nn h1 eB_mk) ?_; (repeat' (with_reducible apply Br.mk<;>intro _)))
  all_goals first|(exfalso; omega)|exact Fin.p rfl (by rw [hg])
 rw [if_neg hbad] at hg
 have hp:z < 9223372036854775808∧b[k].toNat % 128 * 128 ^ k≤9223372036854775808:=by
  by_cases h9:k=9
  · subst h9
    have e:(128:Nat) ^ 9=9223372036854775808:=by decide
    have:b[9].toNat % 128 * 128 ^ 9≤1 * 128 ^ 9:=Nat.mul_le_mul_right _ (by omega)
    omega
  · have h8:(128:Nat) ^ k≤128 ^ 8:=Nat.pow_le_pow_right (by decide) (by omega)
    have e:(128:Nat) ^ 8=72057594037927936:=by decide
    have:b[k].toNat % 128 * 128 ^ k≤127 * 128 ^ 8:=Nat.mul_le_mul (by omega) h8
    omega
 obtain ⟨hp1,hp2⟩:=hp
 have w2:=w_shl7 (x:=b[k].toNat % 128) (k:=k) hk9 (by omega)
 have w3:=w_or7 (d:=b[k].toNat % 128) hz (by omega)
 by_cases hlo:b[k].toNat < 128
 case pos =>
  rw [if_pos hlo] at hg
  have hy:z + b[k].toNat % 128 * 128 ^ k < 18446744073709551616:=by omega
  have w4:=w_and1 (z:=z + b[k].toNat % 128 * 128 ^ k) (by omega)
  have w5:=w_shr1 (z + b[k].toNat % 128 * 128 ^ k)
  have w6:=w_unzig (z:=z + b[k].toNat % 128 * 128 ^ k) (by omega)
  generalize z + b[k].toNat % 128 * 128 ^ k=y at *
  (refine goX (nn h1 (nn eB_mk (nn w1 (nn w2 (nn w3 (nn w4 (nn w5 w6))))))) ?_; (repeat' (with_reducible apply Br.mk<;>intro _)))
  all_goals first|(exfalso; omega)|exact Fin.p rfl (by rw [hg])
 case neg =>
  rw [if_neg hlo] at hg
  (refine goX (nn h1 (nn eB_mk (nn w1 (nn w2 w3)))) ?_; (repeat' (with_reducible apply Br.mk<;>intro _)))
  all_goals first
   | (exfalso; omega)
   | (refine ⟨_,_,?_,stle,k + 1,z + b[k].toNat % 128 * 128 ^ k,hk',by omega,rfl,?_,hg,rfl⟩
      · omega
      · rw [Nat.pow_succ]
        have:b[k].toNat % 128 * 128 ^ k≤127 * 128 ^ k:=Nat.mul_le_mul_right _ (by omega)
        omega)
end Go.Proofs.YtgoleoihpgmcbaaGreat.Wire
/-
 Wire: integers,byte strings and lists of integers written.
 Conditions: of each contract as it says.
-/
namespace Go.Proofs.YtgoleoihpgmcbaaGreat.Wire
open Go Go.E2 CW
set_option linter.unusedSimpArgs false
set_option maxHeartbeats 4000000
theorem hi_div {z:Nat} (h:¬ z < 128):z / 128 < z:=Nat.div_lt_self (by omega) (by decide)
theorem eB_lo {z:Nat} (h:z < 256):[D.int .u8 ((z:Nat):Int)]=[UInt8.ofNat z].map eB:=by
 show _=[D.int .u8 _]
 rw [ofNat_lo h]
theorem Int_T (n:Int) (hn:i64 n) (σ:List Hp) (G:Gh):CallT Tryz.prog f_zz101 ([.int .i64 n].map .d) σ G fun r σ' G'=>σ'=σ∧∃ x,r=.d x∧GV 1 G' x ((intB n).map eB)∧GTo .nilS x G G':=by
 refine callT_of_W fol zz101_cp ?_
 obtain ⟨x,y,w1,w2,w3⟩:=w_zig hn
 have hl:=intB_len hn
 have hz:=zig_lt hn
 have hm:=mostBytes_eq
 refine goS trivial ?_
 refine goR (nn w1 (nn w2 w3)) ?_
 refine W.loop (fun m st=>∃ z p x G1,m=z∧z < 18446744073709551616∧intB n=p ++ leb z∧GV 1 G1 x (p.map eB)∧GTo .nilS x G G1 ∧
  st=(E [(3,.d (.int .u64 ((z:Nat):Int))),(4,.d x)],HB [],σ,G1))
  ⟨_,_,stle,zig n,[],.nilS,G,rfl,hz,rfl,.nil,GTo.refl _ _,rfl⟩ ?_
 rintro m st ⟨z,p,x,G1,rfl,hz,hp,hx,hto,rfl⟩
 have hpl:p.length≤10:=by rw [hp,List.length_append] at hl; omega
 by_cases h1:(127:Int) < ((m:Nat):Int)
 case pos =>
  have h2:¬ m < 128:=by omega
  have w4:=w_or128 m
  have w5:=w_shr7 m
  rw [leb_hi h2] at hp
  rcases hx.shape with rfl|⟨b0,n0,c0,rfl⟩
  all_goals
   (refine goX (nn h1 w4) ?_; (repeat' (with_reducible apply Br.mk<;>intro _)))
   refine appV_GV2 hx (viewC_list (es:=[eB (UInt8.ofNat (m % 128 + 128))]) rfl) rfl rfl rfl (by rw [List.length_map,mostBytes_eq]; show (_ + 1) * 1≤_; omega) fun x' G2 hg hto2=>?_
   have hg:GV 1 G2 x' ((p ++ [UInt8.ofNat (m % 128 + 128)]).map eB):=by rw [List.map_append]; exact hg
   rcases hg.shape with rfl|⟨b',n',cap',rfl⟩
   all_goals
    refine goS trivial ?_
    refine goR w5 ?_
    refine ⟨_,_,?_,stle,m / 128,p ++ [UInt8.ofNat (m % 128 + 128)],_,G2,rfl,by omega,by rw [hp,List.append_assoc]; rfl,hg,hto.trans hto2,rfl⟩
    exact hi_div h2
 case neg =>
  have h2:m < 128:=by omega
  rw [leb_lo h2] at hp
  rcases hx.shape with rfl|⟨b0,n0,c0,rfl⟩
  all_goals
   (refine goX h1 ?_; (repeat' (with_reducible apply Br.mk<;>intro _)))
   refine appV_GV2 hx (viewC_list (es:=[.int .u8 ((m:Nat):Int)]) rfl) rfl rfl rfl (by rw [List.length_map,mostBytes_eq]; show (_ + 1) * 1≤_; omega) fun x' G2 hg hto2=>?_
   have hg:GV 1 G2 x' ((intB n).map eB):=by rw [hp,List.map_append,← eB_lo (by omega)]; exact hg
   rcases hg.shape with rfl|⟨b',n',cap',rfl⟩
   all_goals
    refine goS trivial ?_
    refine goR trivial ?_
    exact Fin.eq rfl ⟨rfl,_,rfl,hg,hto.trans hto2⟩
theorem Int_ok (n:Int) (hn:i64 n):CallP Tryz.prog f_zz101 [.int .i64 n] (·=.d (.list ((intB n).map eB))) :=
 CallP.of_deep ((Int_T n hn [] noGh).mono fun r σ' G' ⟨h1,x,h2,h3,_⟩=>⟨h1,_,by rw [h2]; exact .d _ _ h3.dr,rfl⟩)
theorem appV_str_list {d:Option Nat} {by_:Nat} {z:List D} {x:D} {s:List UInt8} {ρ:Env} {L:Hp} {σ:List Hp} {G:Gh} {K:St→Prop} {hk:Hide K}:appV d 1 by_ z x (.str s) ρ L σ G hk=appV d 1 by_ z x (.list (s.map eB)) ρ L σ G hk:=by
 have e:viewS G 1 (.list (s.map eB))=viewS G 1 (.str s):=by
  rw [viewS_of (viewC_list (eB_all s)),List.length_map]
  exact congrArg (fun c=>some (s.length,c)) (flat_u8s s)
 unfold appV; rw [e]
theorem len_i64 {n:Nat} (h:n≤1000000):i64 (n:Int):=⟨by omega,by omega⟩
theorem Bytes_T (s:Str) (hs:s.length≤1000000) (σ:List Hp) (G:Gh):CallT Tryz.prog f_zz97 ([.str s].map .d) σ G fun r σ' G'=>σ'=σ∧∃ x,r=.d x∧GV 1 G' x ((bytesB s).map eB)∧GTo .nilS x G G':=by
 refine callT_of_W fol zz97_cp ?_
 have hl:=intB_len (len_i64 hs)
 refine goS trivial ?_
 refine goR trivial ?_
 apply wC_g (Int_T _ (len_i64 hs) _ _)
 focus (simp -dsimp (disch:=first|omega|(simp only [go_sem]; omega)) only [go_sem,seval,Nat.reduceEqDiff,Nat.reduceLeDiff]<;>fail)
 focus (simp -dsimp (disch:=first|omega|(simp only [go_sem]; omega)) only [go_sem,seval,Nat.reduceEqDiff,Nat.reduceLeDiff]<;>rfl)
 rintro _ G1 ⟨x,rfl,hx,hto⟩
 rcases hx.shape with rfl|⟨b0,n0,c0,rfl⟩
 all_goals
  refine goS trivial ?_
  refine goR trivial ?_
  rw [appV_str_list]
  refine appV_GV2 hx (viewC_list (eB_all s)) rfl (eB_all s) rfl (by rw [List.length_map,List.length_map,mostBytes_eq]; show _ * 1≤_; omega) fun x' G2 hg hto2=>?_
  have hg:GV 1 G2 x' ((bytesB s).map eB):=by rw [bytesB,List.map_append]; exact hg
  rcases hg.shape with rfl|⟨b',n',cap',rfl⟩
  all_goals
   refine goS trivial ?_
   refine goR trivial ?_
   exact Fin.eq rfl ⟨rfl,_,rfl,hg,hto.trans hto2⟩
theorem Bytes_ok (s:Str) (hs:s.length≤1000000):CallP Tryz.prog f_zz97 [.str s] (·=.d (.list ((bytesB s).map eB))) :=
 CallP.of_deep ((Bytes_T s hs [] noGh).mono fun r σ' G' ⟨h1,x,h2,h3,_⟩=>⟨h1,_,by rw [h2]; exact .d _ _ h3.dr,rfl⟩)
theorem take_flat {l:List Int} {k:Nat} (h:k < l.length):((l.take (k + 1)).map intB).flatten=((l.take k).map intB).flatten ++ intB l[k]:=by
 rw [List.take_succ_eq_append_getElem h,List.map_append,List.flatten_append]; simp
theorem list_T (l:List Int) (hl:l.length≤1000000) (hi:∀ n ∈ l,i64 n) (σ:List Hp) (G:Gh) :
 CallT Tryz.prog f_zz82 ([.list (l.map eI),.fn f_zz101].map .d) σ G fun r σ' G'=>σ'=σ∧∃ x,r=.d x∧GV 1 G' x ((intsB l).map eB)∧GTo .nilS x G G':=by
 refine callT_of_W fol zz82_cp ?_
 have hll:=intB_len (len_i64 hl)
 have hm:=mostBytes_eq
 refine goS trivial ?_
 refine goR trivial ?_
 apply wC_g (Int_T _ (len_i64 hl) _ _)
 focus (simp -dsimp (disch:=first|omega|(simp only [go_sem]; omega)) only [go_sem,seval,Nat.reduceEqDiff,Nat.reduceLeDiff]<;>fail)
 focus (simp -dsimp (disch:=first|omega|(simp only [go_sem]; omega)) only [go_sem,seval,Nat.reduceEqDiff,Nat.reduceLeDiff]<;>rfl)
 rintro _ G1 ⟨x,rfl,hx,hto⟩
 refine goS trivial ?_
 refine goR trivial ?_
 refine W.loop (fun m st=>∃ k x G1,k≤l.length∧m=l.length - k∧GV 1 G1 x ((intB l.length ++ ((l.take k).map intB).flatten).map eB)∧GTo .nilS x G G1 ∧
  st=(E [(1,.d (.fn f_zz101)),(5,.d x),(11,.d (.list (l.map eI))),(12,.d (eI l.length)),(13,.d (eI k))],HB [],σ,G1))
  ⟨_,_,stle,0,x,G1,by omega,rfl,by simpa using hx,hto,rfl⟩ ?_
 rintro m st ⟨k,x,G1,hk,rfl,hx,hto,rfl⟩
 by_cases h1:(k:Int) < (l.length:Int)
 case neg =>
  obtain rfl:k=l.length:=by omega
  rw [List.take_length] at hx
  rcases hx.shape with rfl|⟨b0,n0,c0,rfl⟩
  all_goals
   (refine goX h1 ?_; (repeat' (with_reducible apply Br.mk<;>intro _)))
   exact Fin.eq rfl ⟨rfl,_,rfl,hx,hto⟩
 have hk':k < l.length:=by omega
 have hik:=hi _ (List.getElem_mem hk')
 have hil:=intB_len hik
 have hio:=Int_ok _ hik
 have hfl:=ints_len (l:=l.take k) fun n hn=>hi n (List.mem_of_mem_take hn)
 rw [List.length_take] at hfl
 rcases hx.shape with rfl|⟨b0,n0,c0,rfl⟩
 all_goals
  (refine goX1 h1 (hio) ?_; (repeat' (with_reducible apply Br.mk<;>intro _)))
  refine appV_GV2 hx (viewC_list (eB_all (intB l[k]))) rfl (eB_all _) rfl (by simp only [List.length_map,List.length_append,mostBytes_eq]; show _ * 1≤_; omega) fun x' G2 hg hto2=>?_
  have hg:GV 1 G2 x' ((intB l.length ++ ((l.take (k + 1)).map intB).flatten).map eB):=by rw [take_flat hk',← List.append_assoc,List.map_append (l₁:=intB _ ++ _)]; exact hg
  rcases hg.shape with rfl|⟨b',n',cap',rfl⟩
  all_goals
   refine goS trivial ?_
   refine goR trivial ?_
   refine ⟨_,_,?_,stle,k + 1,_,G2,hk',rfl,hg,hto.trans hto2,rfl⟩
   omega
theorem list_ok (l:List Int) (hl:l.length≤1000000) (hi:∀ n ∈ l,i64 n):CallP Tryz.prog f_zz82 [.list (l.map eI),.fn f_zz101] (·=.d (.list ((intsB l).map eB))) :=
 CallP.of_deep ((list_T l hl hi [] noGh).mono fun r σ' G' ⟨h1,x,h2,h3,_⟩=>⟨h1,_,by rw [h2]; exact .d _ _ h3.dr,rfl⟩)
theorem Ints_ok (l:List Int) (hl:l.length≤1000000) (hi:∀ n ∈ l,i64 n):CallP Tryz.prog f_zz98 [.list (l.map eI)] (·=.d (.list ((intsB l).map eB))):=by
 refine callP_of_W fol zz98_cp ?_
 refine goS trivial ?_
 (refine goX1 trivial (list_ok l hl hi) ?_; (repeat' (with_reducible apply Br.mk<;>intro _)))
 exact Fin.p rfl rfl
end Go.Proofs.YtgoleoihpgmcbaaGreat.Wire
/-
 Wire: byte strings and lists of integers read.
 Conditions: of each contract as it says.
-/
namespace Go.Proofs.YtgoleoihpgmcbaaGreat.Wire
open Go Go.E2 CW
set_option linter.unusedSimpArgs false
set_option maxHeartbeats 4000000
theorem length_ok (b:Str) (hb:b.length≤1000000):CallP Tryz.prog f_zz94 [.list (b.map eB),.int .i64 1] (·=oI (lenQ b)):=by
 refine callP_of_W fol zz94_cp ?_
 have hg:=GetInt_ok b
 unfold lenQ
 obtain ⟨n,a,e,hr⟩:∃ n a e,getI b=(n,a,e):=⟨_,_,_,rfl⟩
 rw [hr] at hg ⊢
 by_cases he:e=0
 case neg =>
  rw [if_pos he]
  (refine goX1 he (hg) ?_; (repeat' (with_reducible apply Br.mk<;>intro _)))
  exact Fin.p rfl rfl
 subst he
 obtain ⟨m,rfl,h1,h2,_,hn1,hn2⟩:=getI_canon hr
 rw [if_neg (by simp)]
 by_cases hn:n < 0
 case pos =>
  rw [if_pos hn]
  (refine goX1 hn (hg) ?_; (repeat' (with_reducible apply Br.mk<;>intro _)))
  exact Fin.p rfl rfl
 rw [if_neg hn]
 by_cases hl:(b.length:Int) - m < n
 case pos =>
  rw [if_pos hl]
  (refine goX1 (nn hn (nn hl @Int.tdiv_one)) (hg) ?_; (repeat' (with_reducible apply Br.mk<;>intro _)))
  exact Fin.p rfl rfl
 case neg =>
  rw [if_neg hl]
  (refine goX1 (nn hn (nn hl @Int.tdiv_one)) (hg) ?_; (repeat' (with_reducible apply Br.mk<;>intro _)))
  exact Fin.p rfl rfl
theorem GetBytes_ok (b:Str) (hb:b.length≤1000000):CallP Tryz.prog f_zz81 [.list (b.map eB)] (·=.tup [.str (getBytes b).1,eI (getBytes b).2.1,eI (getBytes b).2.2]):=by
 refine callP_of_W fol zz81_cp ?_
 have hg:=length_ok b hb
 unfold getBytes
 obtain ⟨n,a,e,hr⟩:∃ n a e,lenQ b=(n,a,e):=⟨_,_,_,rfl⟩
 rw [hr] at hg ⊢
 by_cases he:e=0
 case neg =>
  rw [if_pos he]
  (refine goX1 he (hg) ?_; (repeat' (with_reducible apply Br.mk<;>intro _)))
  exact Fin.p rfl rfl
 subst he
 obtain ⟨k,m,rfl,rfl,h1,_,_⟩:=lenQ_ok hr
 rw [if_neg (by simp)]
 simp only [Int.toNat_natCast]
 have hv:vSlH 1 (some (.list (b.map eB))) (some (m:Int)) (some ((m:Int) + (k:Int)))=some (.d (.list (((b.drop m).take k).map eB))):=by
  rw [vSlH_list 1 _ _ _ (by omega) (by omega) (by rw [List.length_map]; omega),if_pos (eB_all b)]
  have e1:((m:Int) + (k:Int)).toNat=m + k:=by omega
  rw [e1,Int.toNat_natCast,List.take_drop,List.map_drop,List.map_take]
 generalize (b.drop m).take k=q at hv ⊢
 (refine goX1 hv (hg) ?_; (repeat' (with_reducible apply Br.mk<;>intro _)))
 exact Fin.p rfl rfl
theorem get_ok (b:Str) (hb:b.length≤1000000):CallP Tryz.prog f_zz91 [.list (b.map eB),.int .i64 1,.fn f_zz93] (·=.tup [.list ((getInts b).1.map eI),eI (getInts b).2.1,eI (getInts b).2.2]):=by
 refine CallP.of_deep (callT_of_W fol zz91_cp ?_)
 have hg:=length_ok b hb
 have hm:=mostBytes_eq
 refine goS trivial ?_
 obtain ⟨n,a,e,hr⟩:∃ n a e,lenQ b=(n,a,e):=⟨_,_,_,rfl⟩
 rw [hr] at hg
 by_cases he:e=0
 case neg =>
  have h0:getInts b=([],0,e):=by unfold getInts; rw [hr,if_pos he]
  (refine goX1 he (hg) ?_; (repeat' (with_reducible apply Br.mk<;>intro _)))
  exact Fin.eq rfl ⟨rfl,_,.tup _ _ (DRs.cons .nil (DRs.cons (.refl _) (DRs.cons (.refl _) DRs.nil))),by rw [h0]; rfl⟩
 subst he
 obtain ⟨n,a,rfl,rfl,h1,_,_⟩:=lenQ_ok hr
 have h0:getInts b=getN b n a []:=by unfold getInts; rw [hr,if_neg (by simp)]; simp
 (refine goX1 trivial (hg) ?_; (repeat' (with_reducible apply Br.mk<;>intro _)))
 refine W.loop (fun m st=>∃ (i at_:Nat) (out:List Int),i≤n∧m=n - i∧at_≤b.length∧out.length=i∧getInts b=getN b (n - i) at_ out ∧
  st=(E [(0,.d (.list (b.map eB))),(2,.d (.fn f_zz93)),(10,.d (eI at_)),(12,.own 1 (out.map eI)),(26,.d (eI n)),(27,.d (eI i))],HB [],[],noGh))
  ⟨_,_,stle,0,a,[],by omega,rfl,by omega,rfl,h0,rfl⟩ ?_
 rintro m st ⟨i,at_,out,hi,rfl,ha,ho,hs,rfl⟩
 by_cases h2:(i:Int) < (n:Int)
 case neg =>
  obtain rfl:i=n:=by omega
  rw [Nat.sub_self,getN] at hs
  (refine goX h2 ?_; (repeat' (with_reducible apply Br.mk<;>intro _)))
  exact Fin.eq rfl ⟨rfl,_,.refl _,by rw [hs]⟩
 have hni:n - i=(n - (i + 1)) + 1:=by omega
 rw [hni,getN] at hs
 have hgi:=GetInt_ok (b.drop at_)
 have hdr:List.drop at_ (List.map eB b)=List.map eB (List.drop at_ b):=List.map_drop.symm
 obtain ⟨x,u,e,hx⟩:∃ x u e,getI (b.drop at_)=(x,u,e):=⟨_,_,_,rfl⟩
 rw [hx] at hgi hs
 by_cases he:e=0
 case neg =>
  rw [if_pos he] at hs
  (refine goX1 (nn h2 (nn he (nn hdr @Int.toNat_natCast))) (hgi) ?_; (repeat' (with_reducible apply Br.mk<;>intro _)))
  exact Fin.eq rfl ⟨rfl,_,.tup _ _ (DRs.cons .nil (DRs.cons (.refl _) (DRs.cons (.refl _) DRs.nil))),by rw [hs]; rfl⟩
 subst he
 obtain ⟨u,rfl,_,h4,_,_⟩:=getI_canon hx
 rw [List.length_drop] at h4
 rw [if_neg (by simp)] at hs
 simp only [Int.toNat_natCast] at hs
 (repeat' (first|(with_reducible first|refine W.seq ?_|refine W.block ?_|refine W.scope ?_)|((first|(with_reducible first|refine W.reg ?_|refine W.skip ?_|refine W.exit ?_|refine W.ret ?_|refine W.ifc ?_)|(apply wC_P (hgi); (focus (simp -dsimp (disch:=first|omega|(simp only [go_sem]; omega)) only [go_sem,seval,Nat.reduceEqDiff,Nat.reduceLeDiff]<;>rfl)); rintro _ rfl)|((with_reducible first|refine wG_decE (fun _ hG=>?_) (fun _ hG=>?_)|refine wG_decFE (fun _ hG=>?_) (fun _ hG=>?_))<;>(try simp -dsimp only [hG,decide_true,decide_false,not_true_eq_false,not_false_eq_true])<;>clear hG))<;>(try simp -dsimp (disch:=first|omega|(simp only [go_sem]; omega)) only [go_sem,seval,Nat.reduceEqDiff,Nat.reduceLeDiff,h2,hdr,Int.toNat_natCast,List.length_map,ho]))|simp -dsimp (disch:=first|omega|(simp only [go_sem]; omega)) only [go_sem,seval,Nat.reduceEqDiff,Nat.reduceLeDiff,h2,hdr,Int.toNat_natCast,List.length_map,ho]))
 refine ⟨_,_,?_,st_le (by (simp -dsimp (disch:=first|omega|(simp only [go_sem]; omega)) only [go_sem,seval,Nat.reduceEqDiff,Nat.reduceLeDiff,List.map_append,List.map_cons,List.map_nil]<;>((repeat' apply And.intro)<;>first|exact VLe.refl _|(apply vle_int; omega)|(apply vle_int; simp; done)|exact VLe.own _ _|exact VLe.nilown _|exact VLe.norm _))),i + 1,at_ + u,out ++ [x],by omega,rfl,by omega,by rw [List.length_append,ho]; rfl,hs,rfl⟩
 omega
theorem GetInts_ok (b:Str) (hb:b.length≤1000000):CallP Tryz.prog f_zz90 [.list (b.map eB)] (·=.tup [.list ((getInts b).1.map eI),eI (getInts b).2.1,eI (getInts b).2.2]):=by
 refine callP_of_W fol zz90_cp ?_
 refine goS trivial ?_
 (refine goX1 trivial (get_ok b hb) ?_; (repeat' (with_reducible apply Br.mk<;>intro _)))
 exact Fin.p rfl rfl
end Go.Proofs.YtgoleoihpgmcbaaGreat.Wire
