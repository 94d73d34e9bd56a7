/-
 Wire: the reference's integers.
 Conditions: of each contract as it says.
-/
import Derived.Test.YtgoleoihpgmcbaaGreatW1a
namespace Go.Proofs.YtgoleoihpgmcbaaGreat.Wire
open Go Go.E2 CW
set_option linter.unusedSimpArgs false
set_option maxHeartbeats 4000000
theorem w_rem (z m:Nat) (hm:m ≠ 0):binD .rem (.int .u64 z) (.int .u64 m)=some (.int .u64 ((z % m:Nat):Int)):=by
 rw [binD_rem _ _ _ (by omega)]; rfl
theorem w_quo (z m:Nat) (hz:z < 18446744073709551616) (hm:m ≠ 0):binD .quo (.int .u64 z) (.int .u64 m)=some (.int .u64 ((z / m:Nat):Int)):=by
 have h1:z / m≤z:=Nat.div_le_self _ _
 have e:(z:Int).tdiv (m:Int)=((z / m:Nat):Int):=rfl
 have h2:((z / m:Nat):Int)≤(z:Int):=by exact_mod_cast h1
 rw [binD_quo _ _ _ (by omega),e]
 generalize z / m=q at h2 ⊢
 rw [wrap_u64 (by omega) (by omega)]
theorem w_rem8 (c:UInt8):binD .rem (.int .u8 c.toNat) (.int .u8 128)=some (.int .u8 ((c.toNat % 128:Nat):Int)):=by
 rw [binD_rem _ _ _ (by omega)]; rfl
theorem rInt_T (n:Int) (hn:i64 n) (σ:List Hp) (G:Gh):CallT Tryz.prog f_zz51 ([.int .i64 n].map .d) σ G fun r σ' G'=>σ'=σ∧∃ x,r=.d x∧GV 1 G' x ((intB n).map eB)∧GTo .nilS x G G':=by
 refine callT_of_W fol zz51_cp ?_
 have hl:=intB_len hn
 have hz:=zig_lt hn
 have hm:=mostBytes_eq
 obtain ⟨hn1,hn2⟩:=hn
 have hz1:(n < 0→(-1 - n) * 2 + 1=((zig n:Nat):Int))∧(¬ n < 0→n * 2=((zig n:Nat):Int)):=by
  unfold zig
  exact ⟨fun h=>by rw [if_pos h]; omega,fun h=>by rw [if_neg h]; omega⟩
 refine goS trivial ?_
 (refine goX trivial ?_; (repeat' (with_reducible apply Br.mk<;>intro _)))
 all_goals
  first|have hz2:=hz1.1 ‹_›|have hz2:=hz1.2 ‹_›
  refine W.loop (fun m st=>∃ z p x G1,m=z∧z < 18446744073709551616∧intB n=p ++ leb z∧GV 1 G1 x (p.map eB)∧GTo .nilS x G G1 ∧
   st=(E [(3,.d (.int .u64 ((z:Nat):Int))),(4,.d x)],HB [],σ,G1))
   ⟨_,_,st_le (by (simp -dsimp (disch:=first|omega|(simp only [go_sem]; omega)) only [go_sem,seval,Nat.reduceEqDiff,Nat.reduceLeDiff,hz2]<;>((repeat' apply And.intro)<;>first|exact VLe.refl _|(apply vle_int; omega)|(apply vle_int; simp; done)|exact VLe.own _ _|exact VLe.nilown _|exact VLe.norm _))),zig n,[],.nilS,G,rfl,hz,rfl,.nil,GTo.refl _ _,rfl⟩ ?_
  rintro m st ⟨z,p,x,G1,rfl,hz,hp,hx,hto,rfl⟩
  have hpl:p.length≤10:=by rw [hp,List.length_append] at hl; omega
  by_cases h1:(128:Int)≤((m:Nat):Int)
  case pos =>
   have h2:¬ m < 128:=by omega
   have h3:m % 128 < 128:=Nat.mod_lt _ (by decide)
   have w4:binD .rem (.int .u64 ((m:Nat):Int)) (.int .u64 128)=some (.int .u64 ((m % 128:Nat):Int)):=w_rem m 128 (by decide)
   have w5:binD .quo (.int .u64 ((m:Nat):Int)) (.int .u64 128)=some (.int .u64 ((m / 128:Nat):Int)):=w_quo m 128 hz (by decide)
   have w6:((m % 128:Nat):Int) + 128=(((UInt8.ofNat (m % 128 + 128)).toNat:Nat):Int):=by rw [ofNat_lo (by omega)]; rfl
   rw [leb_hi h2] at hp
   rcases hx.shape with rfl|⟨b0,n0,c0,rfl⟩
   all_goals
    (refine goX (nn h1 (nn w4 w6)) ?_; (repeat' (with_reducible apply Br.mk<;>intro _)))
    refine appV_GV2 hx (viewC_list (es:=[eB (UInt8.ofNat (m % 128 + 128))]) rfl) rfl rfl rfl (by rw [List.length_map,mostBytes_eq]; show (_ + 1) * 1≤_; omega) fun x' G2 hg hto2=>?_
    have hg:GV 1 G2 x' ((p ++ [UInt8.ofNat (m % 128 + 128)]).map eB):=by rw [List.map_append]; exact hg
    rcases hg.shape with rfl|⟨b',n',cap',rfl⟩
    all_goals
     refine goS trivial ?_
     refine goR w5 ?_
     refine ⟨_,_,?_,stle,m / 128,p ++ [UInt8.ofNat (m % 128 + 128)],_,G2,rfl,by omega,by rw [hp,List.append_assoc]; rfl,hg,hto.trans hto2,rfl⟩
     exact hi_div h2
  case neg =>
   have h2:m < 128:=by omega
   rw [leb_lo h2] at hp
   rcases hx.shape with rfl|⟨b0,n0,c0,rfl⟩
   all_goals
    (refine goX h1 ?_; (repeat' (with_reducible apply Br.mk<;>intro _)))
    refine appV_GV2 hx (viewC_list (es:=[.int .u8 ((m:Nat):Int)]) rfl) rfl rfl rfl (by rw [List.length_map,mostBytes_eq]; show (_ + 1) * 1≤_; omega) fun x' G2 hg hto2=>?_
    have hg:GV 1 G2 x' ((intB n).map eB):=by rw [hp,List.map_append,← eB_lo (by omega)]; exact hg
    rcases hg.shape with rfl|⟨b',n',cap',rfl⟩
    all_goals
     refine goS trivial ?_
     refine goR trivial ?_
     exact Fin.eq rfl ⟨rfl,_,rfl,hg,hto.trans hto2⟩
theorem rInt_ok (n:Int) (hn:i64 n):CallP Tryz.prog f_zz51 [.int .i64 n] (·=.d (.list ((intB n).map eB))) :=
 CallP.of_deep ((rInt_T n hn [] noGh).mono fun r σ' G' ⟨h1,x,h2,h3,_⟩=>⟨h1,_,by rw [h2]; exact .d _ _ h3.dr,rfl⟩)
theorem rBytes_T (s:Str) (hs:s.length≤1000000) (σ:List Hp) (G:Gh):CallT Tryz.prog f_zz33 ([.str s].map .d) σ G fun r σ' G'=>σ'=σ∧∃ x,r=.d x∧GV 1 G' x ((bytesB s).map eB)∧GTo .nilS x G G':=by
 refine callT_of_W fol zz33_cp ?_
 have hl:=intB_len (len_i64 hs)
 refine goS trivial ?_
 refine goR trivial ?_
 apply wC_g (rInt_T _ (len_i64 hs) _ _)
 focus (simp -dsimp (disch:=first|omega|(simp only [go_sem]; omega)) only [go_sem,seval,Nat.reduceEqDiff,Nat.reduceLeDiff]<;>fail)
 focus (simp -dsimp (disch:=first|omega|(simp only [go_sem]; omega)) only [go_sem,seval,Nat.reduceEqDiff,Nat.reduceLeDiff]<;>rfl)
 rintro _ G1 ⟨x,rfl,hx,hto⟩
 rcases hx.shape with rfl|⟨b0,n0,c0,rfl⟩
 all_goals
  refine goS trivial ?_
  refine goR trivial ?_
  rw [appV_str_list]
  refine appV_GV2 hx (viewC_list (eB_all s)) rfl (eB_all s) rfl (by rw [List.length_map,List.length_map,mostBytes_eq]; show _ * 1≤_; omega) fun x' G2 hg hto2=>?_
  have hg:GV 1 G2 x' ((bytesB s).map eB):=by rw [bytesB,List.map_append]; exact hg
  rcases hg.shape with rfl|⟨b',n',cap',rfl⟩
  all_goals
   refine goS trivial ?_
   refine goR trivial ?_
   exact Fin.eq rfl ⟨rfl,_,rfl,hg,hto.trans hto2⟩
theorem rBytes_ok (s:Str) (hs:s.length≤1000000):CallP Tryz.prog f_zz33 [.str s] (·=.d (.list ((bytesB s).map eB))) :=
 CallP.of_deep ((rBytes_T s hs [] noGh).mono fun r σ' G' ⟨h1,x,h2,h3,_⟩=>⟨h1,_,by rw [h2]; exact .d _ _ h3.dr,rfl⟩)
theorem rInts_T (l:List Int) (hl:l.length≤1000000) (hi:∀ n ∈ l,i64 n) (σ:List Hp) (G:Gh) :
 CallT Tryz.prog f_zz39 ([.list (l.map eI)].map .d) σ G fun r σ' G'=>σ'=σ∧∃ x,r=.d x∧GV 1 G' x ((intsB l).map eB)∧GTo .nilS x G G':=by
 refine callT_of_W fol zz39_cp ?_
 have hll:=intB_len (len_i64 hl)
 have hm:=mostBytes_eq
 refine goS trivial ?_
 refine goR trivial ?_
 apply wC_g (rInt_T _ (len_i64 hl) _ _)
 focus (simp -dsimp (disch:=first|omega|(simp only [go_sem]; omega)) only [go_sem,seval,Nat.reduceEqDiff,Nat.reduceLeDiff]<;>fail)
 focus (simp -dsimp (disch:=first|omega|(simp only [go_sem]; omega)) only [go_sem,seval,Nat.reduceEqDiff,Nat.reduceLeDiff]<;>rfl)
 rintro _ G1 ⟨x,rfl,hx,hto⟩
 refine goS trivial ?_
 refine goR trivial ?_
 refine W.loop (fun m st=>∃ k x G1,k≤l.length∧m=l.length - k∧GV 1 G1 x ((intB l.length ++ ((l.take k).map intB).flatten).map eB)∧GTo .nilS x G G1 ∧
  st=(E [(0,.d (.list (l.map eI))),(3,.d x),(4,.d (eI k))],HB [],σ,G1))
  ⟨_,_,stle,0,x,G1,by omega,rfl,by simpa using hx,hto,rfl⟩ ?_
 rintro m st ⟨k,x,G1,hk,rfl,hx,hto,rfl⟩
 by_cases h1:(k:Int) < (l.length:Int)
 case neg =>
  obtain rfl:k=l.length:=by omega
  rw [List.take_length] at hx
  rcases hx.shape with rfl|⟨b0,n0,c0,rfl⟩
  all_goals
   (refine goX h1 ?_; (repeat' (with_reducible apply Br.mk<;>intro _)))
   exact Fin.eq rfl ⟨rfl,_,rfl,hx,hto⟩
 have hk':k < l.length:=by omega
 have hik:=hi _ (List.getElem_mem hk')
 have hil:=intB_len hik
 have hio:=rInt_ok _ hik
 have hfl:=ints_len (l:=l.take k) fun n hn=>hi n (List.mem_of_mem_take hn)
 rw [List.length_take] at hfl
 rcases hx.shape with rfl|⟨b0,n0,c0,rfl⟩
 all_goals
  (refine goX1 h1 (hio) ?_; (repeat' (with_reducible apply Br.mk<;>intro _)))
  refine appV_GV2 hx (viewC_list (eB_all (intB l[k]))) rfl (eB_all _) rfl (by simp only [List.length_map,List.length_append,mostBytes_eq]; show _ * 1≤_; omega) fun x' G2 hg hto2=>?_
  have hg:GV 1 G2 x' ((intB l.length ++ ((l.take (k + 1)).map intB).flatten).map eB):=by rw [take_flat hk',← List.append_assoc,List.map_append (l₁:=intB _ ++ _)]; exact hg
  rcases hg.shape with rfl|⟨b',n',cap',rfl⟩
  all_goals
   refine goS trivial ?_
   refine goR trivial ?_
   refine ⟨_,_,?_,stle,k + 1,_,G2,hk',rfl,hg,hto.trans hto2,rfl⟩
   omega
theorem rInts_ok (l:List Int) (hl:l.length≤1000000) (hi:∀ n ∈ l,i64 n):CallP Tryz.prog f_zz39 [.list (l.map eI)] (·=.d (.list ((intsB l).map eB))) :=
 CallP.of_deep ((rInts_T l hl hi [] noGh).mono fun r σ' G' ⟨h1,x,h2,h3,_⟩=>⟨h1,_,by rw [h2]; exact .d _ _ h3.dr,rfl⟩)
end Go.Proofs.YtgoleoihpgmcbaaGreat.Wire
/-
 Wire: the reference's readers.
 Conditions: of each contract as it says.
-/
namespace Go.Proofs.YtgoleoihpgmcbaaGreat.Wire
open Go Go.E2 CW
set_option linter.unusedSimpArgs false
set_option maxHeartbeats 4000000
theorem split_at {b:Str} {k:Nat} (h:k < b.length):b=b.take k ++ b[k]::b.drop (k + 1):=by
 rw [← List.drop_eq_getElem_cons h,List.take_append_drop]
theorem take_hi {b:Str} {k:Nat} (h:∀ j (hj:j < b.length),j < k→128≤b[j].toNat):∀ c ∈ b.take k,128≤c.toNat:=by
 intro c hc
 obtain ⟨j,hj,rfl⟩:=List.getElem_of_mem hc
 rw [List.length_take] at hj
 rw [List.getElem_take]
 exact h j (by omega) (by omega)
theorem val_drop {l:Str} {j:Nat} (h:j < l.length):val (l.drop j)=l[j].toNat % 128 + 128 * val (l.drop (j + 1)):=by
 rw [List.drop_eq_getElem_cons h,val]
theorem val_drop_le {l:Str} {j:Nat}:val (l.drop j)≤val l:=by
 have h:=val_app (l.take j) (l.drop j)
 rw [List.take_append_drop] at h
 have:1 * val (l.drop j)≤128 ^ (l.take j).length * val (l.drop j):=Nat.mul_le_mul_right _ (Nat.pow_pos (by decide))
 omega
theorem rGetInt_ok (b:Str):CallP Tryz.prog f_zz23 [.list (b.map eB)] (·=oI (getI b)):=by
 refine callP_of_W fol zz23_cp ?_
 refine goS trivial ?_
 refine goR trivial ?_
 refine W.loop (fun m st=>∃ k,k≤b.length∧k≤10∧m=10 - k∧(∀ j (hj:j < b.length),j < k→128≤b[j].toNat) ∧
  st=(E [(0,.d (.list (b.map eB))),(5,.d (eI k))],HB [],[],noGh))
  ⟨_,_,stle,0,by omega,by omega,rfl,fun _ _ h=>by omega,rfl⟩ ?_
 rintro m st ⟨k,hk,hk10,rfl,hlo,rfl⟩
 have hth:=take_hi hlo
 have htl:(b.take k).length=k:=by rw [List.length_take]; omega
 by_cases h1:(k:Int) < (b.length:Int)
 case neg =>
  obtain rfl:k=b.length:=by omega
  by_cases h2:b.length=10
  case pos =>
   have hs:=split_at (b:=b) (k:=9) (by omega)
   have hg:getI b=(0,0,eEnc):=by
    rw [hs]
    exact getP_long (take_hi fun j hj h=>hlo j hj (by omega)) (by rw [List.length_take]; omega) (hlo 9 (by omega) (by omega))
   have h3:(b.length:Int)=10:=by omega
   (refine goX (nn h1 h3) ?_; (repeat' (with_reducible apply Br.mk<;>intro _)))
   all_goals first|(exfalso; omega)|exact Fin.p rfl (by rw [hg])
  case neg =>
   have hg:getI b=(0,0,eTrunc):=by
    have:=getP_short (p:=b) (by rw [← List.take_length (l:=b)]; exact hth) (by omega)
    exact this
   have h3:((b.length:Int)=10)=False:=eq_false (by omega)
   (refine goX (nn h1 h3) ?_; (repeat' (with_reducible apply Br.mk<;>intro _)))
   all_goals first|(exfalso; omega)|exact Fin.p rfl (by rw [hg])
 have hk':k < b.length:=by omega
 by_cases h2:(k:Int) < 10
 case neg =>
  obtain rfl:k=10:=by omega
  have hs:=split_at (b:=b) (k:=9) (by omega)
  have hg:getI b=(0,0,eEnc):=by
   rw [hs]
   exact getP_long (take_hi fun j hj h=>hlo j hj (by omega)) (by rw [List.length_take]; omega) (hlo 9 (by omega) (by omega))
  (refine goX (nn h1 (nn h2 eB_mk)) ?_; (repeat' (with_reducible apply Br.mk<;>intro _)))
  all_goals first|(exfalso; omega)|exact Fin.p rfl (by rw [hg])
 by_cases h3:(128:Int)≤((b[k].toNat:Nat):Int)
 case pos =>
  (refine goX (nn h1 (nn h2 (nn h3 eB_mk))) ?_; (repeat' (with_reducible apply Br.mk<;>intro _)))
  refine ⟨_,_,?_,stle,k + 1,hk',by omega,rfl,fun j hj hlt=>?_,rfl⟩
  · omega
  · by_cases e:j=k
    · subst e; omega
    · exact hlo j hj (by omega)
 have hcl:b[k].toNat < 128:=by omega
 have hge:=getP_end (r:=b.drop (k + 1)) hth (by omega) hcl
 rw [← split_at hk',htl] at hge
 have e1:((k:Int)=10)=False:=eq_false (by omega)
 have e2:((k:Int)=(b.length:Int))=False:=eq_false (by omega)
 by_cases hbad:(k=9∧1 < b[k].toNat)∨(0 < k∧b[k].toNat=0)
 case pos =>
  rw [if_pos hbad] at hge
  have hg:getI b=(0,0,eEnc):=hge
  (refine goX (nn h1 (nn h2 (nn h3 (nn eB_mk (nn e1 e2))))) ?_; (repeat' (with_reducible apply Br.mk<;>intro _)))
  all_goals try (exfalso; omega)
  all_goals exact Fin.p rfl (by rw [hg])
 rw [if_neg hbad] at hge
 have hg:getI b=(unzig (val (b.take k ++ [b[k]])),(k:Int) + 1,0):=hge
 have hv:=val_u64 (p:=b.take k) (c:=b[k]) (by omega) hcl (by rw [htl]; omega)
 obtain ⟨L,hg,hv,hl1,hget⟩:∃ L:Str,getI b=(unzig (val L),(k:Int) + 1,0)∧val L < 18446744073709551616∧L.length=k + 1∧∀ j (g1:j < L.length) (g2:j < b.length),L[j]=b[j]:=by
  refine ⟨_,hg,hv,by rw [List.length_append,htl]; rfl,fun j g1 g2=>?_⟩
  rw [List.length_append,htl] at g1
  by_cases e:j < k
  · rw [List.getElem_append_left (by omega),List.getElem_take]
  · obtain rfl:j=k:=by simp at g1; omega
    rw [List.getElem_append_right (by omega)]; simp
 clear hge
 (refine goX (nn h1 (nn h2 (nn h3 (nn eB_mk (nn e1 e2))))) ?_; (repeat' (with_reducible apply Br.mk<;>intro _)))
 all_goals try (exfalso; omega)
 all_goals
  refine W.loop (fun m st=>∃ (z:Nat) (i:Int),m≤k + 1∧z=val (L.drop m)∧i=(m:Int) - 1 ∧
   st=(E [(0,.d (.list (b.map eB))),(5,.d (eI k)),(6,.d (.int .u64 ((z:Nat):Int))),(7,.d (eI i))],HB [],[],noGh))
   ⟨k + 1,_,stle,0,(k:Int),by omega,by rw [List.drop_of_length_le (by omega)]; rfl,by omega,rfl⟩ ?_
  rintro m st ⟨z,i,hm,hz,hi,rfl⟩
  cases m with
  | zero =>
   have g1:((0:Int)≤i)=False:=eq_false (by omega)
   rw [List.drop_zero] at hz
   subst hz
   generalize val L=z at *
   have w1:binD .rem (.int .u64 ((z:Nat):Int)) (.int .u64 2)=some (.int .u64 ((z % 2:Nat):Int)):=w_rem z 2 (by decide)
   have w2:binD .quo (.int .u64 ((z:Nat):Int)) (.int .u64 2)=some (.int .u64 ((z / 2:Nat):Int)):=w_quo z 2 hv (by decide)
   have hun:unzig z=if z % 2=1 then -1 - ((z / 2:Nat):Int) else ((z / 2:Nat):Int):=rfl
   by_cases g2:z % 2=1
   case pos =>
    have g3:(((z % 2:Nat):Int)=1)=True:=eq_true (by omega)
    rw [if_pos g2] at hun
    (refine goX (nn g1 (nn w1 (nn w2 g3))) ?_; (repeat' (with_reducible apply Br.mk<;>intro _)))
    exact Fin.p rfl (by rw [hg,hun])
   case neg =>
    have g3:(((z % 2:Nat):Int)=1)=False:=eq_false (by omega)
    rw [if_neg g2] at hun
    (refine goX (nn g1 (nn w1 (nn w2 g3))) ?_; (repeat' (with_reducible apply Br.mk<;>intro _)))
    exact Fin.p rfl (by rw [hg,hun])
  | succ n =>
   have hi:i=(n:Int):=by omega
   subst hi
   have hnL:n < L.length:=by omega
   have hnb:n < b.length:=by omega
   have hd:=val_drop hnL
   rw [hget n hnL hnb] at hd
   have hle:=val_drop_le (l:=L) (j:=n)
   have w1:=w_rem8 b[n]
   have h8:b[n].toNat % 128 < 128:=Nat.mod_lt _ (by decide)
   rw [← hz] at hd
   have e3:(z:Int) * 128 + ((b[n].toNat % 128:Nat):Int)=((val (L.drop n):Nat):Int):=by omega
   (refine goX (nn eB_mk w1) ?_; (repeat' (with_reducible apply Br.mk<;>intro _)))
   exact ⟨n,_,by omega,st_le (by (simp -dsimp (disch:=first|omega|(simp only [go_sem]; omega)) only [go_sem,seval,Nat.reduceEqDiff,Nat.reduceLeDiff,e3]<;>((repeat' apply And.intro)<;>first|exact VLe.refl _|(apply vle_int; omega)|(apply vle_int; simp; done)|exact VLe.own _ _|exact VLe.nilown _|exact VLe.norm _))),val (L.drop n),(n:Int) - 1,by omega,rfl,rfl,rfl⟩
end Go.Proofs.YtgoleoihpgmcbaaGreat.Wire
/-
 Wire: the reference's readers of byte strings and lists.
 Conditions: of each contract as it says.
-/
namespace Go.Proofs.YtgoleoihpgmcbaaGreat.Wire
open Go Go.E2 CW
set_option linter.unusedSimpArgs false
set_option maxHeartbeats 4000000
theorem rlength_ok (b:Str) (hb:b.length≤1000000):CallP Tryz.prog f_zz24 [.list (b.map eB),.int .i64 1] (·=oI (lenQ b)):=by
 refine callP_of_W fol zz24_cp ?_
 have hg:=rGetInt_ok b
 unfold lenQ
 obtain ⟨n,a,e,hr⟩:∃ n a e,getI b=(n,a,e):=⟨_,_,_,rfl⟩
 rw [hr] at hg ⊢
 by_cases he:e=0
 case neg =>
  rw [if_pos he]
  (refine goX1 he (hg) ?_; (repeat' (with_reducible apply Br.mk<;>intro _)))
  exact Fin.p rfl rfl
 subst he
 obtain ⟨m,rfl,h1,h2,_,hn1,hn2⟩:=getI_canon hr
 rw [if_neg (by simp)]
 by_cases hn:n < 0
 case pos =>
  rw [if_pos hn]
  (refine goX1 hn (hg) ?_; (repeat' (with_reducible apply Br.mk<;>intro _)))
  exact Fin.p rfl rfl
 rw [if_neg hn]
 by_cases hl:(b.length:Int) - m < n
 case pos =>
  rw [if_pos hl]
  (refine goX1 (nn hn (nn hl @Int.tdiv_one)) (hg) ?_; (repeat' (with_reducible apply Br.mk<;>intro _)))
  exact Fin.p rfl rfl
 case neg =>
  rw [if_neg hl]
  (refine goX1 (nn hn (nn hl @Int.tdiv_one)) (hg) ?_; (repeat' (with_reducible apply Br.mk<;>intro _)))
  exact Fin.p rfl rfl
theorem rGetInts_ok (b:Str) (hb:b.length≤1000000):CallP Tryz.prog f_zz21 [.list (b.map eB)] (·=.tup [.list ((getInts b).1.map eI),eI (getInts b).2.1,eI (getInts b).2.2]):=by
 refine CallP.of_deep (callT_of_W fol zz21_cp ?_)
 have hg:=rlength_ok b hb
 have hm:=mostBytes_eq
 refine goS trivial ?_
 obtain ⟨n,a,e,hr⟩:∃ n a e,lenQ b=(n,a,e):=⟨_,_,_,rfl⟩
 rw [hr] at hg
 by_cases he:e=0
 case neg =>
  have h0:getInts b=([],0,e):=by unfold getInts; rw [hr,if_pos he]
  (refine goX1 he (hg) ?_; (repeat' (with_reducible apply Br.mk<;>intro _)))
  exact Fin.eq rfl ⟨rfl,_,.tup _ _ (DRs.cons .nil (DRs.cons (.refl _) (DRs.cons (.refl _) DRs.nil))),by rw [h0]; rfl⟩
 subst he
 obtain ⟨n,a,rfl,rfl,h1,_,_⟩:=lenQ_ok hr
 have h0:getInts b=getN b n a []:=by unfold getInts; rw [hr,if_neg (by simp)]; simp
 (refine goX1 trivial (hg) ?_; (repeat' (with_reducible apply Br.mk<;>intro _)))
 refine W.loop (fun m st=>∃ (i at_:Nat) (out:List Int),i≤n∧m=n - i∧at_≤b.length∧out.length=i∧getInts b=getN b (n - i) at_ out ∧
  st=(E [(0,.d (.list (b.map eB))),(5,.d (eI n)),(6,.d (eI at_)),(8,.own 1 (out.map eI)),(9,.d (eI i))],HB [],[],noGh))
  ⟨_,_,stle,0,a,[],by omega,rfl,by omega,rfl,h0,rfl⟩ ?_
 rintro m st ⟨i,at_,out,hi,rfl,ha,ho,hs,rfl⟩
 by_cases h2:(i:Int) < (n:Int)
 case neg =>
  obtain rfl:i=n:=by omega
  rw [Nat.sub_self,getN] at hs
  (refine goX h2 ?_; (repeat' (with_reducible apply Br.mk<;>intro _)))
  exact Fin.eq rfl ⟨rfl,_,.refl _,by rw [hs]⟩
 have hni:n - i=(n - (i + 1)) + 1:=by omega
 rw [hni,getN] at hs
 have hgi:=rGetInt_ok (b.drop at_)
 have hdr:List.drop at_ (List.map eB b)=List.map eB (List.drop at_ b):=List.map_drop.symm
 obtain ⟨x,u,e,hx⟩:∃ x u e,getI (b.drop at_)=(x,u,e):=⟨_,_,_,rfl⟩
 rw [hx] at hgi hs
 by_cases he:e=0
 case neg =>
  rw [if_pos he] at hs
  (refine goX1 (nn h2 (nn he (nn hdr @Int.toNat_natCast))) (hgi) ?_; (repeat' (with_reducible apply Br.mk<;>intro _)))
  exact Fin.eq rfl ⟨rfl,_,.tup _ _ (DRs.cons .nil (DRs.cons (.refl _) (DRs.cons (.refl _) DRs.nil))),by rw [hs]; rfl⟩
 subst he
 obtain ⟨u,rfl,_,h4,_,_⟩:=getI_canon hx
 rw [List.length_drop] at h4
 rw [if_neg (by simp)] at hs
 simp only [Int.toNat_natCast] at hs
 (repeat' (first|(with_reducible first|refine W.seq ?_|refine W.block ?_|refine W.scope ?_)|((first|(with_reducible first|refine W.reg ?_|refine W.skip ?_|refine W.exit ?_|refine W.ret ?_|refine W.ifc ?_)|(apply wC_P (hgi); (focus (simp -dsimp (disch:=first|omega|(simp only [go_sem]; omega)) only [go_sem,seval,Nat.reduceEqDiff,Nat.reduceLeDiff]<;>rfl)); rintro _ rfl)|((with_reducible first|refine wG_decE (fun _ hG=>?_) (fun _ hG=>?_)|refine wG_decFE (fun _ hG=>?_) (fun _ hG=>?_))<;>(try simp -dsimp only [hG,decide_true,decide_false,not_true_eq_false,not_false_eq_true])<;>clear hG))<;>(try simp -dsimp (disch:=first|omega|(simp only [go_sem]; omega)) only [go_sem,seval,Nat.reduceEqDiff,Nat.reduceLeDiff,h2,hdr,Int.toNat_natCast,List.length_map,ho]))|simp -dsimp (disch:=first|omega|(simp only [go_sem]; omega)) only [go_sem,seval,Nat.reduceEqDiff,Nat.reduceLeDiff,h2,hdr,Int.toNat_natCast,List.length_map,ho]))
 refine ⟨_,_,?_,st_le (by (simp -dsimp (disch:=first|omega|(simp only [go_sem]; omega)) only [go_sem,seval,Nat.reduceEqDiff,Nat.reduceLeDiff,List.map_append,List.map_cons,List.map_nil]<;>((repeat' apply And.intro)<;>first|exact VLe.refl _|(apply vle_int; omega)|(apply vle_int; simp; done)|exact VLe.own _ _|exact VLe.nilown _|exact VLe.norm _))),i + 1,at_ + u,out ++ [x],by omega,rfl,by omega,by rw [List.length_append,ho]; rfl,hs,rfl⟩
 omega
theorem rGetBytes_ok (b:Str) (hb:b.length≤1000000):CallP Tryz.prog f_zz20 [.list (b.map eB)] (·=.tup [.str (getBytes b).1,eI (getBytes b).2.1,eI (getBytes b).2.2]):=by
 refine callP_of_W fol zz20_cp ?_
 have hg:=rGetInt_ok b
 unfold getBytes
 obtain ⟨n,a,e,hr⟩:∃ n a e,getI b=(n,a,e):=⟨_,_,_,rfl⟩
 have hq:lenQ b=if e ≠ 0 then ((0:Int),(0:Int),e) else if n < 0 then (0,0,eEnc) else if (b.length:Int) - a < n then (0,0,eTrunc) else (n,a,0):=by unfold lenQ; rw [hr]
 rw [hr] at hg
 by_cases he:e=0
 case neg =>
  rw [if_pos he] at hq
  rw [hq,if_pos he]
  (refine goX1 he (hg) ?_; (repeat' (with_reducible apply Br.mk<;>intro _)))
  exact Fin.p rfl rfl
 subst he
 obtain ⟨m,rfl,h1,h2,_,hn1,hn2⟩:=getI_canon hr
 rw [if_neg (by simp)] at hq
 by_cases hn:n < 0
 case pos =>
  rw [if_pos hn] at hq
  rw [hq,if_pos (by decide)]
  (refine goX1 hn (hg) ?_; (repeat' (with_reducible apply Br.mk<;>intro _)))
  exact Fin.p rfl rfl
 rw [if_neg hn] at hq
 by_cases hl:(b.length:Int) - m < n
 case pos =>
  rw [if_pos hl] at hq
  rw [hq,if_pos (by decide)]
  (refine goX1 (nn hn hl) (hg) ?_; (repeat' (with_reducible apply Br.mk<;>intro _)))
  exact Fin.p rfl rfl
 rw [if_neg hl] at hq
 obtain ⟨k,rfl⟩:∃ k:Nat,n=k:=⟨n.toNat,by omega⟩
 rw [hq,if_neg (by simp)]
 simp only [Int.toNat_natCast]
 have hv:vSlH 1 (some (.list (b.map eB))) (some (m:Int)) (some ((m:Int) + (k:Int)))=some (.d (.list (((b.drop m).take k).map eB))):=by
  rw [vSlH_list 1 _ _ _ (by omega) (by omega) (by rw [List.length_map]; omega),if_pos (eB_all b)]
  have e1:((m:Int) + (k:Int)).toNat=m + k:=by omega
  rw [e1,Int.toNat_natCast,List.take_drop,List.map_drop,List.map_take]
 generalize (b.drop m).take k=q at hv ⊢
 (refine goX1 (nn hn (nn hl hv)) (hg) ?_; (repeat' (with_reducible apply Br.mk<;>intro _)))
 exact Fin.p rfl rfl
end Go.Proofs.YtgoleoihpgmcbaaGreat.Wire
