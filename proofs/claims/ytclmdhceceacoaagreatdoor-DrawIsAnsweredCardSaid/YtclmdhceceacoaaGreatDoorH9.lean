/-
 Layer 44: numbers of digests,marks,shares of the reference,powers.
 Conditions: of each contract as it says.
-/
import Derived.Test.YtclmdhceceacoaaGreatDoorH6
import Derived.Test.YtclmdhceceacoaaGreatDoorS44
namespace Go.Proofs.YtclmdhceceacoaaGreatDoor
open Go Go.E2 CW CH C44
set_option linter.unusedSimpArgs false
set_option maxHeartbeats 4000000
abbrev eN (n:Nat):D:=.int .i64 (n:Int)
theorem shl_u64 {n k:Nat} (hk:k≤64) (h:n * 2 ^ k < 18446744073709551616):binD .shl (.int .u64 (n:Int)) (.int .u64 (k:Int))=some (.int .u64 ((n * 2 ^ k:Nat):Int)):=by
 simp only [binD]
 rw [if_neg (by omega),Int.toNat_natCast,Nat.min_eq_left (by simp only [IntKind.bits]; omega),show ((n:Int) * 2 ^ k)=((n * 2 ^ k:Nat):Int) from by push_cast; rfl,wrap_u64 (by omega) (by omega)]
theorem shl8_u64 {n:Nat} (h:n * 256 < 18446744073709551616):binD .shl (.int .u64 (n:Int)) (.int .u64 8)=some (.int .u64 ((n * 256:Nat):Int)):=by
 have e:2 ^ 8=256:=by decide
 have:=shl_u64 (n:=n) (k:=8) (by decide) (by rw [e]; exact h)
 rw [e] at this
 exact this
set_option maxRecDepth 100000 in
theorem or8_u64 {n:Nat} (b:UInt8) (h:n * 256 + b.toNat < 18446744073709551616):binD .or (.int .u64 ((n * 256:Nat):Int)) (.int .u64 (b.toNat:Int))=some (.int .u64 ((n * 256 + b.toNat:Nat):Int)):=by
 have hb:=b.toNat_lt
 have g1:n * 256 < 18446744073709551616:=by omega
 have g2:b.toNat < 18446744073709551616:=by omega
 have h1:=ofInt_toNat 64 (n * 256) g1
 have h2:=ofInt_toNat 64 b.toNat g2
 rw [b_or64,BitVec.toNat_or,h1,h2,Nat.mul_comm n,show 256=2 ^ 8 from rfl,← Nat.two_pow_add_eq_or_of_lt hb,wrap_u64 (by omega) (by omega)]
theorem reduce_ok (d:List UInt8) (hd:d.length=16):CallP Tryz.prog f_zz42 [eDg d] (·=.d (eN (red d))):=by
 refine CallP.of_deep (callT_of_W fol zz42_cp ?_)
 obtain ⟨d1,d2,d3,d4⟩:=dgOk hd
 obtain ⟨c,hc⟩:∃ c,c=d.map eB:=⟨_,rfl⟩
 rw [eDg]
 rw [← hc] at d1 d2 d3 d4 ⊢
 refine goS (nn d1 d3) ?_
 refine goR (nn d1 d3) ?_
 refine wNew_mk fun g hg=>?_
 have hG:(noGh.set g (some c)).c g=some c:=by simp [upd]
 generalize noGh.set g (some c)=G at hG ⊢
 refine goS trivial ?_
 refine goR trivial ?_
 refine W.loop (fun q st=>∃ (k n:Nat),k≤8∧q=8 - k∧n=be (d.take k) ∧
  st=(E [(8,.d (.int .i64 (k:Int))),(7,.d (.int .i64 8)),(6,.d (.gs g 0 8 16)),(3,.d (.int .u64 (n:Int)))],HB [],[],G))
  ⟨_,_,stle,0,0,by omega,rfl,rfl,rfl⟩ ?_
 rintro q st ⟨k,n,hk,rfl,hn,rfl⟩
 have hlt:=be_lt (d.take k)
 rw [← hn,List.length_take] at hlt
 by_cases h2:(k:Int) < 8
 case pos =>
  have hkd:k < d.length:=by omega
  have hg:=cell_get hkd
  rw [← hc,eB_mk] at hg
  have hb:=d[k].toNat_lt
  have hp:n * 256 + 256≤18446744073709551616:=by
   have h7:(256:Nat) ^ min k d.length≤256 ^ 7:=Nat.pow_le_pow_right (by decide) (by omega)
   have e:(256:Nat) ^ 7=72057594037927936:=by decide
   omega
  have a1:=shl8_u64 (n:=n) (by omega)
  have a2:=or8_u64 (n:=n) d[k] (by omega)
  (refine goX (nn h2 (nn hG (nn hg (nn a1 a2)))) ?_; (repeat' (with_reducible apply Br.mk<;>intro _)))
  refine ⟨_,_,?_,stle,k + 1,n * 256 + d[k].toNat,by omega,rfl,?_,rfl⟩
  · omega
  · rw [List.take_succ_eq_append_getElem hkd,be_snoc,hn]
 obtain rfl:k=8:=by omega
 have hr:red d=n % 2147483647:=by rw [red,← hn]
 rw [hr]
 have q1:(n:Int).tmod 2147483647=((n % 2147483647:Nat):Int):=by rw [Int.tmod_eq_emod_of_nonneg (by omega)]; omega
 have hlt2:n % 2147483647 < 2147483647:=Nat.mod_lt _ (by decide)
 generalize n % 2147483647=m at *
 (refine goX (nn h2 q1) ?_; (repeat' (with_reducible apply Br.mk<;>intro _)))
 exact Fin.eq rfl ⟨rfl,_,.refl _,rfl⟩
end Go.Proofs.YtclmdhceceacoaaGreatDoor
/-
 Layer 44: marks,shares of the reference,digests under a lot,powers.
 Conditions: of each contract as it says.
-/
namespace Go.Proofs.YtclmdhceceacoaaGreatDoor
open Go Go.E2 CW CH C44
set_option linter.unusedSimpArgs false
set_option maxHeartbeats 4000000
theorem i64_nat {n:Nat} (h:n < 4294967296):i64 (n:Int):=⟨by omega,by omega⟩
def mark (h i s:Int):List UInt8:=dig 193 ([h,i,s].map intB)
theorem mark_len (h i s:Int):(mark h i s).length=16:=dig_len _ _
theorem coef_ok (h s k:Nat) (h1:h < 12) (h2:s < P) (h3:k < 12):i64 (h:Int)∧i64 (s:Int)∧i64 ((k + 1:Nat):Int):=by
 have:P=2147483647:=rfl
 exact ⟨i64_nat (by omega),i64_nat (by omega),i64_nat (by omega)⟩
def undr (lot:List UInt8) (purpose n:Int):List UInt8:=dig 194 [intB purpose,lot,intB n]
theorem undr_len (lot:List UInt8) (p n:Int):(undr lot p n).length=16:=dig_len _ _
theorem undr_parts {lot:List UInt8} {p n:Int} (hl:lot.length=16) (hp:i64 p) (hn:i64 n):∀ s ∈ [intB p,lot,intB n],s.length≤2000:=by
 have h1:=intB_len hp
 have h2:=intB_len hn
 simp only [List.mem_cons,List.not_mem_nil,or_false,forall_eq_or_imp,forall_eq]
 exact ⟨by omega,by omega,by omega⟩
theorem under_ok (lot:List UInt8) (hl:lot.length=16) (p n:Int) (hp:i64 p) (hn:i64 n):CallP Tryz.prog f_zz49 [eDg lot,eI p,eI n] (·=.d (eDg (undr lot p n))):=by
 refine CallP.of_deep (callT_of_W fol zz49_cp ?_)
 have hi1:=Int_ok p hp
 have hi2:=Int_ok n hn
 have ho:=Of_ok 194 (by decide) [intB p,lot,intB n] (by simp) (undr_parts hl hp hn)
 rw [show (194:Int).toNat=194 from rfl,← undr] at ho
 have hdl:=undr_len lot p n
 obtain ⟨d1,d2,d3,d4⟩:=dgOk hdl
 obtain ⟨l1,l2,l3,l4⟩:=dgOk hl
 obtain ⟨z16,hz16⟩:∃ z,z=zr 16 (D.int .u8 0):=⟨_,rfl⟩
 have z16l:z16.length=16:=by rw [hz16]; rfl
 have z16d:List.drop 16 z16=[]:=by rw [hz16]; rfl
 have z16e:zr 16 (D.int .u8 0)=z16:=hz16.symm
 obtain ⟨cl,hcl⟩:∃ cl,cl=lot.map eB:=⟨_,rfl⟩
 unfold eDg at ho ⊢
 rw [← hcl] at l1 l2 l3 l4 ⊢
 generalize (undr lot p n).map eB=c at *
 simp only [List.map_cons,List.map_nil] at ho
 refine goS (nn l1 (nn l3 z16e)) ?_
 refine goR (nn l1 (nn l3 z16e)) ?_
 refine wNew_mk fun g hg=>?_
 have hG:(noGh.set g (some cl)).c g=some cl:=by simp [upd]
 generalize noGh.set g (some cl)=G at hG ⊢
 have ev:gdD .b2s [.gs g 0 16 16] G=some (.d (.str lot),G):=by
  have hv:viewC G 1 (.gs g 0 16 16)=some (16,cl):=by
   simp only [viewC,hG]
   rw [if_pos (by omega),List.drop_zero,l2]
  simp only [gdD,hv]
  rw [hcl,bytesD_map]; rfl
 refine goS z16e ?_
 (refine goX3 (nn z16e (nn z16l (nn z16d (nn d1 d3)))) (hi1) (hi2) (ho) ?_; (repeat' (with_reducible apply Br.mk<;>intro _)))
 refine wGd_mk ev ?_
 refine goS trivial ?_
 (refine goX3 (nn z16e (nn z16l (nn z16d (nn d1 d3)))) (hi1) (hi2) (ho) ?_; (repeat' (with_reducible apply Br.mk<;>intro _)))
 exact Fin.eq (r:=.d (.agg c)) (by simp -dsimp (disch:=first|omega|(simp only [go_sem]; omega)) only [go_sem,seval,Nat.reduceEqDiff,Nat.reduceLeDiff,d1,d2,d3]) ⟨rfl,_,.refl _,rfl⟩
theorem and1 {e:Nat} (h:e < 4611686018427387904):binD .and (.int .i64 (e:Int)) (.int .i64 1)=some (.int .i64 ((e % 2:Nat):Int)):=by
 have g1:e < 18446744073709551616:=by omega
 have h1:=ofInt_toNat 64 e g1
 have h2:=ofInt_toNat 64 1 (by decide)
 show some (D.int .i64 (IntKind.i64.wrap ((BitVec.ofInt 64 (e:Int) &&& BitVec.ofInt 64 ((1:Nat):Int)).toNat:Int)))=_
 rw [BitVec.toNat_and,h1,h2,show 1=2 ^ 1 - 1 from rfl,Nat.and_two_pow_sub_one_eq_mod]
 rw [wrap_i64 (by omega) (by omega)]
theorem power_ok (n e:Nat) (h1:n < P) (h2:e < 2147483648):CallP Tryz.prog f_zz48 [eN n,eN e] (·=.d (eN (pw 31 (toF n) e).val)):=by
 refine callP_of_W fol zz48_cp ?_
 have hP:P=2147483647:=rfl
 have h0:toF 1 * pw 31 (toF n) e=pw 31 (toF n) e:=by
  have:toF 1=1:=rfl
  rw [this]; grobner
 refine goS trivial ?_
 (refine goX trivial ?_; (repeat' (with_reducible apply Br.mk<;>intro _)))
 refine W.loop (fun q st=>∃ (k e' out x:Nat),q=e'∧e' < 2 ^ k∧e' < 2147483648∧out < P∧x < P∧toF out * pw k (toF x) e'=pw 31 (toF n) e ∧
  st=(E [(5,.d (eN out)),(0,.d (eN x)),(1,.d (eN e'))],HB [],[],noGh))
  ⟨_,_,stle,31,e,1,n,rfl,(show e < 2 ^ 31 from h2),h2,by decide,h1,h0,rfl⟩ ?_
 rintro q st ⟨k,e',out,x,rfl,hk,he,ho,hx,hI,rfl⟩
 rw [hP] at ho hx
 by_cases g1:(0:Int) < (q:Int)
 case neg =>
  obtain rfl:q=0:=by omega
  rw [pw_zero] at hI
  have:out=(pw 31 (toF n) e).val:=by
   have h3:toF out=pw 31 (toF n) e:=by rw [← hI]; grobner
   rw [← h3,toF_val,Nat.mod_eq_of_lt (by rw [hP]; exact ho)]
  (refine goX g1 ?_; (repeat' (with_reducible apply Br.mk<;>intro _)))
  exact Fin.p rfl (by rw [this])
 obtain ⟨k,rfl⟩:∃ j,k=j + 1:=⟨k - 1,by
  have:k ≠ 0:=by rintro rfl; rw [Nat.pow_zero] at hk; omega
  omega⟩
 have a1:=and1 (e:=q) (by omega)
 have a2:(q:Int) / 2=((q / 2:Nat):Int):=by omega
 have b1:out * x≤2147483647 * 2147483647:=Nat.mul_le_mul (by omega) (by omega)
 have b2:x * x≤2147483647 * 2147483647:=Nat.mul_le_mul (by omega) (by omega)
 have e1:(out:Int) * (x:Int)=((out * x:Nat):Int):=by rw [Int.natCast_mul]
 have e2:(x:Int) * (x:Int)=((x * x:Nat):Int):=by rw [Int.natCast_mul]
 have q1:((out * x:Nat):Int).tmod 2147483647=((out * x % 2147483647:Nat):Int):=by rw [Int.tmod_eq_emod_of_nonneg (Int.natCast_nonneg _)]; rfl
 have q2:((x * x:Nat):Int).tmod 2147483647=((x * x % 2147483647:Nat):Int):=by rw [Int.tmod_eq_emod_of_nonneg (Int.natCast_nonneg _)]; rfl
 have hx2:toF (x * x % 2147483647)=toF x * toF x:=by rw [← hP,toF_mod,toF_mul]
 have ho2:toF (out * x % 2147483647)=toF out * toF x:=by rw [← hP,toF_mod,toF_mul]
 have l1:out * x % 2147483647 < 2147483647:=Nat.mod_lt _ (by decide)
 have l2:x * x % 2147483647 < 2147483647:=Nat.mod_lt _ (by decide)
 have hk2:q / 2 < 2 ^ k:=by rw [Nat.pow_succ] at hk; omega
 rw [pw] at hI
 generalize out * x % 2147483647=o2 at *
 generalize x * x % 2147483647=x2 at *
 generalize out * x=ox at *
 generalize x * x=xx at *
 by_cases g2:q % 2=1
 case pos =>
  rw [if_pos g2,← hx2] at hI
  have g3:((q % 2:Nat):Int)=1:=by omega
  (refine goX (nn g1 (nn a1 (nn g3 (nn e1 (nn q1 (nn e2 (nn q2 a2))))))) ?_; (repeat' (with_reducible apply Br.mk<;>intro _)))
  refine ⟨_,_,?_,stle,k,q / 2,o2,x2,rfl,hk2,by omega,by omega,by omega,?_,rfl⟩
  · omega
  · rw [← hI,ho2]; grobner
 rw [if_neg g2,← hx2] at hI
 have g3:(((q % 2:Nat):Int)=1)=False:=eq_false (by omega)
 (refine goX (nn g1 (nn a1 (nn g3 (nn e1 (nn q1 (nn e2 (nn q2 a2))))))) ?_; (repeat' (with_reducible apply Br.mk<;>intro _)))
 refine ⟨_,_,?_,stle,k,q / 2,out,x2,rfl,hk2,by omega,by omega,by omega,?_,rfl⟩
 · omega
 · rw [← hI]; grobner
theorem isHouse_ok (n:Int):CallP Tryz.prog f_zz40 [eI n] (·=.d (.bool (decide (0≤n∧n < 12)))):=by
 refine callP_of_W fol zz40_cp ?_
 by_cases h1:0≤n<;>by_cases h2:n < 12
 all_goals
  refine goS trivial ?_
  (refine goX (nn h1 h2) ?_; (repeat' (with_reducible apply Br.mk<;>intro _)))
  exact Fin.p rfl (by simp [h1,h2])
theorem isNumber_ok (n:Int):CallP Tryz.prog f_zz32 [eI n] (·=.d (.bool (decide (0≤n∧n < 2147483647)))):=by
 refine callP_of_W fol zz32_cp ?_
 by_cases h1:0≤n<;>by_cases h2:n < 2147483647
 all_goals
  refine goS trivial ?_
  (refine goX (nn h1 h2) ?_; (repeat' (with_reducible apply Br.mk<;>intro _)))
  exact Fin.p rfl (by simp [h1,h2])
end Go.Proofs.YtclmdhceceacoaaGreatDoor
