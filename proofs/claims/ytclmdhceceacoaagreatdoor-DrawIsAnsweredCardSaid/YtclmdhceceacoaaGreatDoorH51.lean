/-
 Layer 43: residues,sums,symbols,keys.
 Conditions: of each contract as it says.
-/
import Derived.Test.YtclmdhceceacoaaGreatDoorH14
import Derived.Test.YtclmdhceceacoaaGreatDoorT44t
import Derived.Test.YtclmdhceceacoaaGreatDoorS44
import Derived.Test.YtclmdhceceacoaaGreatDoorEN13
namespace Go.Proofs.YtclmdhceceacoaaGreatDoor
open Go Go.E2 CW CH C44
set_option linter.unusedSimpArgs false
set_option maxHeartbeats 4000000
def bad (n:Int):Prop:=¬ (0≤n∧n < 2147483647)
instance (n:Int):Decidable (bad n):=inferInstanceAs (Decidable (¬ _))
theorem wild_ok (n:Int):CallP Tryz.prog f_zz61 [eI n] (·=.d (.bool (decide (bad n)))):=by
 refine callP_of_W fol zz61_cp ?_
 by_cases h1:n < 0
 · have hb:bad n:=fun h=>by omega
   rw [decide_eq_true hb]
   refine goS trivial ?_
   (refine goX h1 ?_; (repeat' (with_reducible apply Br.mk<;>intro _)))
   exact Fin.p rfl rfl
 · by_cases h2:n ≥ 2147483647
   · have hb:bad n:=fun h=>by omega
     rw [decide_eq_true hb]
     refine goS trivial ?_
     (refine goX (nn h1 h2) ?_; (repeat' (with_reducible apply Br.mk<;>intro _)))
     exact Fin.p rfl rfl
   · rw [decide_eq_false (fun h:bad n=>h ⟨by omega,by omega⟩)]
     refine goS trivial ?_
     (refine goX (nn h1 h2) ?_; (repeat' (with_reducible apply Br.mk<;>intro _)))
     exact Fin.p rfl rfl
def anyBad (l:List Int):Bool:=decide (∃ x ∈ l,bad x)
theorem IndexFunc_ok (l:List Int) (hl:l.length≤1000000):CallP Tryz.prog f_zz5 [.list (l.map eI),.fn f_zz61] (fun r=>∃ k:Int,r=.d (eI k)∧(k ≥ 0↔anyBad l=true)):=by
 refine callP_of_W fol zz5_cp ?_
 refine goS trivial ?_
 (refine goX trivial ?_; (repeat' (with_reducible apply Br.mk<;>intro _)))
 refine W.loop (fun q st=>∃ k:Nat,k≤l.length∧q=l.length - k∧(∀ x ∈ l.take k,¬ bad x) ∧
  st=(E [(8,.d (eN k)),(7,.d (eN l.length)),(0,.d (.list (l.map eI))),(1,.d (.fn f_zz61))],HB [],[],noGh))
  ⟨_,_,stleB (by rfl),0,by omega,rfl,by simp,rfl⟩ ?_
 rintro q st ⟨k,hk,rfl,hn,rfl⟩
 by_cases g1:(k:Int) < (l.length:Int)
 case neg =>
  obtain rfl:k=l.length:=by omega
  rw [List.take_length] at hn
  (refine goX g1 ?_; (repeat' (with_reducible apply Br.mk<;>intro _)))
  exact Fin.p rfl ⟨-1,rfl,⟨fun h=>by omega,fun h=>by
   obtain ⟨x,hx,hb⟩:=of_decide_eq_true h
   exact absurd hb (hn x hx)⟩⟩
 have hk':k < l.length:=by omega
 have hw:=wild_ok l[k]
 by_cases g2:bad l[k]
 · rw [decide_eq_true g2] at hw
   have ha:anyBad l=true:=decide_eq_true ⟨_,List.getElem_mem hk',g2⟩
   (refine goX1 (nn g1 hk') (hw) ?_; (repeat' (with_reducible apply Br.mk<;>intro _)))
   exact Fin.p rfl ⟨k,rfl,⟨fun _=>ha,fun _=>by omega⟩⟩
 · rw [decide_eq_false g2] at hw
   have hn':∀ x ∈ l.take (k + 1),¬ bad x:=fun x hx=>by
    rw [List.take_succ_eq_append_getElem hk',List.mem_append,List.mem_singleton] at hx
    rcases hx with h|h
    · exact hn x h
    · rw [h]; exact g2
   (refine goX1 (nn g1 hk') (hw) ?_; (repeat' (with_reducible apply Br.mk<;>intro _)))
   refine ⟨_,_,?_,stleB (by rfl),k + 1,by omega,rfl,hn',rfl⟩
   omega
theorem ContainsFunc_ok (l:List Int) (hl:l.length≤1000000):CallP Tryz.prog f_zz2 [.list (l.map eI),.fn f_zz61] (·=.d (.bool (anyBad l))):=by
 refine callP_of_W fol zz2_cp ?_
 refine goS trivial ?_
 refine goR trivial ?_
 refine wC_P (IndexFunc_ok l hl) ?_ ?_
 focus (simp -dsimp (disch:=first|omega|(simp only [go_sem]; omega)) only [go_sem,seval,Nat.reduceEqDiff,Nat.reduceLeDiff]<;>rfl)
 rintro _ ⟨k,rfl,hk⟩
 by_cases h:k ≥ 0
 · rw [hk.1 h]
   refine goS h ?_
   (refine goX h ?_; (repeat' (with_reducible apply Br.mk<;>intro _)))
   exact Fin.p rfl rfl
 · have:anyBad l=false:=by
    cases e:anyBad l with
    | false=>rfl
    | true=>exact absurd (hk.2 e) h
   rw [this]
   refine goS h ?_
   (refine goX h ?_; (repeat' (with_reducible apply Br.mk<;>intro _)))
   exact Fin.p rfl rfl
theorem anyBad_false {l:List Int}:anyBad l=false↔∀ x ∈ l,¬ bad x:=by
 unfold anyBad; rw [decide_eq_false_iff_not]
 exact ⟨fun h x hx hb=>h ⟨x,hx,hb⟩,fun h ⟨x,hx,hb⟩=>h x hx hb⟩
def res (l:List Nat):Prop:=∀ x ∈ l,x < P
theorem res_any {l:List Nat} (h:res l):anyBad (l.map fun x:Nat=>(x:Int))=false:=by
 rw [anyBad_false]
 intro x hx hb
 obtain ⟨y,hy,rfl⟩:=List.mem_map.1 hx
 have:=h y hy
 have hP:P=2147483647:=rfl
 exact hb ⟨by omega,by omega⟩
theorem eI_N (l:List Nat):(l.map fun x:Nat=>(x:Int)).map eI=l.map eN:=by rw [List.map_map]; rfl
theorem ContainsN_ok {l:List Nat} (h:res l) (hl:l.length≤1000000):CallP Tryz.prog f_zz2 [.list (l.map eN),.fn f_zz61] (·=.d (.bool false)):=by
 have:=ContainsFunc_ok (l.map fun x:Nat=>(x:Int)) (by rw [List.length_map]; exact hl)
 rwa [res_any h,eI_N] at this
theorem mulP {a b:Nat} (ha:a < P) (hb:b < P):((a:Int) * (b:Int))=((a * b:Nat):Int)∧a * b < 4611686014132420609 + 1:=by
 have hP:P=2147483647:=rfl
 have:a * b≤2147483646 * 2147483646:=Nat.mul_le_mul (by omega) (by omega)
 exact ⟨by simp,by omega⟩
theorem times_ok (a b:Nat) (ha:a < P) (hb:b < P):CallP Tryz.prog f_zz24 [eN a,eN b] (·=.d (eN (a * b % P))):=by
 refine callP_of_W fol zz24_cp ?_
 obtain ⟨h1,h2⟩:=mulP ha hb
 have h3:=md (a * b)
 generalize a * b=m at *
 refine goS (nn h1 h2) ?_
 (refine goX (nn h1 (nn h2 h3)) ?_; (repeat' (with_reducible apply Br.mk<;>intro _)))
 exact Fin.p rfl rfl
theorem sum_ok (l:List Nat) (hr:res l) (hl:l.length≤1000000):CallP Tryz.prog f_zz65 [.list (l.map eN)] (·=.d (eN (l.sum % P))):=by
 refine callP_of_W fol zz65_cp ?_
 have hP:P=2147483647:=rfl
 refine goS trivial ?_
 (refine goX trivial ?_; (repeat' (with_reducible apply Br.mk<;>intro _)))
 refine W.loop (fun q st=>∃ k:Nat,k≤l.length∧q=l.length - k ∧
  st=(E [(8,.d (eN k)),(7,.d (eN l.length)),(6,.d (.list (l.map eN))),(3,.d (eN ((l.take k).sum % P)))],HB [],[],noGh))
  ⟨_,_,stleB (by rfl),0,by omega,rfl,rfl⟩ ?_
 rintro q st ⟨k,hk,rfl,rfl⟩
 by_cases g1:(k:Int) < (l.length:Int)
 case neg =>
  obtain rfl:k=l.length:=by omega
  rw [List.take_length]
  (refine goX g1 ?_; (repeat' (with_reducible apply Br.mk<;>intro _)))
  exact Fin.p rfl rfl
 have hk':k < l.length:=by omega
 have hx:=hr _ (List.getElem_mem hk')
 have hs:(l.take (k + 1)).sum=(l.take k).sum + l[k]:=by rw [List.take_succ_eq_append_getElem hk',List.sum_append]; simp
 have hm:(l.take k).sum % P < P:=Nat.mod_lt _ (by decide)
 have hs2:(l.take (k + 1)).sum % P=((l.take k).sum % P + l[k]) % P:=by rw [hs,Nat.mod_add_mod]
 generalize (l.take k).sum % P=a at *
 generalize hxe:l[k]=x at *
 clear hs
 by_cases g2:(a:Int) + (x:Int) ≥ 2147483647
 · have e:((l.take (k + 1)).sum % P:Nat)=a + x - 2147483647:=by rw [hs2]; show (a + x) % 2147483647=_; omega
   have e2:(a:Int) + (x:Int) - 2147483647=((a + x - 2147483647:Nat):Int):=by omega
   (refine goX (nn g1 (nn g2 (nn hk' (nn hxe e2)))) ?_; (repeat' (with_reducible apply Br.mk<;>intro _)))
   refine ⟨_,_,?_,st_leB (by (simp -dsimp (disch:=first|omega|(simp only [go_sem]; omega)) only [go_sem,seval,Nat.reduceEqDiff,Nat.reduceLeDiff,e]<;>((repeat' apply And.intro)<;>first|exact VLe.refl _|(apply vle_int; omega)|(apply vle_int; simp; done)|exact VLe.own _ _|exact VLe.nilown _|exact VLe.norm _))) (by rfl),k + 1,by omega,rfl,rfl⟩
   omega
 · have e:((l.take (k + 1)).sum % P:Nat)=a + x:=by rw [hs2]; show (a + x) % 2147483647=_; omega
   (refine goX (nn g1 (nn g2 (nn hk' hxe))) ?_; (repeat' (with_reducible apply Br.mk<;>intro _)))
   refine ⟨_,_,?_,st_leB (by (simp -dsimp (disch:=first|omega|(simp only [go_sem]; omega)) only [go_sem,seval,Nat.reduceEqDiff,Nat.reduceLeDiff,e]<;>((repeat' apply And.intro)<;>first|exact VLe.refl _|(apply vle_int; omega)|(apply vle_int; simp; done)|exact VLe.own _ _|exact VLe.nilown _|exact VLe.norm _))) (by rfl),k + 1,by omega,rfl,rfl⟩
   omega
theorem getD_get {l:List Nat} {k:Nat} (h:k < l.length):l.getD k 0=l[k]:=by rw [List.getD_eq_getElem?_getD,List.getElem?_eq_getElem h]; rfl
def terms (a b:List Nat) (n:Nat):List Nat:=(List.range n).map fun j=>a.getD j 0 * b.getD j 0 % P
theorem terms_succ (a b:List Nat) (n:Nat):terms a b (n + 1)=terms a b n ++ [a.getD n 0 * b.getD n 0 % P]:=by simp [terms,List.range_succ]
theorem terms_res (a b:List Nat) (n:Nat):res (terms a b n):=fun x hx=>by
 obtain ⟨j,_,rfl⟩:=List.mem_map.1 hx
 exact Nat.mod_lt _ (by decide)
theorem terms_len (a b:List Nat) (n:Nat):(terms a b n).length=n:=by simp [terms]
theorem terms_sum (a b:List Nat):∀ n,(terms a b n).sum % P=fsum (fun j=>a.getD j 0 * b.getD j 0) n % P
 | 0=>rfl
 | n + 1=>by
   rw [terms_succ,List.sum_append,fsum,Nat.add_mod,terms_sum a b n,← Nat.add_mod]
   simp
theorem product_ok (a b:List Nat) (ha:res a) (hb:res b) (h:b.length≤a.length) (hl:a.length≤100000):CallP Tryz.prog f_zz45 [.list (a.map eN),.list (b.map eN)] (·=.d (eN (fsum (fun j=>a.getD j 0 * b.getD j 0) b.length % P))):=by
 refine callP_of_W fol zz45_cp ?_
 have hm:=mostBytes_eq
 refine goS trivial ?_
 (refine goX trivial ?_; (repeat' (with_reducible apply Br.mk<;>intro _)))
 refine W.loop (fun q st=>∃ k:Nat,k≤b.length∧q=b.length - k ∧
  st=(E [(11,.d (eN k)),(10,.d (eN b.length)),(9,.d (.list (b.map eN))),(5,.own 1 ((terms a b k).map eN)),(0,.d (.list (a.map eN)))],HB [],[],noGh))
  ⟨_,_,stleB (by rfl),0,by omega,rfl,rfl⟩ ?_
 rintro q st ⟨k,hk,rfl,rfl⟩
 have htl:=terms_len a b k
 by_cases g1:(k:Int) < (b.length:Int)
 case neg =>
  obtain rfl:k=b.length:=by omega
  have hs:=sum_ok (terms a b b.length) (terms_res a b _) (by omega)
  rw [terms_sum] at hs
  (refine goX1 g1 (hs) ?_; (repeat' (with_reducible apply Br.mk<;>intro _)))
  exact Fin.p rfl rfl
 have hk':k < b.length:=by omega
 have hk2:k < a.length:=by omega
 have hts:=terms_succ a b k
 rw [getD_get hk2,getD_get hk'] at hts
 have ht:=times_ok a[k] b[k] (ha _ (List.getElem_mem hk2)) (hb _ (List.getElem_mem hk'))
 generalize terms a b k=T at *
 generalize hae:a[k]=x at *
 generalize hbe:b[k]=y at *
 have hel:T.map eN ++ [eN (x * y % P)]=(terms a b (k + 1)).map eN:=by rw [hts,List.map_append]; rfl
 (refine goX (nn g1 (nn hk' (nn hk2 (nn hae hbe)))) ?_; (repeat' (with_reducible apply Br.mk<;>intro _)))
 refine goB (xs:=[eN x]) (vs:=[eN y]) ht ?_
 (refine goX (nn htl hel) ?_; (repeat' (with_reducible apply Br.mk<;>intro _)))
 refine ⟨_,_,?_,stleB (by rfl),k + 1,by omega,rfl,rfl⟩
 omega
end Go.Proofs.YtclmdhceceacoaaGreatDoor
/-
 Layer 43: symbols of a block,keys,tags.
 Conditions: of each contract as it says.
-/
namespace Go.Proofs.YtclmdhceceacoaaGreatDoor
open Go Go.E2 CW CH C44
set_option linter.unusedSimpArgs false
set_option maxHeartbeats 4000000
theorem wrapB (x:UInt8):IntKind.i64.wrap (x.toNat:Int)=(x.toNat:Int):=by
 have:=UInt8.toNat_lt x
 exact wrap_i64 (by omega) (by omega)
theorem Symbols1_ok (b:Nat) (s:List UInt8) (k:Nat):CallR Tryz.prog f_zz36 [eN k,.gp b 0] [CellA b [.str s]] (·=.d (eN (byAt s k))):=by
 refine callR_of_W fol zz36_cp fun R G σ hs=>?_
 have hb:G.c b=some [.str s]:=hs.get
 by_cases h:(k:Int) < (s.length:Int)
 · have hk:k < s.length:=by omega
   have hy:byAt s k=s[k].toNat:=by rw [byAt,dif_pos hk]
   rw [hy]
   refine goS trivial ?_
   have hw:=wrapB s[k]
   (refine goX (nn hb (nn h (nn hk hw))) ?_; (repeat' (with_reducible apply Br.mk<;>intro _)))
   exact Fin.eq rfl ⟨rfl,rfl,rfl⟩
 · have hy:byAt s k=0:=by rw [byAt,dif_neg (by omega)]
   rw [hy]
   refine goS trivial ?_
   (refine goX (nn hb h) ?_; (repeat' (with_reducible apply Br.mk<;>intro _)))
   exact Fin.eq rfl ⟨rfl,rfl,rfl⟩
theorem shl_i64 {n k:Nat} (hk:k≤64) (h:n * 2 ^ k < 4611686018427387904):binD .shl (.int .i64 (n:Int)) (.int .u64 (k:Int))=some (.int .i64 ((n * 2 ^ k:Nat):Int)):=by
 simp only [binD]
 rw [if_neg (by omega),Int.toNat_natCast,Nat.min_eq_left (by simp only [IntKind.bits]; omega),show ((n:Int) * 2 ^ k)=((n * 2 ^ k:Nat):Int) from by push_cast; rfl,wrap_i64 (by omega) (by omega)]
theorem b_ori64 (a b:Int):binD .or (.int .i64 a) (.int .i64 b)=some (.int .i64 (IntKind.i64.wrap ((BitVec.ofInt 64 a ||| BitVec.ofInt 64 b).toNat:Int))):=rfl
set_option maxRecDepth 100000 in
theorem or_i64 {a b:Nat} (k:Nat) (hb:b < 2 ^ k) (h:a * 2 ^ k + b < 4611686018427387904):binD .or (.int .i64 ((a * 2 ^ k:Nat):Int)) (.int .i64 (b:Int))=some (.int .i64 ((a * 2 ^ k + b:Nat):Int)):=by
 have g1:a * 2 ^ k < 18446744073709551616:=by omega
 have g2:b < 18446744073709551616:=by omega
 have h1:=ofInt_toNat 64 (a * 2 ^ k) g1
 have h2:=ofInt_toNat 64 b g2
 have h5:(BitVec.ofInt 64 ((a * 2 ^ k:Nat):Int) ||| BitVec.ofInt 64 (b:Int)).toNat=a * 2 ^ k + b:=by rw [BitVec.toNat_or,h1,h2,Nat.mul_comm,← Nat.two_pow_add_eq_or_of_lt hb]
 rw [b_ori64,h5,wrap_i64 (by omega) (by omega)]
theorem sym_bits {a b c:Nat} (ha:a < 256) (hb:b < 256) (hc:c < 256) :
 binD .shl (eN a) (.int .u64 16)=some (eN (a * 65536))∧binD .shl (eN b) (.int .u64 8)=some (eN (b * 256)) ∧
 binD .or (eN (a * 65536)) (eN (b * 256))=some (eN (a * 65536 + b * 256))∧binD .or (eN (a * 65536 + b * 256)) (eN c)=some (eN ((a * 256 + b) * 256 + c)):=by
 have e16:2 ^ 16=65536:=by decide
 have e8:2 ^ 8=256:=by decide
 have h1:=shl_i64 (n:=a) (k:=16) (by decide) (by rw [e16]; omega)
 have h2:=shl_i64 (n:=b) (k:=8) (by decide) (by rw [e8]; omega)
 have h3:=or_i64 (a:=a) (b:=b * 256) 16 (by rw [e16]; omega) (by rw [e16]; omega)
 have h4:=or_i64 (a:=a * 256 + b) (b:=c) 8 (by rw [e8]; omega) (by rw [e8]; omega)
 rw [e16] at h1 h3
 rw [e8] at h2 h4
 have e:(a * 256 + b) * 256=a * 65536 + b * 256:=by omega
 refine ⟨h1,h2,h3,?_⟩
 rw [e] at h4 ⊢
 exact h4
theorem Symbols_ok (s:List UInt8) (hs:s.length≤100000):CallP Tryz.prog f_zz44 [.str s] (·=.d (.list ((syms s).map eN))):=by
 refine CallP.of_deep (callT_of_W fol zz44_cp ?_)
 have hm:=mostBytes_eq
 have hsn:syN s≤s.length:=by unfold syN; omega
 have hsr:3 * syN s < s.length + 3∧s.length≤3 * syN s:=by unfold syN; omega
 refine goS trivial ?_
 refine goR trivial ?_
 refine wNew_mk fun b hb=>?_
 have hb0:(noGh.set b (some [.str s])).c b=some [.str s]:=by simp [upd]
 have hsep:Sep [CellA b [.str s]] (noGh.set b (some [.str s])):=Sep.new hb Sep.nil
 generalize noGh.set b (some [.str s])=G at hb0 hsep ⊢
 refine goS trivial ?_
 (refine goX trivial ?_; (repeat' (with_reducible apply Br.mk<;>intro _)))
 refine W.loop (fun q st=>∃ (k:Nat) (T:List D),k≤syN s∧q=syN s - k∧T=((List.range k).map (sy s)).map eN ∧
  st=(E [(5,.d (eN (3 * k))),(4,.own 1 T),(3,.d (.clo f_zz36 [.gp b 0])),(1,.d (.gp b 0))],HB [],[],G))
  ⟨_,_,stleB (by rfl),0,[],by omega,rfl,rfl,rfl⟩ ?_
 rintro q st ⟨k,T,hk,rfl,hT,rfl⟩
 by_cases g1:((3 * k:Nat):Int) < (s.length:Int)
 case neg =>
  obtain rfl:k=syN s:=by omega
  have hsy:(List.range (syN s)).map (sy s)=syms s:=rfl
  rw [hsy] at hT
  rw [← hT]
  (refine goX (nn hb0 g1) ?_; (repeat' (with_reducible apply Br.mk<;>intro _)))
  exact Fin.eq rfl ⟨rfl,_,.refl _,rfl⟩
 have hkl:k < syN s:=by omega
 have s0:=(Symbols1_ok b s (3 * k)).q hsep
 have s1:=(Symbols1_ok b s (3 * k + 1)).q hsep
 have s2:=(Symbols1_ok b s (3 * k + 2)).q hsep
 have e1:((3 * k:Nat):Int) + 1=((3 * k + 1:Nat):Int):=by omega
 have e2:((3 * k:Nat):Int) + 2=((3 * k + 2:Nat):Int):=by omega
 have e3:((3 * k:Nat):Int) + 3=((3 * (k + 1):Nat):Int):=by omega
 obtain ⟨f1,f2,f3,f4⟩:=sym_bits (byAt_lt s (3 * k)) (byAt_lt s (3 * k + 1)) (byAt_lt s (3 * k + 2))
 have hel:T ++ [eN ((byAt s (3 * k) * 256 + byAt s (3 * k + 1)) * 256 + byAt s (3 * k + 2))]=((List.range (k + 1)).map (sy s)).map eN:=by
  rw [hT,List.range_succ,List.map_append,List.map_append]; rfl
 have hll:T.length=k:=by rw [hT]; simp
 have hsl:=sy_lt s k
 have hsd:sy s k=(byAt s (3 * k) * 256 + byAt s (3 * k + 1)) * 256 + byAt s (3 * k + 2):=rfl
 generalize hT':((List.range (k + 1)).map (sy s)).map eN=T' at hel
 generalize byAt s (3 * k)=x0 at *
 generalize byAt s (3 * k + 1)=x1 at *
 generalize byAt s (3 * k + 2)=x2 at *
 (refine goX (nn hb0 g1) ?_; (repeat' (with_reducible apply Br.mk<;>intro _)))
 refine goK (vs:=[eN (3 * k)]) (cs:=[.gp b 0]) s0 ?_
 (refine goX (nn e1 f1) ?_; (repeat' (with_reducible apply Br.mk<;>intro _)))
 refine goK (vs:=[eN (3 * k + 1)]) (cs:=[.gp b 0]) s1 ?_
 (refine goX (nn e1 (nn e2 (nn f1 (nn f2 f3)))) ?_; (repeat' (with_reducible apply Br.mk<;>intro _)))
 refine goK (vs:=[eN (3 * k + 2)]) (cs:=[.gp b 0]) s2 ?_
 (refine goX (nn e1 (nn e2 (nn e3 (nn f1 (nn f2 (nn f3 (nn f4 (nn hel hll)))))))) ?_; (repeat' (with_reducible apply Br.mk<;>intro _)))
 refine ⟨_,_,?_,stleB (by rfl),k + 1,T',by omega,rfl,hT'.symm,rfl⟩
 omega
def keyE (mix seeds:List Int):Nat:=if mix.length < 1∨mix.length > 64∨seeds.length > 200 then 2 else if anyBad mix=true∨anyBad seeds=true then 3 else 0
theorem Check_ok (mix seeds:List Int):CallP Tryz.prog f_zz57 [.agg [.list (mix.map eI),.list (seeds.map eI)]] (·=.d (eN (keyE mix seeds))):=by
 refine callP_of_W fol zz57_cp ?_
 by_cases h1:(mix.length:Int) < 1
 · have hk:keyE mix seeds=2:=if_pos (.inl (by omega))
   rw [hk]
   refine goS trivial ?_
   (refine goX h1 ?_; (repeat' (with_reducible apply Br.mk<;>intro _)))
   exact Fin.p rfl rfl
 by_cases h2:(mix.length:Int) > 64
 · have hk:keyE mix seeds=2:=if_pos (.inr (.inl (by omega)))
   rw [hk]
   refine goS trivial ?_
   (refine goX (nn h1 h2) ?_; (repeat' (with_reducible apply Br.mk<;>intro _)))
   exact Fin.p rfl rfl
 by_cases h3:(seeds.length:Int) > 200
 · have hk:keyE mix seeds=2:=if_pos (.inr (.inr (by omega)))
   rw [hk]
   refine goS trivial ?_
   (refine goX (nn h1 (nn h2 h3)) ?_; (repeat' (with_reducible apply Br.mk<;>intro _)))
   exact Fin.p rfl rfl
 have c1:=ContainsFunc_ok mix (by omega)
 have c2:=ContainsFunc_ok seeds (by omega)
 have hn:¬ (mix.length < 1∨mix.length > 64∨seeds.length > 200):=by omega
 cases a1:anyBad mix with
 | true =>
  rw [a1] at c1
  have hk:keyE mix seeds=3:=by rw [keyE,if_neg hn,if_pos (.inl a1)]
  rw [hk]
  refine goS trivial ?_
  (refine goX2 (nn h1 (nn h2 h3)) (c1) (c2) ?_; (repeat' (with_reducible apply Br.mk<;>intro _)))
  exact Fin.p rfl rfl
 | false =>
  rw [a1] at c1
  cases a2:anyBad seeds with
  | true =>
   rw [a2] at c2
   have hk:keyE mix seeds=3:=by rw [keyE,if_neg hn,if_pos (.inr a2)]
   rw [hk]
   refine goS trivial ?_
   (refine goX2 (nn h1 (nn h2 h3)) (c1) (c2) ?_; (repeat' (with_reducible apply Br.mk<;>intro _)))
   exact Fin.p rfl rfl
  | false =>
   rw [a2] at c2
   have hk:keyE mix seeds=0:=by rw [keyE,if_neg hn,if_neg (by rw [a1,a2]; decide)]
   rw [hk]
   refine goS trivial ?_
   (refine goX2 (nn h1 (nn h2 h3)) (c1) (c2) ?_; (repeat' (with_reducible apply Br.mk<;>intro _)))
   exact Fin.p rfl rfl
structure KeyOk (mix seeds:List Nat):Prop where
 m1:1≤mix.length
 m2:mix.length≤64
 s2:seeds.length≤200
 mr:res mix
 sr:res seeds
theorem KeyOk.check {mix seeds:List Nat} (h:KeyOk mix seeds):CallP Tryz.prog f_zz57 [.agg [.list (mix.map eN),.list (seeds.map eN)]] (·=.d (eN 0)):=by
 have h1:=h.m1
 have h2:=h.m2
 have h3:=h.s2
 have:=Check_ok (mix.map fun x:Nat=>(x:Int)) (seeds.map fun x:Nat=>(x:Int))
 rw [keyE,if_neg (by simp only [List.length_map]; omega),if_neg (by rw [res_any h.mr,res_any h.sr]; decide),eI_N,eI_N] at this
 exact this
theorem KeyOk.make {mix seeds:List Nat} (h:KeyOk mix seeds) (s:List UInt8) (hs:s.length≤100000) (k:Nat) (hk:k < seeds.length) (hw:syN s≤mix.length) :
 CallP Tryz.prog f_zz60 [.agg [.list (mix.map eN),.list (seeds.map eN)],eN k,.str s] (·=.tup [eN (tagN mix mix.length s seeds[k]),eI 0]):=by
 refine callP_of_W fol zz60_cp ?_
 have hc:=h.check
 have hy:=Symbols_ok s hs
 have hl:=syms_len s
 have h2:=h.m2
 have h3:=h.s2
 have hyr:res (syms s):=fun x hx=>by
  obtain ⟨j,_,rfl⟩:=List.mem_map.1 hx
  have:=sy_lt s j
  have hP:P=2147483647:=rfl
  omega
 have hp:=product_ok mix (syms s) h.mr hyr (by omega) (by omega)
 have hg:fsum (fun j=>mix.getD j 0 * (syms s).getD j 0) (syms s).length=dotN mix (sy s) mix.length:=by
  have hget:∀ j,j < syN s→(syms s).getD j 0=sy s j:=fun j hj=>by rw [syms,List.getD_eq_getElem?_getD,List.getElem?_map,List.getElem?_range hj]; rfl
  have he:fsum (fun j=>mix.getD j 0 * sy s j) (syN s + (mix.length - syN s))=fsum (fun j=>mix.getD j 0 * sy s j) (syN s) :=
   fsum_ext _ (fun j hj=>by rw [sy_out (by unfold syN at hj; omega),Nat.mul_zero])
  rw [Nat.add_sub_cancel' hw] at he
  rw [hl,dotN,he]
  exact fsum_congr fun j hj=>by rw [hget j hj]
 rw [hg] at hp
 have hsr:seeds[k] < P:=h.sr _ (List.getElem_mem hk)
 have hsum:=sum_ok [seeds[k],dotN mix (sy s) mix.length % P] (by
  intro x hx
  rcases List.mem_cons.1 hx with rfl|hx
  · exact hsr
  · rw [List.mem_singleton.1 hx]; exact Nat.mod_lt _ (by decide)) (by simp)
 have ht:[seeds[k],dotN mix (sy s) mix.length % P].sum % P=tagN mix mix.length s seeds[k]:=by
  rw [List.sum_cons,List.sum_singleton,tagN,Nat.add_mod_mod]
 rw [ht] at hsum
 have k1:¬ (k:Int) < 0:=by omega
 have k2:¬ (k:Int) ≥ (seeds.length:Int):=by omega
 have k3:¬ ((syms s).length:Int) > (mix.length:Int):=by omega
 generalize tagN mix mix.length s seeds[k]=tg at *
 generalize dotN mix (sy s) mix.length % P=dn at *
 generalize hse:seeds[k]=sk at *
 generalize syms s=ss at *
 have hsum':CallP Tryz.prog f_zz65 [.list [eN sk,eN dn]] (·=.d (eN tg)):=hsum
 refine goS trivial ?_
 (refine goX4 (nn k1 (nn k2 (nn k3 (nn hk hse)))) (hc) (hy) (hp) (hsum') ?_; (repeat' (with_reducible apply Br.mk<;>intro _)))
 exact Fin.p rfl rfl
end Go.Proofs.YtclmdhceceacoaaGreatDoor
