/-
 Layer 44: the examples of the documentation.
 Conditions: of each contract asks it says.
-/
import Derived.Test.YtclmdhceceacoaaDoorH25
import Derived.Test.YtclmdhceceacoaaDoorS47
import Derived.Sort.Walk0
namespace Go.Proofs.YtclmdhceceacoaaDoor
open Go Go.E2 CW CH C44
set_option linter.unusedSimpArgs false
set_option maxHeartbeats 8000000
theorem Lot_ok (l:List Int) (h1:l.length≤60) (h2:∀ n ∈ l,i64 n):CallP Tryd.prog f_zz30 [.list (l.map eI)] (·=.d (eD (lotOf (0::l)))):=by
 refine callP_of_W fol zz30_cp ?_
 have h2':∀ n ∈ (0:Int)::l,i64 n:=fun n hn=>by
  rcases List.mem_cons.1 hn with rfl|h
  · exact ⟨by decide,by decide⟩
  · exact h2 n h
 have hn:=numbers_ok (0::l) (by simp; omega) h2'
 have ho:=rOf_ok 194 (by decide) ((0::l).map intB) (by simp; omega) (nums_len h2')
 have hlo:CallP Tryd.prog f_zz33 [.int .i64 194,.list (((0::l).map intB).map D.str)] (·=.d (eD (lotOf (0::l)))):=ho
 generalize hd:lotOf (0::l)=d at *
 obtain ⟨d1,d2,d3,d4⟩:=dgOk d.2
 rw [eD_mk] at hlo ⊢
 generalize d.1.map eB=c at *
 generalize ((0::l).map intB).map D.str=ns at hn hlo
 have hm:=mostBytes_eq
 obtain ⟨ls,hls⟩:∃ ls,ls=((0:Int)::l).map eI:=⟨_,rfl⟩
 rw [← hls] at hn
 have hel:[D.int IntKind.i64 0] ++ l.map eI=ls:=hls.symm
 have hel2:D.int IntKind.i64 0::l.map eI=ls:=hls.symm
 obtain ⟨z16,hz16⟩:∃ z,z=zr 16 (D.int .u8 0):=⟨_,rfl⟩
 have z16l:z16.length=16:=by rw [hz16]; rfl
 have z16d:List.drop 16 z16=[]:=by rw [hz16]; rfl
 have z16e:zr 16 (D.int .u8 0)=z16:=hz16.symm
 have hl0:l.length≤60:=h1
 refine goS z16e ?_
 (refine goX2 (nn z16e (nn z16l (nn z16d (nn d1 (nn d3 (nn hel hel2)))))) (hn) (hlo) ?_; (repeat' (with_reducible apply Br.mk<;>intro _)))
 exact Fin.eq (r:=.d (.agg c)) (by simp -dsimp (disch:=first|omega|(simp only [go_sem]; omega)) only [go_sem,seval,Nat.reduceEqDiff,Nat.reduceLeDiff,d1,d2,d3]) ⟨rfl,rfl,rfl⟩
theorem lot_len (l:List Int):(lotOf l).1.length=16:=(lotOf l).2
theorem chal4 (lot:Dg):∃ b0 b1 b2 b3:Nat,chal lot 4 4=[(0,b0),(1,b1),(2,b2),(3,b3)]∧(1≤b0∧b0 < 2147483647)∧(1≤b1∧b1 < 2147483647)∧(1≤b2∧b2 < 2147483647)∧1≤b3∧b3 < 2147483647:=by
 have hs:sortN ((ordO lot 4).take 4)=[0,1,2,3]:=by
  have h1:(ordO lot 4).take 4=ordO lot 4:=List.take_of_length_le (by rw [ordO_len]; exact Nat.le_refl 4)
  rw [h1]
  have hp:(sortN (ordO lot 4)).Perm [0,1,2,3]:=(List.mergeSort_perm _ _).trans (ordL_perm _ _)
  have hso:(sortN (ordO lot 4)).Pairwise (fun x y=>x≤y):=by
   have:=List.pairwise_mergeSort (le:=fun x y:Nat=>decide (x≤y)) (fun a b c h1 h2=>by simp at *; omega) (fun a b=>by simp; omega) (ordO lot 4)
   exact this.imp fun h=>by simpa using h
  have hs2:[0,1,2,3].Pairwise (fun x y:Nat=>x≤y):=by decide
  exact hp.eq_of_pairwise (fun a b _ _ h1 h2=>Nat.le_antisymm h1 h2) hso hs2
 have hb:∀ k,1≤(askOf lot k).2∧(askOf lot k).2 < 2147483647:=fun k=>by
  have:red (undr lot.1 2 k) % 2147483646 < 2147483646:=Nat.mod_lt _ (by decide)
  simp only [askOf]; omega
 exact ⟨_,_,_,_,by rw [chal,hs]; rfl,hb 0,hb 1,hb 2,hb 3⟩
theorem chal4' (lot:Dg):∃ asks:List (Nat × Nat),chal lot 4 4=asks∧asks.length=4∧∀ k (h:k < asks.length),asks[k].1=k∧1≤asks[k].2∧asks[k].2 < 2147483647:=by
 obtain ⟨b0,b1,b2,b3,hch,hb0,hb1,hb2,hb3⟩:=chal4 lot
 refine ⟨_,hch,rfl,fun k h=>?_⟩
 have h4:k < 4:=h
 match k,h,h4 with
 | 0,_,_=>exact ⟨rfl,hb0⟩
 | 1,_,_=>exact ⟨rfl,hb1⟩
 | 2,_,_=>exact ⟨rfl,hb2⟩
 | 3,_,_=>exact ⟨rfl,hb3⟩
theorem sanity_ok:CallP Tryd.prog f_zz13 [] (·=.d (.bool true)):=by
 refine callP_of_W fol zz13_cp ?_
 have hP:P=2147483647:=rfl
 have hdA:=Deal_ok 1 5 1 2 (by decide) (by decide) (by decide) (by decide)
 have hdB:=Deal_ok 2 7 2 3 (by decide) (by decide) (by decide) (by decide)
 rw [shA,mkA] at hdA
 rw [shB,mkB] at hdB
 have r1:=Recover_ok tA [⟨2,5⟩] (by decide)
 have r2:=Recover_ok tA [⟨2,6⟩] (by decide)
 have r3:=Recover_ok tO [⟨2,5⟩] (by decide)
 have r4:=Recover_ok tB [⟨3,sB 3⟩,⟨1,sB 1⟩] (by decide)
 have hdr:=Draw_ok [tA,tB] [[⟨1,5⟩],[⟨1,sB 1⟩,⟨2,sB 2⟩]] (by decide) (by decide) (by decide)
 have hv:=Valid_ok tA
 have hf:=Fits_ok tA ⟨2,5⟩
 rw [sa1] at r1
 rw [sa2] at r2
 rw [sa3] at r3
 rw [sa4] at r4
 rw [saD] at hdr
 rw [sa8] at hv
 rw [sa9] at hf
 have hlot:=Lot_ok [1,5,2,7] (by decide) (by simp only [List.mem_cons,List.not_mem_nil,or_false,forall_eq_or_imp,forall_eq]; exact ⟨⟨by decide,by decide⟩,⟨by decide,by decide⟩,⟨by decide,by decide⟩,⟨by decide,by decide⟩⟩)
 have hc4:=Challenge_ok (lotOf [0,1,5,2,7]) 4 4 (by decide) (by decide)
 have hc5:=Challenge_bad (lotOf [0,1,5,2,7]) 4 5 (.inr (.inr (by decide)))
 obtain ⟨asks,hch,hal,hap⟩:=chal4' (lotOf [0,1,5,2,7])
 rw [hch] at hc4
 clear hch
 have hal':((asks.length:Nat):Int)=4:=by rw [hal]; rfl
 have hcl:=cellsEq_dg (lotOf [0,1,5,2,7]) (lotOf [0,1,5,2,7])
 rw [decide_eq_true rfl] at hcl
 obtain ⟨d1,d2,d3,d4⟩:=dgOk (lot_len [0,1,5,2,7])
 have hlv:eD (lotOf [0,1,5,2,7])=.agg ((lotOf [0,1,5,2,7]).1.map eB):=rfl
 unfold eDr at hdr
 rw [hlv] at hlot hc4 hc5
 generalize (lotOf [0,1,5,2,7]).1.map eB=lc at *
 have hTA:eT tA=.agg [eI 1,eI 1,.list [eD (mk3 1 1 5),eD (mk3 1 2 5)]]:=by unfold eT tA; rw [mkA]; rfl
 have hTB:eT tB=.agg [eI 2,eI 2,.list [eD (mk3 2 1 (sB 1)),eD (mk3 2 2 (sB 2)),eD (mk3 2 3 (sB 3))]]:=by unfold eT tB; rw [mkB]; rfl
 have hTO:eT tO=.agg [eI 1,eI 1,.list [eD oddD,eD (mk3 1 2 5)]]:=rfl
 rw [hTA] at r1 r2 hv hf
 rw [hTB] at r4
 rw [hTO] at r3
 clear hP
 simp only [List.map_cons,List.map_nil,hTA,hTB,eP,eL,show eN 0=eI 0 from rfl,show eN 1=eI 1 from rfl,show eN 2=eI 2 from rfl,show eN 3=eI 3 from rfl,show eN 4=eI 4 from rfl,show eN 5=eI 5 from rfl,show eN 7=eI 7 from rfl,show eN 8=eI 8 from rfl,show eN 23=eI 23 from rfl] at hdA hdB r1 r2 r3 r4 hdr hv hf hlot hc4 hc5
 generalize sB 1=s1 at *
 generalize sB 2=s2 at *
 generalize sB 3=s3 at *
 have m1s:=(mk3 1 1 5).2
 have m2s:=(mk3 1 2 5).2
 have m1t:=dg_take (mk3 1 1 5)
 have m2t:=dg_take (mk3 1 2 5)
 generalize mk3 1 1 5=m1 at *
 generalize mk3 1 2 5=m2 at *
 generalize mk3 2 1 (s1:Int)=n1 at *
 generalize mk3 2 2 (s2:Int)=n2 at *
 generalize mk3 2 3 (s3:Int)=n3 at *
 obtain ⟨z16,hz16⟩:∃ z,z=zr 16 (D.int .u8 0):=⟨_,rfl⟩
 have z16l:z16.length=16:=by rw [hz16]; rfl
 have z16d:List.drop 16 z16=[]:=by rw [hz16]; rfl
 have z16e:zr 16 (D.int .u8 0)=z16:=hz16.symm
 refine goS z16e ?_
 (refine goX2 (nn z16e z16l) (hdA) (hdB) ?_; (repeat' (with_reducible apply Br.mk<;>intro _)))
 have tk18:∀ x y:D,List.take 18 (lc ++ [x,y])=lc ++ [x,y]:=fun x y=>List.take_of_length_le (by rw [List.length_append,d1]; exact Nat.le_refl 18)
 have dr16:∀ x y:D,List.drop 16 (lc ++ [x,y])=[x,y]:=fun x y=>by rw [List.drop_append_of_le_length (by omega),List.drop_of_length_le (by omega)]; rfl
 have dr17:∀ x y:D,List.drop 17 (lc ++ [x,y])=[y]:=fun x y=>by rw [List.drop_append,List.drop_of_length_le (by omega),d1]; rfl
 have dr18:∀ x y:D,List.drop 18 (lc ++ [x,y])=[]:=fun x y=>List.drop_of_length_le (by rw [List.length_append,d1]; exact Nat.le_refl 18)
 have tk16:∀ x y:D,List.take 16 (lc ++ [x,y])=lc:=fun x y=>by rw [List.take_append_of_le_length (by omega),List.take_of_length_le (by omega)]
 have zl:∀ x y:D,(z16 ++ [x,y]).length=18:=fun x y=>by rw [List.length_append,z16l]; rfl
 have ll:∀ x y:D,(lc ++ [x,y]).length=18:=fun x y=>by rw [List.length_append,d1]; rfl
 have la:(lc ++ [D.list [eI 1,eI 2],D.list []]).all D.one=true:=by rw [List.all_append,d3]; rfl
 have zd:∀ x y:D,List.drop 18 (z16 ++ [x,y])=[]:=fun x y=>List.drop_of_length_le (by rw [zl]; exact Nat.le_refl 18)
 have zo:(List.drop 1 z16).all D.one=true:=by rw [hz16]; rfl
 have ze:D.agg (D.int .u8 1::List.drop 1 z16)=eD oddD:=by rw [hz16]; rfl
 have zs:(D.int .u8 1::List.drop 1 z16).length=16:=by rw [hz16]; rfl
 have m2e:D.agg (m2.1.map eB)=eD m2:=rfl
 have i1:vIaddr 16 (some (.list [eD m1,eD m2])) (.d (.int .i64 1))=some (.cptr (m2.1.map eB)):=by
  have:=eD_size m1
  have:=eD_size m2
  simp [vIaddr, *]
  rfl
 have za:z16.all D.one=true:=by rw [hz16]; rfl
 have j0:vIaddr 1 (some (.list [eN s1,eN s2,eN s3])) (.d (.int .i64 0))=some (.cptr [eN s1]):=rfl
 have j1:vIaddr 1 (some (.list [eN s1,eN s2,eN s3])) (.d (.int .i64 1))=some (.cptr [eN s2]):=rfl
 have j2:vIaddr 1 (some (.list [eN s1,eN s2,eN s3])) (.d (.int .i64 2))=some (.cptr [eN s3]):=rfl
 have k0:vIaddr 1 (some (.list [eI 5,eI 5])) (.d (.int .i64 0))=some (.cptr [eI 5]):=rfl
 have k1:vIaddr 1 (some (.list [eI 5,eI 5])) (.d (.int .i64 1))=some (.cptr [eI 5]):=rfl
 have l0:vIaddr 1 (some (.list [eI 1,eI 2])) (.d (.int .i64 0))=some (.cptr [eI 1]):=rfl
 have l1:vIaddr 1 (some (.list [eI 1,eI 2])) (.d (.int .i64 1))=some (.cptr [eI 2]):=rfl
 have z1:(z16 ++ [D.nilS,D.nilS]).all D.one=true:=by rw [hz16]; rfl
 have la':=la
 have hcl1:(lc ++ [D.list [eI 1,eI 2],D.list []]).length=18:=ll _ _
 (repeat' (first|(with_reducible first|refine W.seq ?_|refine W.block ?_|refine W.scope ?_)|((first|(with_reducible first|refine W.reg ?_|refine W.skip ?_|refine W.exit ?_|refine W.ret ?_|refine W.ifc ?_)|(apply wC_P (r1); (focus (simp -dsimp (disch:=first|omega|(simp only [go_sem]; omega)) only [go_sem,seval,Nat.reduceEqDiff,Nat.reduceLeDiff]<;>rfl)); rintro _ rfl)|(apply wC_P (r2); (focus (simp -dsimp (disch:=first|omega|(simp only [go_sem]; omega)) only [go_sem,seval,Nat.reduceEqDiff,Nat.reduceLeDiff]<;>rfl)); rintro _ rfl)|(apply wC_P (r3); (focus (simp -dsimp (disch:=first|omega|(simp only [go_sem]; omega)) only [go_sem,seval,Nat.reduceEqDiff,Nat.reduceLeDiff]<;>rfl)); rintro _ rfl)|(apply wC_P (r4); (focus (simp -dsimp (disch:=first|omega|(simp only [go_sem]; omega)) only [go_sem,seval,Nat.reduceEqDiff,Nat.reduceLeDiff]<;>rfl)); rintro _ rfl)|(apply wC_P (hdr); (focus (simp -dsimp (disch:=first|omega|(simp only [go_sem]; omega)) only [go_sem,seval,Nat.reduceEqDiff,Nat.reduceLeDiff]<;>rfl)); rintro _ rfl)|(apply wC_P (hc4); (focus (simp -dsimp (disch:=first|omega|(simp only [go_sem]; omega)) only [go_sem,seval,Nat.reduceEqDiff,Nat.reduceLeDiff]<;>rfl)); rintro _ rfl)|(apply wC_P (hc5); (focus (simp -dsimp (disch:=first|omega|(simp only [go_sem]; omega)) only [go_sem,seval,Nat.reduceEqDiff,Nat.reduceLeDiff]<;>rfl)); rintro _ rfl)|(apply wC_P (hlot); (focus (simp -dsimp (disch:=first|omega|(simp only [go_sem]; omega)) only [go_sem,seval,Nat.reduceEqDiff,Nat.reduceLeDiff]<;>rfl)); rintro _ rfl)|((with_reducible first|refine wG_decE (fun _ hG=>?_) (fun _ hG=>?_)|refine wG_decFE (fun _ hG=>?_) (fun _ hG=>?_))<;>(try simp -dsimp only [hG,decide_true,decide_false,not_true_eq_false,not_false_eq_true])<;>clear hG))<;>(try simp -dsimp (disch:=first|omega|(simp only [go_sem]; omega)) only [go_sem,seval,Nat.reduceEqDiff,Nat.reduceLeDiff,z16e,z16l,m1s,m2s,m1t,m2t,zo,ze,m2e,i1,za,j0,j1,j2,k0,k1,l0,l1,tk18,dr16,dr17,dr18,tk16,zl,ll,la,zd,z1,d1,d2,d3,hcl,hal,hal']))|simp -dsimp (disch:=first|omega|(simp only [go_sem]; omega)) only [go_sem,seval,Nat.reduceEqDiff,Nat.reduceLeDiff,z16e,z16l,m1s,m2s,m1t,m2t,zo,ze,m2e,i1,za,j0,j1,j2,k0,k1,l0,l1,tk18,dr16,dr17,dr18,tk16,zl,ll,la,zd,z1,d1,d2,d3,hcl,hal,hal']))
 refine W.loop (fun q st=>∃ (k:Nat) (b23:Blk),k≤4∧q=4 - k ∧
  st=(E [(162,.d (eN k)),(161,.d (.int .i64 4)),(160,.d (.list (asks.map eQ))),(1,.d (.list [eI 5,eI 5])),(7,.d (eI 5)),(8,.d (eI 0)),(10,.d (eI 8)),(13,.d (eI 23)),(14,.d (eI 7)),(15,.d (eI 0)),(17,.d (eI 0)),(2,.ptr 0 2 1 0),(16,.ptr 0 16 1 0)],
   HB [(2,⟨1,some [eI 1,eI 1,.list [eD m1,eD m2]]⟩),(5,⟨1,some [eI 2,eI 2,.list [eD n1,eD n2,eD n3]]⟩),(11,⟨1,some [.int .i64 1,.int .i64 1,.list [eD oddD,eD m2]]⟩),(16,⟨1,some (lc ++ [.list [eI 1,eI 2],.list []])⟩),(23,b23)],[],noGh))
  ⟨_,_,stleB (HB_pad [(2,_),(5,_),(11,_),(16,_)] [23] rfl).symm,0,_,by omega,rfl,rfl⟩ ?_
 rintro q st ⟨k,b23,hk,rfl,rfl⟩
 by_cases g1:(k:Int) < 4
 case pos =>
  have hk':k < asks.length:=by omega
  obtain ⟨a1,a2,a3⟩:=hap k hk'
  obtain ⟨av,hav⟩:∃ av,asks[k].2=av:=⟨_,rfl⟩
  rw [hav] at a2 a3
  have p1:¬ (av:Int) < 1:=by omega
  have p2:¬ (av:Int) ≥ 2147483647:=by omega
  (refine goX (nn g1 (nn hk' (nn a1 (nn hav (nn p1 (nn p2 hal)))))) ?_; (repeat' (with_reducible apply Br.mk<;>intro _)))
  refine ⟨_,_,?_,stleB (by rfl),k + 1,_,by omega,rfl,rfl⟩
  omega
 (refine goX2 (nn g1 (nn k0 (nn k1 (nn l0 (nn l1 (nn dr16 (nn dr17 d1))))))) (hv) (hf) ?_; (repeat' (with_reducible apply Br.mk<;>intro _)))
 exact Fin.p rfl rfl
end Go.Proofs.YtclmdhceceacoaaDoor
/-
 Layer 44,plain: the order of the reference (each number is inserted behind all that are not greater),and the challenge of the reference.
 Conditions: none; laws with no program in sight.
-/
namespace C44
open Go.Lib
theorem bl_cb:∀ a b:List UInt8,Go.Op.bytesLess a b=decide (compareBytes a b=-1)
 | [],[]=>rfl
 | [],_::_=>rfl
 | _::_,[]=>rfl
 | a::xs,b::ys=>by
   rw [Go.Op.bytesLess,compareBytes,bl_cb xs ys]
   by_cases h1:a < b
   · rw [if_pos h1]; simp [h1]
   · rw [if_neg h1]
     by_cases h2:b < a
     · have h3:a ≠ b:=fun e=>by rw [e] at h2; exact UInt8.lt_irrefl _ h2
       rw [if_pos h2]; simp [h1,h3]
     · have h3:a=b:=UInt8.toNat_inj.1 (by rw [UInt8.lt_iff_toNat_lt] at h1 h2; omega)
       rw [if_neg h2]; simp [h1,h3]
theorem le_ltR (rk:Nat→List UInt8) {x k:Nat} (h:x < k):(Go.Op.bytesLess (rk x) (rk k) || rk x == rk k)=decide (ltR rk x k):=by
 rw [bl_cb]
 by_cases e:ltR rk x k
 · rw [decide_eq_true e]
   rcases e with e|⟨e,_⟩
   · simp [e]
   · simp [cb_eq e]
 · rw [decide_eq_false e]
   have h1:¬ compareBytes (rk x) (rk k)=-1:=fun h=>e (.inl h)
   have h2:rk x ≠ rk k:=fun h3=>e (.inr ⟨by rw [h3]; exact cb_self _,h⟩)
   simp [h1,h2]
def insR (rk:Nat→List UInt8) (k:Nat):List Nat→List Nat
 | []=>[k]
 | x::l=>if ltR rk x k then x::insR rk k l else k::x::l
theorem insR_perm (rk:Nat→List UInt8) (k:Nat):∀ l,(insR rk k l).Perm (k::l)
 | []=>.refl _
 | x::l=>by
   rw [insR]
   split
   · exact ((insR_perm rk k l).cons x).trans (.swap ..)
   · exact .refl _
theorem insR_sorted {rk:Nat→List UInt8} {k:Nat}:∀ {l:List Nat},l.Pairwise (ltR rk)→k ∉ l→(insR rk k l).Pairwise (ltR rk)
 | [],_,_=>List.pairwise_singleton _ _
 | x::l,h,hk=>by
   rw [insR]
   have h1:=List.pairwise_cons.1 h
   have hk':k ∉ l:=fun h=>hk (List.mem_cons_of_mem _ h)
   split
   · next e =>
     refine List.pairwise_cons.2 ⟨fun y hy=>?_,insR_sorted h1.2 hk'⟩
     rcases List.mem_cons.1 ((insR_perm rk k l).mem_iff.1 hy) with rfl|hy
     · exact e
     · exact h1.1 y hy
   · next e =>
     have hkx:ltR rk k x:=Decidable.byContradiction fun h2=>hk (by rw [ltR_total h2 e]; exact List.mem_cons_self)
     refine List.pairwise_cons.2 ⟨fun y hy=>?_,h⟩
     rcases List.mem_cons.1 hy with rfl|hy
     · exact hkx
     · exact ltR_trans hkx (h1.1 y hy)
theorem insR_at {rk:Nat→List UInt8} {k:Nat}:∀ {l:List Nat} {a:Nat},a≤l.length→(∀ j (h:j < l.length),j < a→ltR rk l[j] k)→(∀ h:a < l.length,¬ ltR rk l[a] k)→insR rk k l=l.take a ++ [k] ++ l.drop a
 | [],a,ha,_,_=>by
   obtain rfl:a=0:=by simpa using ha
   rfl
 | x::l,0,_,_,h2=>by
   have h3:¬ ltR rk x k:=h2 (by simp)
   rw [insR,if_neg h3]; rfl
 | x::l,a + 1,ha,h1,h2=>by
   have h3:ltR rk x k:=h1 0 (by simp) (by omega)
   rw [insR,if_pos h3,insR_at (l:=l) (a:=a) (by simpa using ha) (fun j h hj=>h1 (j + 1) (by simpa using h) (by omega)) (fun h=>h2 (by simpa using h))]
   rfl
def refO (rk:Nat→List UInt8):Nat→List Nat
 | 0=>[]
 | n + 1=>insR rk n (refO rk n)
theorem refO_perm (rk:Nat→List UInt8):∀ n,(refO rk n).Perm (List.range n)
 | 0=>.refl _
 | n + 1=>by
   rw [refO,List.range_succ]
   exact (insR_perm rk n _).trans (((refO_perm rk n).cons n).trans (List.perm_append_comm (l₁:=[n])))
theorem refO_lt {rk:Nat→List UInt8} {n k:Nat} (h:k ∈ refO rk n):k < n:=List.mem_range.1 ((refO_perm rk n).mem_iff.1 h)
theorem refO_len (rk:Nat→List UInt8) (n:Nat):(refO rk n).length=n:=by rw [(refO_perm rk n).length_eq,List.length_range]
theorem refO_sorted (rk:Nat→List UInt8):∀ n,(refO rk n).Pairwise (ltR rk)
 | 0=>.nil
 | n + 1=>insR_sorted (refO_sorted rk n) fun h=>absurd (refO_lt h) (Nat.lt_irrefl n)
theorem refO_eq (rk:Nat→List UInt8) (n:Nat):refO rk n=ordL rk (List.range n):=by
 have h1:(refO rk n).Pairwise fun x y=>(!decide (ltR rk y x))=true:=(refO_sorted rk n).imp fun {a b} h=>by
  simp only [Bool.not_eq_true',decide_eq_false_iff_not]
  exact fun h2=>ltR_irrefl rk a (ltR_trans h h2)
 have h2:(ordL rk (List.range n)).Pairwise fun x y=>(!decide (ltR rk y x))=true:=by
  refine List.pairwise_mergeSort (fun a b c h1 h2=>?_) (fun a b=>?_) _
  · simp only [Bool.not_eq_true',decide_eq_false_iff_not] at *
    intro h3
    by_cases e:ltR rk a b
    · exact h2 (ltR_trans h3 e)
    · have:=ltR_total e h1
      rw [this] at h3
      exact h2 h3
  · simp only [Bool.or_eq_true,Bool.not_eq_true',decide_eq_false_iff_not]
    by_cases e:ltR rk b a
    · exact .inr fun h=>ltR_irrefl rk a (ltR_trans h e)
    · exact .inl e
 refine List.Perm.eq_of_pairwise (fun a b _ _ h1 h2=>?_) h1 h2 ((refO_perm rk n).trans (ordL_perm rk _).symm)
 simp only [Bool.not_eq_true',decide_eq_false_iff_not] at h1 h2
 exact ltR_total h2 h1
def inO (n:Nat) (l:List Nat):List Nat:=(List.range n).filter fun k=>decide (k ∈ l)
theorem inO_eq {n:Nat} {l s:List Nat} (hl:∀ k ∈ l,k < n) (hs:s.Pairwise (· < ·)) (hm:∀ k,k ∈ s↔k ∈ l):inO n l=s:=by
 have h1:(inO n l).Pairwise (· < ·):=List.Pairwise.filter _ List.pairwise_lt_range
 have h0:∀ k,k ∈ inO n l↔k ∈ s:=fun k=>by
  rw [inO,List.mem_filter,List.mem_range,decide_eq_true_eq,hm]
  exact ⟨fun h=>h.2,fun h=>⟨hl k h,h⟩⟩
 have n1:(inO n l).Nodup:=List.nodup_iff_pairwise_ne.2 (h1.imp fun h=>by omega)
 have n2:s.Nodup:=List.nodup_iff_pairwise_ne.2 (hs.imp fun h=>by omega)
 exact List.Perm.eq_of_pairwise (fun a b _ _ h1 h2=>by omega) h1 hs ((List.perm_ext_iff_of_nodup n1 n2).2 h0)
end C44
/-
 Layer 44: Order and Challenge of the reference.
 Conditions: of each contract as it says.
-/
namespace Go.Proofs.YtclmdhceceacoaaDoor
open Go Go.E2 CW CH C44
set_option linter.unusedSimpArgs false
set_option maxHeartbeats 4000000
theorem ro_eq (lot:Dg) (n:Nat):refO (rkL (rkO lot)) n=ordO lot n:=refO_eq _ n
theorem rOrder_bad (lot:Dg) (n:Int) (h:n < 0∨1000 < n):CallP Tryd.prog f_zz20 [eD lot,eI n] (·=.d (.agg [.nilS,eI 3])):=by
 refine callP_of_W fol zz20_cp ?_
 obtain ⟨d1,d2,d3,d4⟩:=dgOk lot.2
 have d5:=lot.2
 by_cases h1:n < 0
 · refine goS (nn eD_mk (nn d1 (nn d2 d3))) ?_
   (refine goX (nn h1 (nn d1 (nn d2 (nn d3 d5)))) ?_; (repeat' (with_reducible apply Br.mk<;>intro _)))
   exact Fin.p rfl rfl
 · have h2:n > 1000:=by omega
   refine goS (nn eD_mk (nn d1 (nn d2 d3))) ?_
   (refine goX (nn h1 (nn h2 (nn d1 (nn d2 (nn d3 d5))))) ?_; (repeat' (with_reducible apply Br.mk<;>intro _)))
   exact Fin.p rfl rfl
def eR (lot:Dg) (j:Nat):D:=.str (undr lot.1 1 (j:Int))
attribute [go_sem] eR
@[go_sem] theorem eR_all (lot:Dg) (l:List Nat):(l.map (eR lot)).all (sizeOk 1)=true:=by rw [List.all_eq_true]; intro x hx; obtain ⟨s,_,rfl⟩:=List.mem_map.1 hx; rfl
theorem rOrder_ok (lot:Dg) (n:Nat) (hn:n≤1000):CallP Tryd.prog f_zz20 [eD lot,eN n] (·=.d (.agg [.list ((ordO lot n).map eN),eI 0])):=by
 refine callP_of_W fol zz20_cp ?_
 obtain ⟨d1,d2,d3,d4⟩:=dgOk lot.2
 have d5:=lot.2
 have hm:=mostBytes_eq
 have h1:¬ (n:Int) < 0:=by omega
 have h2:¬ (n:Int) > 1000:=by omega
 refine goS (nn eD_mk (nn d1 (nn d2 d3))) ?_
 (refine goX (nn h1 (nn h2 (nn d1 (nn d2 (nn d3 d5))))) ?_; (repeat' (with_reducible apply Br.mk<;>intro _)))
 obtain ⟨rk,hrk⟩:∃ rk,rk=rkL (rkO lot):=⟨_,rfl⟩
 have hrke:∀ j:Nat,undr lot.1 1 (j:Int)=rk j:=fun j=>by rw [hrk]; rfl
 rw [← ro_eq,← hrk]
 refine W.loop (fun q st=>∃ k:Nat,k≤n∧q=n - k ∧
  st=(E [(7,.d (eN k)),(6,.own 1 ((refO rk k).map (eR lot))),(5,.own 1 ((refO rk k).map eN)),(4,.ptr 0 4 1 0),(2,.ptr 0 2 1 0),(1,.d (eN n))],
   HB [(2,⟨1,some (lot.1.map eB)⟩),(4,⟨1,some [.nilS,eI 0]⟩)],[],noGh))
  ⟨_,_,stleB (by rfl),0,by omega,rfl,rfl⟩ ?_
 rintro q st ⟨k,hk,rfl,rfl⟩
 have hkl:=refO_len rk k
 by_cases g1:(k:Int) < (n:Int)
 case neg =>
  obtain rfl:k=n:=by omega
  (refine goX g1 ?_; (repeat' (with_reducible apply Br.mk<;>intro _)))
  exact Fin.p rfl rfl
 have hu:=runder_ok lot.1 lot.2 1 (k:Int) (i64_nat (n:=1) (by omega)) (i64_nat (by omega))
 have hul:=undr_len lot.1 1 (k:Int)
 have hb:=bytes_ok (undr lot.1 1 (k:Int)) hul
 have hll:∀ x ∈ refO rk k,x < k:=fun x hx=>refO_lt hx
 have hS:refO rk (k + 1)=insR rk k (refO rk k):=rfl
 generalize refO rk k=L at *
 unfold eDg at hu hb
 (refine goX2 (nn g1 (nn d1 (nn d2 (nn d3 d5)))) (hu) (hb) ?_; (repeat' (with_reducible apply Br.mk<;>intro _)))
 refine W.loop (fun q st=>∃ a:Nat,a≤k∧q=k - a∧(∀ j (h:j < L.length),j < a→ltR rk L[j] k) ∧
  st=(E [(9,.d (eN a)),(8,.d (.str (rk k))),(7,.d (eN k)),(6,.own 1 (L.map (eR lot))),(5,.own 1 (L.map eN)),(4,.ptr 0 4 1 0),(2,.ptr 0 2 1 0),(1,.d (eN n))],
   HB [(2,⟨1,some (lot.1.map eB)⟩),(4,⟨1,some [.nilS,eI 0]⟩)],[],noGh))
  ⟨_,_,st_leB (by (simp -dsimp (disch:=first|omega|(simp only [go_sem]; omega)) only [go_sem,seval,Nat.reduceEqDiff,Nat.reduceLeDiff,hrke]<;>((repeat' apply And.intro)<;>first|exact VLe.refl _|(apply vle_int; omega)|(apply vle_int; simp; done)|exact VLe.own _ _|exact VLe.nilown _|exact VLe.norm _))) (by rfl),0,by omega,rfl,fun _ _ h=>by omega,rfl⟩ ?_
 rintro q st ⟨a,ha,rfl,hlt,rfl⟩
 by_cases g2:(a:Int) < (k:Int)
 case neg =>
  have hin:=insR_at (rk:=rk) (k:=k) (l:=L) (a:=a) (by omega) hlt (fun h=>by omega)
  have hm1:(L.take a).map eN ++ [eN k] ++ (L.drop a).map eN=(refO rk (k + 1)).map eN:=by rw [hS,hin,List.map_append,List.map_append]; rfl
  have hm2:(L.take a).map (eR lot) ++ [D.str (rk k)] ++ (L.drop a).map (eR lot)=(refO rk (k + 1)).map (eR lot):=by
   have:D.str (rk k)=eR lot k:=by unfold eR; rw [hrke]
   rw [hS,hin,List.map_append,List.map_append,this]; rfl
  have q1:List.drop a (L.map eN)=(L.drop a).map eN:=List.map_drop.symm
  have q2:List.take a (L.map eN)=(L.take a).map eN:=List.map_take.symm
  have q3:List.drop a (L.map (eR lot))=(L.drop a).map (eR lot):=List.map_drop.symm
  have q4:List.take a (L.map (eR lot))=(L.take a).map (eR lot):=List.map_take.symm
  have q5:(L.drop a).length=k - a:=by rw [List.length_drop,hkl]
  have q6:(L.take a).length=a:=by rw [List.length_take]; omega
  have q7:a + (1 + (k - a))≤1001:=by omega
  have q8:((k - a:Nat):Int)=(k:Int) - (a:Int):=by omega
  (refine goX (nn g2 (nn hkl (nn hrke (nn q1 (nn q2 (nn q3 (nn q4 (nn q5 q6)))))))) ?_; (repeat' (with_reducible apply Br.mk<;>intro _)))
  refine ⟨_,_,?_,st_leB (by (simp -dsimp (disch:=first|omega|(simp only [go_sem]; omega)) only [go_sem,seval,Nat.reduceEqDiff,Nat.reduceLeDiff,hm1,hm2]<;>((repeat' apply And.intro)<;>first|exact VLe.refl _|(apply vle_int; omega)|(apply vle_int; simp; done)|exact VLe.own _ _|exact VLe.nilown _|exact VLe.norm _))) (by rfl),k + 1,by omega,rfl,rfl⟩
  omega
 have ha':a < L.length:=by omega
 obtain ⟨x,hx⟩:∃ x,L[a]=x:=⟨_,rfl⟩
 have hxk:x < k:=by rw [← hx]; exact hll _ (List.getElem_mem ha')
 have hle:binD .leq (.str (rk x)) (.str (rk k))=some (.bool (decide (ltR rk x k))):=by
  rw [← le_ltR rk hxk]; rfl
 by_cases g3:ltR rk x k
 · rw [decide_eq_true g3] at hle
   have hlt2:∀ j (h:j < L.length),j < a + 1→ltR rk L[j] k:=fun j h hj=>by
    rcases Nat.lt_or_ge j a with e|e
    · exact hlt j h e
    · obtain rfl:j=a:=by omega
      rw [hx]; exact g3
   (refine goX (nn g2 (nn hkl (nn hrke (nn ha' (nn hx hle))))) ?_; (repeat' (with_reducible apply Br.mk<;>intro _)))
   refine ⟨_,_,?_,stleB (by rfl),a + 1,by omega,rfl,hlt2,rfl⟩
   omega
 · rw [decide_eq_false g3] at hle
   have hin:=insR_at (rk:=rk) (k:=k) (l:=L) (a:=a) (by omega) hlt (fun h=>by rw [hx]; exact g3)
   have hm1:(L.take a).map eN ++ [eN k] ++ (L.drop a).map eN=(refO rk (k + 1)).map eN:=by rw [hS,hin,List.map_append,List.map_append]; rfl
   have hm2:(L.take a).map (eR lot) ++ [D.str (rk k)] ++ (L.drop a).map (eR lot)=(refO rk (k + 1)).map (eR lot):=by
    have:D.str (rk k)=eR lot k:=by unfold eR; rw [hrke]
    rw [hS,hin,List.map_append,List.map_append,this]; rfl
   have q1:List.drop a (L.map eN)=(L.drop a).map eN:=List.map_drop.symm
   have q2:List.take a (L.map eN)=(L.take a).map eN:=List.map_take.symm
   have q3:List.drop a (L.map (eR lot))=(L.drop a).map (eR lot):=List.map_drop.symm
   have q4:List.take a (L.map (eR lot))=(L.take a).map (eR lot):=List.map_take.symm
   have q5:(L.drop a).length=k - a:=by rw [List.length_drop,hkl]
   have q6:(L.take a).length=a:=by rw [List.length_take]; omega
   have q7:a + (1 + (k - a))≤1001:=by omega
   have q8:((k - a:Nat):Int)=(k:Int) - (a:Int):=by omega
   (refine goX (nn g2 (nn hkl (nn hrke (nn ha' (nn hx (nn hle (nn q1 (nn q2 (nn q3 (nn q4 (nn q5 q6))))))))))) ?_; (repeat' (with_reducible apply Br.mk<;>intro _)))
   refine ⟨_,_,?_,st_leB (by (simp -dsimp (disch:=first|omega|(simp only [go_sem]; omega)) only [go_sem,seval,Nat.reduceEqDiff,Nat.reduceLeDiff,hm1,hm2]<;>((repeat' apply And.intro)<;>first|exact VLe.refl _|(apply vle_int; omega)|(apply vle_int; simp; done)|exact VLe.own _ _|exact VLe.nilown _|exact VLe.norm _))) (by rfl),k + 1,by omega,rfl,rfl⟩
   omega
theorem chal_inO (lot:Dg) {n c:Nat}:chal lot n c=(inO n ((ordO lot n).take c)).map (askOf lot):=by
 have hu:(sortN ((ordO lot n).take c)).Pairwise (· < ·):=by
  have hd:((ordO lot n).take c).Nodup:=List.Nodup.sublist (List.take_sublist _ _) ((ordL_perm _ _).nodup_iff.2 List.nodup_range)
  have h1:(sortN ((ordO lot n).take c)).Pairwise fun x y=>decide (x≤y)=true:=List.pairwise_mergeSort (fun a b c h1 h2=>by simp only [decide_eq_true_eq] at *; omega) (fun a b=>by simp only [Bool.or_eq_true,decide_eq_true_eq]; omega) _
  have h2:(sortN ((ordO lot n).take c)).Nodup:=(List.mergeSort_perm _ _).nodup_iff.2 hd
  exact (h1.and (List.nodup_iff_pairwise_ne.1 h2)).imp fun {a b} h=>by
   have:=of_decide_eq_true h.1
   have:=h.2
   omega
 rw [chal,inO_eq (l:=(ordO lot n).take c) (fun k hk=>ordO_lt (List.mem_of_mem_take hk)) hu fun k=>sortN_mem]
theorem rChallenge_bad (lot:Dg) (n c:Int) (h:cBad n c):CallP Tryd.prog f_zz8 [eD lot,eI n,eI c] (·=.d (.agg [.nilS,eI 3])):=by
 refine callP_of_W fol zz8_cp ?_
 obtain ⟨d1,d2,d3,d4⟩:=dgOk lot.2
 have d5:=lot.2
 by_cases h0:n < 0∨1000 < n
 · have ho:=rOrder_bad lot n h0
   rw [eD_mk] at ho ⊢
   refine goS (nn d1 (nn d2 d3)) ?_
   (refine goX1 (nn d1 (nn d2 (nn d3 d5))) (ho) ?_; (repeat' (with_reducible apply Br.mk<;>intro _)))
   exact Fin.p rfl rfl
 obtain ⟨m,rfl⟩:∃ m:Nat,n=(m:Int):=⟨n.toNat,by omega⟩
 have ho:=rOrder_ok lot m (by omega)
 rw [eD_mk] at ho ⊢
 by_cases h1:c < 0
 · refine goS (nn d1 (nn d2 d3)) ?_
   (refine goX1 (nn d1 (nn d2 (nn d3 (nn d5 h1)))) (ho) ?_; (repeat' (with_reducible apply Br.mk<;>intro _)))
   exact Fin.p rfl rfl
 · have h2:c > (m:Int):=by unfold cBad at h; omega
   refine goS (nn d1 (nn d2 d3)) ?_
   (refine goX1 (nn d1 (nn d2 (nn d3 (nn d5 (nn h1 h2))))) (ho) ?_; (repeat' (with_reducible apply Br.mk<;>intro _)))
   exact Fin.p rfl rfl
theorem inO_succ (n:Nat) (l:List Nat):inO (n + 1) l=inO n l ++ if n ∈ l then [n] else []:=by
 rw [inO,List.range_succ,List.filter_append,List.filter_cons,List.filter_nil]
 by_cases h:n ∈ l
 · rw [if_pos (decide_eq_true h),if_pos h]; rfl
 · rw [if_neg (by simpa using h),if_neg h]; rfl
theorem inO_len (n:Nat) (l:List Nat):(inO n l).length≤n:=by
 have:=List.length_filter_le (fun k=>decide (k ∈ l)) (List.range n)
 rwa [List.length_range] at this
theorem rChallenge_ok (lot:Dg) (n c:Nat) (hn:n≤1000) (hc:c≤n):CallP Tryd.prog f_zz8 [eD lot,eN n,eN c] (·=.d (.agg [.list ((chal lot n c).map eQ),eI 0])):=by
 refine callP_of_W fol zz8_cp ?_
 have hm:=mostBytes_eq
 obtain ⟨d1,d2,d3,d4⟩:=dgOk lot.2
 have d5:=lot.2
 have h1:¬ (c:Int) < 0:=by omega
 have h2:¬ (c:Int) > (n:Int):=by omega
 have ho:=rOrder_ok lot n hn
 have hol:=ordO_len lot n
 rw [chal_inO,eD_mk] at *
 generalize ordO lot n=L at *
 refine goS (nn d1 (nn d2 d3)) ?_
 (refine goX1 (nn d1 (nn d2 (nn d3 (nn d5 (nn h1 h2))))) (ho) ?_; (repeat' (with_reducible apply Br.mk<;>intro _)))
 refine W.loop (fun q st=>∃ (k:Nat) (out:List D),k≤n∧q=n - k∧out=((inO k (L.take c)).map (askOf lot)).map eQ ∧
  st=(E [(9,.d (eN k)),(8,.own 2 out),(7,.ptr 0 7 1 0),(6,.ptr 0 6 1 0),(3,.ptr 0 3 1 0),(1,.d (eN n)),(2,.d (eN c))],
   HB [(3,⟨1,some (lot.1.map eB)⟩),(6,⟨1,some [.nilS,eI 0]⟩),(7,⟨1,some [.list (L.map eN),eI 0]⟩)],[],noGh))
  ⟨_,_,stleB (by rfl),0,[],by omega,rfl,rfl,rfl⟩ ?_
 rintro q st ⟨k,out,hk,rfl,hout,rfl⟩
 have hil:=inO_len k (L.take c)
 have hsu:=inO_succ k (L.take c)
 obtain ⟨I,hI⟩:∃ I,I=inO k (L.take c):=⟨_,rfl⟩
 rw [← hI] at hil hsu hout
 by_cases g1:(k:Int) < (n:Int)
 case neg =>
  obtain rfl:k=n:=by omega
  rw [← hI,← hout]
  (refine goX g1 ?_; (repeat' (with_reducible apply Br.mk<;>intro _)))
  exact Fin.p rfl rfl
 have hil2:out.length≤k:=by rw [hout,List.length_map,List.length_map]; exact hil
 (refine goX g1 ?_; (repeat' (with_reducible apply Br.mk<;>intro _)))
 refine W.loop (fun q st=>∃ (i:Nat) (b:Bool),i≤c∧q=c - i∧b=decide (k ∈ L.take i) ∧
  st=(E [(11,.d (eN i)),(10,.d (.bool b)),(9,.d (eN k)),(8,.own 2 out),(7,.ptr 0 7 1 0),(6,.ptr 0 6 1 0),(3,.ptr 0 3 1 0),(1,.d (eN n)),(2,.d (eN c))],
   HB [(3,⟨1,some (lot.1.map eB)⟩),(6,⟨1,some [.nilS,eI 0]⟩),(7,⟨1,some [.list (L.map eN),eI 0]⟩)],[],noGh))
  ⟨_,_,stleB (by rfl),0,false,by omega,rfl,by simp,rfl⟩ ?_
 rintro q st ⟨i,b,hi,rfl,hb,rfl⟩
 by_cases g2:(i:Int) < (c:Int)
 case pos =>
  have hi':i < L.length:=by omega
  have hts:L.take (i + 1)=L.take i ++ [L[i]]:=List.take_succ_eq_append_getElem hi'
  have hme:decide (k ∈ L.take (i + 1))=(decide (k ∈ L.take i) || decide (L[i]=k)):=by
   have h3:k ∈ L.take (i + 1)↔(k ∈ L.take i∨L[i]=k):=by rw [hts,List.mem_append,List.mem_singleton]; exact or_congr Iff.rfl eq_comm
   rw [decide_eq_decide.2 h3,Bool.decide_or]
  obtain ⟨x,hx⟩:∃ x,L[i]=x:=⟨_,rfl⟩
  rw [hx] at hme
  by_cases g3:k ∈ L.take i
  · rw [decide_eq_true g3] at hme hb
    subst hb
    (refine goX (nn g2 (nn hi' hx)) ?_; (repeat' (with_reducible apply Br.mk<;>intro _)))
    refine ⟨_,_,?_,stleB (by rfl),i + 1,_,by omega,rfl,hme.symm,rfl⟩
    omega
  · rw [decide_eq_false g3] at hme hb
    subst hb
    by_cases g4:x=k
    · rw [decide_eq_true g4] at hme
      have g5:((x:Int)=(k:Int))=True:=eq_true (by omega)
      (refine goX (nn g2 (nn hi' (nn hx g5))) ?_; (repeat' (with_reducible apply Br.mk<;>intro _)))
      refine ⟨_,_,?_,stleB (by rfl),i + 1,_,by omega,rfl,hme.symm,rfl⟩
      omega
    · rw [decide_eq_false g4] at hme
      have g5:¬ (x:Int)=(k:Int):=by omega
      (refine goX (nn g2 (nn hi' (nn hx g5))) ?_; (repeat' (with_reducible apply Br.mk<;>intro _)))
      refine ⟨_,_,?_,stleB (by rfl),i + 1,_,by omega,rfl,hme.symm,rfl⟩
      omega
 obtain rfl:i=c:=by omega
 by_cases g3:k ∈ L.take i
 case neg =>
  rw [if_neg g3,List.append_nil] at hsu
  rw [decide_eq_false g3] at hb
  subst hb
  rw [← hsu] at hout
  (refine goX g2 ?_; (repeat' (with_reducible apply Br.mk<;>intro _)))
  refine ⟨_,_,?_,stleB (by rfl),k + 1,_,by omega,rfl,hout,rfl⟩
  omega
 rw [if_pos g3] at hsu
 rw [decide_eq_true g3] at hb
 subst hb
 have hu:=runder_ok lot.1 lot.2 2 (k:Int) (i64_nat (n:=2) (by omega)) (i64_nat (by omega))
 have hrd:=reduced_ok (undr lot.1 2 (k:Int)) (undr_len _ _ _)
 have hak:askOf lot k=(k,1 + red (undr lot.1 2 k) % 2147483646):=rfl
 generalize undr lot.1 2 (k:Int)=ud at hu hrd hak
 have hrl:red ud < 2147483647:=Nat.mod_lt _ (by decide)
 generalize red ud=rd at hrd hak hrl
 unfold eDg at hu hrd
 have hmod:((rd:Nat):Int).tmod 2147483646=((rd % 2147483646:Nat):Int):=by
  rw [Int.tmod_eq_emod_of_nonneg (Int.natCast_nonneg _)]; rfl
 have hml:rd % 2147483646 < 2147483646:=Nat.mod_lt _ (by decide)
 generalize rd % 2147483646=rm at hmod hak hml
 have hadd:((rm:Nat):Int) + 1=((1 + rm:Nat):Int):=by omega
 have hel:out ++ [.agg [eN k,eN (1 + rm)]]=((inO (k + 1) (L.take i)).map (askOf lot)).map eQ:=by
  rw [hsu,hout,List.map_append,List.map_append,List.map_cons,List.map_nil,hak]; rfl
 generalize hout2:((inO (k + 1) (L.take i)).map (askOf lot)).map eQ=out2 at hel
 (refine goX2 (nn g2 (nn d1 (nn d2 (nn d3 (nn d5 (nn hmod (nn hadd hel))))))) (hu) (hrd) ?_; (repeat' (with_reducible apply Br.mk<;>intro _)))
 refine ⟨_,_,?_,stleB (by rfl),k + 1,_,by omega,rfl,hout2.symm,rfl⟩
 omega
end Go.Proofs.YtclmdhceceacoaaDoor
/-
 Layer 44: the law DrawChallengesAsSpecified.
 Conditions: of each contract as it says.
-/
namespace Go.Proofs.YtclmdhceceacoaaDoor
open Go Go.E2 CW CH C44
set_option linter.unusedSimpArgs false
set_option maxHeartbeats 8000000
theorem ordered (lot:Dg) (n:Int) (hn:¬ (60 < n∧n≤1000)):∃ (L:List Int) (e:Int),L.length≤60 ∧
 CallP Tryd.prog f_zz45 [eD lot,eI n] (·=.tup [.list (L.map eI),eI e]) ∧
 CallP Tryd.prog f_zz20 [eD lot,eI n] (·=.d (.agg [.list (L.map eI),eI e])):=by
 by_cases h:n < 0∨1000 < n
 · refine ⟨[],3,by simp,?_,?_⟩
   · exact CallP.of_deep (CallT.mono (Order_bad lot n h) fun r σ' G' ⟨e1,e2,e3⟩=>⟨e1,_,by rw [e3]; exact .tup _ _ (.cons .nil (.cons (.refl _) .nil)),rfl⟩)
   · have h2:∀ G:Gh,DRs G.c [D.nilS,eI 3] [.list [],eI 3]:=fun G=>.cons .nil (.cons (.refl _) .nil)
     exact CallP.of_deep (CallT.mono (rOrder_bad lot n h) fun r σ' G' ⟨e1,e2,e3⟩=>⟨e1,_,by rw [e3]; exact .d _ _ (DR.agg _ _ (h2 G').1 (h2 G').2),rfl⟩)
 · obtain ⟨m,rfl⟩:∃ m:Nat,n=(m:Int):=⟨n.toNat,by omega⟩
   have e:(ordO lot m).map eN=((ordO lot m).map fun k:Nat=>(k:Int)).map eI:=by rw [List.map_map]; rfl
   have h1:=Order_ok lot m (by omega)
   have h2:=rOrder_ok lot m (by omega)
   rw [e] at h1 h2
   exact ⟨_,0,by rw [List.length_map,ordO_len]; omega,h1,h2⟩
theorem chal_len {lot:Dg} {n c:Nat}:(chal lot n c).length≤n:=by
 rw [chal,List.length_map,sortN_len,List.length_take,ordO_len]; omega
theorem asked (lot:Dg) (n c:Int) (hn:¬ (60 < n∧n≤1000)):∃ (L:List (Nat × Nat)) (e:Int),L.length≤60 ∧
 CallP Tryd.prog f_zz34 [eD lot,eI n,eI c] (·=.tup [.list (L.map eQ),eI e]) ∧
 CallP Tryd.prog f_zz8 [eD lot,eI n,eI c] (·=.d (.agg [.list (L.map eQ),eI e])):=by
 by_cases h:cBad n c
 · refine ⟨[],3,by simp,?_,?_⟩
   · exact CallP.of_deep (CallT.mono (Challenge_bad lot n c h) fun r σ' G' ⟨e1,e2,e3⟩=>⟨e1,_,by rw [e3]; exact .tup _ _ (.cons .nil (.cons (.refl _) .nil)),rfl⟩)
   · have h2:∀ G:Gh,DRs G.c [D.nilS,eI 3] [.list [],eI 3]:=fun G=>.cons .nil (.cons (.refl _) .nil)
     exact CallP.of_deep (CallT.mono (rChallenge_bad lot n c h) fun r σ' G' ⟨e1,e2,e3⟩=>⟨e1,_,by rw [e3]; exact .d _ _ (DR.agg _ _ (h2 G').1 (h2 G').2),rfl⟩)
 · unfold cBad at h
   obtain ⟨m,rfl⟩:∃ m:Nat,n=(m:Int):=⟨n.toNat,by omega⟩
   obtain ⟨k,rfl⟩:∃ k:Nat,c=(k:Int):=⟨c.toNat,by omega⟩
   exact ⟨_,0,by have:=chal_len (lot:=lot) (n:=m) (c:=k); omega,Challenge_ok lot m k (by omega) (by omega),rChallenge_ok lot m k (by omega) (by omega)⟩
theorem challenges_ok (lot:Dg) (n c:Int):CallP Tryd.prog f_zz0 [eD lot,eI n,eI c] (·=.d (.bool true)):=by
 refine callP_of_W fol zz0_cp ?_
 have hs:=sanity_ok
 obtain ⟨d1,d2,d3,d4⟩:=dgOk lot.2
 have d5:=lot.2
 by_cases h1:n > 60∧n≤1000
 · obtain ⟨h1,h2⟩:=h1
   refine goS (nn eD_mk (nn d1 (nn d2 d3))) ?_
   (refine goX1 (nn h1 (nn h2 (nn d1 (nn d2 (nn d3 d5))))) (hs) ?_; (repeat' (with_reducible apply Br.mk<;>intro _)))
   exact Fin.p rfl rfl
 obtain ⟨L,e,hL,ho,hro⟩:=ordered lot n (by omega)
 obtain ⟨A,f,hA,hc,hrc⟩:=asked lot n c (by omega)
 have hl:=SameList_ok L L (by omega) (by omega)
 rw [decide_eq_true rfl] at hl
 rw [eD_mk] at ho hro hc hrc ⊢
 have hcs:(¬ n > 60∧¬ n > 60)∨(n > 60∧¬ n≤1000):=by omega
 rcases hcs with ⟨h2,h3⟩|⟨h2,h3⟩
 all_goals
  clear h1
  refine goS (nn d1 (nn d2 d3)) ?_
  (refine goX4 (nn h2 (nn h3 (nn d1 (nn d2 (nn d3 d5))))) (ho) (hro) (hc) (hrc) ?_; (repeat' (with_reducible apply Br.mk<;>intro _)))
  refine goC hl ?_
  (refine goX (nn h2 (nn h3 (nn d1 (nn d2 (nn d3 d5))))) ?_; (repeat' (with_reducible apply Br.mk<;>intro _)))
  refine W.loop (fun q st=>∃ (k:Nat) (b9:Blk),k≤A.length∧q=A.length - k ∧
   st=(E [(68,.d (eN k)),(67,.d (eN A.length)),(12,.ptr 0 12 1 0),(10,.d (.list (A.map eQ)))],HB [(3,⟨1,some (lot.1.map eB)⟩),(9,b9),(12,⟨1,some [.list (A.map eQ),eI f]⟩)],[],noGh))
   ⟨_,_,stleB (by rfl),0,_,by omega,rfl,rfl⟩ ?_
  rintro q st ⟨k,b9,hk,rfl,rfl⟩
  by_cases g1:(k:Int) < (A.length:Int)
  case neg =>
   obtain rfl:k=A.length:=by omega
   (refine goX1 g1 (hs) ?_; (repeat' (with_reducible apply Br.mk<;>intro _)))
   exact Fin.p rfl rfl
  have hk':k < A.length:=by omega
  obtain ⟨p,hp⟩:∃ p,A[k]=p:=⟨_,rfl⟩
  (refine goX (nn g1 (nn hk' hp)) ?_; (repeat' (with_reducible apply Br.mk<;>intro _)))
  refine ⟨_,_,?_,stleB (by rfl),k + 1,_,by omega,rfl,rfl⟩
  omega
end Go.Proofs.YtclmdhceceacoaaDoor
