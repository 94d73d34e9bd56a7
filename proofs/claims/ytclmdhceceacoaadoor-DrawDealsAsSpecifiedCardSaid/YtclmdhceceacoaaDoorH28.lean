/-
 Layer 44: the examples of the documentation.
 Conditions: of each contract asks it says.
-/
import Derived.Test.YtclmdhceceacoaaDoorH25
namespace Go.Proofs.YtclmdhceceacoaaDoor
open Go Go.E2 CW CH C44
set_option linter.unusedSimpArgs false
set_option maxHeartbeats 8000000
theorem Lot_ok (l:List Int) (h1:l.length≤60) (h2:∀ n ∈ l,i64 n):CallP Tryd.prog f_zz35 [.list (l.map eI)] (·=.d (eD (lotOf (0::l)))):=by
 refine callP_of_W fol zz35_cp ?_
 have h2':∀ n ∈ (0:Int)::l,i64 n:=fun n hn=>by
  rcases List.mem_cons.1 hn with rfl|h
  · exact ⟨by decide,by decide⟩
  · exact h2 n h
 have hn:=numbers_ok (0::l) (by simp; omega) h2'
 have ho:=rOf_ok 194 (by decide) ((0::l).map intB) (by simp; omega) (nums_len h2')
 have hlo:CallP Tryd.prog f_zz38 [.int .i64 194,.list (((0::l).map intB).map D.str)] (·=.d (eD (lotOf (0::l)))):=ho
 generalize hd:lotOf (0::l)=d at *
 obtain ⟨d1,d2,d3,d4⟩:=dgOk d.2
 rw [eD_mk] at hlo ⊢
 generalize d.1.map eB=c at *
 generalize ((0::l).map intB).map D.str=ns at hn hlo
 have hm:=mostBytes_eq
 obtain ⟨ls,hls⟩:∃ ls,ls=((0:Int)::l).map eI:=⟨_,rfl⟩
 rw [← hls] at hn
 have hel:[D.int IntKind.i64 0] ++ l.map eI=ls:=hls.symm
 have hel2:D.int IntKind.i64 0::l.map eI=ls:=hls.symm
 obtain ⟨z16,hz16⟩:∃ z,z=zr 16 (D.int .u8 0):=⟨_,rfl⟩
 have z16l:z16.length=16:=by rw [hz16]; rfl
 have z16d:List.drop 16 z16=[]:=by rw [hz16]; rfl
 have z16e:zr 16 (D.int .u8 0)=z16:=hz16.symm
 have hl0:l.length≤60:=h1
 refine goS z16e ?_
 (refine goX2 (nn z16e (nn z16l (nn z16d (nn d1 (nn d3 (nn hel hel2)))))) (hn) (hlo) ?_; (repeat' (with_reducible apply Br.mk<;>intro _)))
 exact Fin.eq (r:=.d (.agg c)) (by simp -dsimp (disch:=first|omega|(simp only [go_sem]; omega)) only [go_sem,seval,Nat.reduceEqDiff,Nat.reduceLeDiff,d1,d2,d3]) ⟨rfl,rfl,rfl⟩
theorem lot_len (l:List Int):(lotOf l).1.length=16:=(lotOf l).2
theorem chal4 (lot:Dg):∃ b0 b1 b2 b3:Nat,chal lot 4 4=[(0,b0),(1,b1),(2,b2),(3,b3)]∧(1≤b0∧b0 < 2147483647)∧(1≤b1∧b1 < 2147483647)∧(1≤b2∧b2 < 2147483647)∧1≤b3∧b3 < 2147483647:=by
 have hs:sortN ((ordO lot 4).take 4)=[0,1,2,3]:=by
  have h1:(ordO lot 4).take 4=ordO lot 4:=List.take_of_length_le (by rw [ordO_len]; exact Nat.le_refl 4)
  rw [h1]
  have hp:(sortN (ordO lot 4)).Perm [0,1,2,3]:=(List.mergeSort_perm _ _).trans (ordL_perm _ _)
  have hso:(sortN (ordO lot 4)).Pairwise (fun x y=>x≤y):=by
   have:=List.pairwise_mergeSort (le:=fun x y:Nat=>decide (x≤y)) (fun a b c h1 h2=>by simp at *; omega) (fun a b=>by simp; omega) (ordO lot 4)
   exact this.imp fun h=>by simpa using h
  have hs2:[0,1,2,3].Pairwise (fun x y:Nat=>x≤y):=by decide
  exact hp.eq_of_pairwise (fun a b _ _ h1 h2=>Nat.le_antisymm h1 h2) hso hs2
 have hb:∀ k,1≤(askOf lot k).2∧(askOf lot k).2 < 2147483647:=fun k=>by
  have:red (undr lot.1 2 k) % 2147483646 < 2147483646:=Nat.mod_lt _ (by decide)
  simp only [askOf]; omega
 exact ⟨_,_,_,_,by rw [chal,hs]; rfl,hb 0,hb 1,hb 2,hb 3⟩
theorem chal4' (lot:Dg):∃ asks:List (Nat × Nat),chal lot 4 4=asks∧asks.length=4∧∀ k (h:k < asks.length),asks[k].1=k∧1≤asks[k].2∧asks[k].2 < 2147483647:=by
 obtain ⟨b0,b1,b2,b3,hch,hb0,hb1,hb2,hb3⟩:=chal4 lot
 refine ⟨_,hch,rfl,fun k h=>?_⟩
 have h4:k < 4:=h
 match k,h,h4 with
 | 0,_,_=>exact ⟨rfl,hb0⟩
 | 1,_,_=>exact ⟨rfl,hb1⟩
 | 2,_,_=>exact ⟨rfl,hb2⟩
 | 3,_,_=>exact ⟨rfl,hb3⟩
theorem sanity_ok:CallP Tryd.prog f_zz15 [] (·=.d (.bool true)):=by
 refine callP_of_W fol zz15_cp ?_
 have hP:P=2147483647:=rfl
 have hdA:=Deal_ok 1 5 1 2 (by decide) (by decide) (by decide) (by decide)
 have hdB:=Deal_ok 2 7 2 3 (by decide) (by decide) (by decide) (by decide)
 rw [shA,mkA] at hdA
 rw [shB,mkB] at hdB
 have r1:=Recover_ok tA [⟨2,5⟩] (by decide)
 have r2:=Recover_ok tA [⟨2,6⟩] (by decide)
 have r3:=Recover_ok tO [⟨2,5⟩] (by decide)
 have r4:=Recover_ok tB [⟨3,sB 3⟩,⟨1,sB 1⟩] (by decide)
 have hdr:=Draw_ok [tA,tB] [[⟨1,5⟩],[⟨1,sB 1⟩,⟨2,sB 2⟩]] (by decide) (by decide) (by decide)
 have hv:=Valid_ok tA
 have hf:=Fits_ok tA ⟨2,5⟩
 rw [sa1] at r1
 rw [sa2] at r2
 rw [sa3] at r3
 rw [sa4] at r4
 rw [saD] at hdr
 rw [sa8] at hv
 rw [sa9] at hf
 have hlot:=Lot_ok [1,5,2,7] (by decide) (by simp only [List.mem_cons,List.not_mem_nil,or_false,forall_eq_or_imp,forall_eq]; exact ⟨⟨by decide,by decide⟩,⟨by decide,by decide⟩,⟨by decide,by decide⟩,⟨by decide,by decide⟩⟩)
 have hc4:=Challenge_ok (lotOf [0,1,5,2,7]) 4 4 (by decide) (by decide)
 have hc5:=Challenge_bad (lotOf [0,1,5,2,7]) 4 5 (.inr (.inr (by decide)))
 obtain ⟨asks,hch,hal,hap⟩:=chal4' (lotOf [0,1,5,2,7])
 rw [hch] at hc4
 clear hch
 have hal':((asks.length:Nat):Int)=4:=by rw [hal]; rfl
 have hcl:=cellsEq_dg (lotOf [0,1,5,2,7]) (lotOf [0,1,5,2,7])
 rw [decide_eq_true rfl] at hcl
 obtain ⟨d1,d2,d3,d4⟩:=dgOk (lot_len [0,1,5,2,7])
 have hlv:eD (lotOf [0,1,5,2,7])=.agg ((lotOf [0,1,5,2,7]).1.map eB):=rfl
 unfold eDr at hdr
 rw [hlv] at hlot hc4 hc5
 generalize (lotOf [0,1,5,2,7]).1.map eB=lc at *
 have hTA:eT tA=.agg [eI 1,eI 1,.list [eD (mk3 1 1 5),eD (mk3 1 2 5)]]:=by unfold eT tA; rw [mkA]; rfl
 have hTB:eT tB=.agg [eI 2,eI 2,.list [eD (mk3 2 1 (sB 1)),eD (mk3 2 2 (sB 2)),eD (mk3 2 3 (sB 3))]]:=by unfold eT tB; rw [mkB]; rfl
 have hTO:eT tO=.agg [eI 1,eI 1,.list [eD oddD,eD (mk3 1 2 5)]]:=rfl
 rw [hTA] at r1 r2 hv hf
 rw [hTB] at r4
 rw [hTO] at r3
 clear hP
 simp only [List.map_cons,List.map_nil,hTA,hTB,eP,eL,show eN 0=eI 0 from rfl,show eN 1=eI 1 from rfl,show eN 2=eI 2 from rfl,show eN 3=eI 3 from rfl,show eN 4=eI 4 from rfl,show eN 5=eI 5 from rfl,show eN 7=eI 7 from rfl,show eN 8=eI 8 from rfl,show eN 23=eI 23 from rfl] at hdA hdB r1 r2 r3 r4 hdr hv hf hlot hc4 hc5
 generalize sB 1=s1 at *
 generalize sB 2=s2 at *
 generalize sB 3=s3 at *
 have m1s:=(mk3 1 1 5).2
 have m2s:=(mk3 1 2 5).2
 have m1t:=dg_take (mk3 1 1 5)
 have m2t:=dg_take (mk3 1 2 5)
 generalize mk3 1 1 5=m1 at *
 generalize mk3 1 2 5=m2 at *
 generalize mk3 2 1 (s1:Int)=n1 at *
 generalize mk3 2 2 (s2:Int)=n2 at *
 generalize mk3 2 3 (s3:Int)=n3 at *
 obtain ⟨z16,hz16⟩:∃ z,z=zr 16 (D.int .u8 0):=⟨_,rfl⟩
 have z16l:z16.length=16:=by rw [hz16]; rfl
 have z16d:List.drop 16 z16=[]:=by rw [hz16]; rfl
 have z16e:zr 16 (D.int .u8 0)=z16:=hz16.symm
 refine goS z16e ?_
 (refine goX2 (nn z16e z16l) (hdA) (hdB) ?_; (repeat' (with_reducible apply Br.mk<;>intro _)))
 have tk18:∀ x y:D,List.take 18 (lc ++ [x,y])=lc ++ [x,y]:=fun x y=>List.take_of_length_le (by rw [List.length_append,d1]; exact Nat.le_refl 18)
 have dr16:∀ x y:D,List.drop 16 (lc ++ [x,y])=[x,y]:=fun x y=>by rw [List.drop_append_of_le_length (by omega),List.drop_of_length_le (by omega)]; rfl
 have dr17:∀ x y:D,List.drop 17 (lc ++ [x,y])=[y]:=fun x y=>by rw [List.drop_append,List.drop_of_length_le (by omega),d1]; rfl
 have dr18:∀ x y:D,List.drop 18 (lc ++ [x,y])=[]:=fun x y=>List.drop_of_length_le (by rw [List.length_append,d1]; exact Nat.le_refl 18)
 have tk16:∀ x y:D,List.take 16 (lc ++ [x,y])=lc:=fun x y=>by rw [List.take_append_of_le_length (by omega),List.take_of_length_le (by omega)]
 have zl:∀ x y:D,(z16 ++ [x,y]).length=18:=fun x y=>by rw [List.length_append,z16l]; rfl
 have ll:∀ x y:D,(lc ++ [x,y]).length=18:=fun x y=>by rw [List.length_append,d1]; rfl
 have la:(lc ++ [D.list [eI 1,eI 2],D.list []]).all D.one=true:=by rw [List.all_append,d3]; rfl
 have zd:∀ x y:D,List.drop 18 (z16 ++ [x,y])=[]:=fun x y=>List.drop_of_length_le (by rw [zl]; exact Nat.le_refl 18)
 have zo:(List.drop 1 z16).all D.one=true:=by rw [hz16]; rfl
 have ze:D.agg (D.int .u8 1::List.drop 1 z16)=eD oddD:=by rw [hz16]; rfl
 have zs:(D.int .u8 1::List.drop 1 z16).length=16:=by rw [hz16]; rfl
 have m2e:D.agg (m2.1.map eB)=eD m2:=rfl
 have i1:vIaddr 16 (some (.list [eD m1,eD m2])) (.d (.int .i64 1))=some (.cptr (m2.1.map eB)):=by
  have:=eD_size m1
  have:=eD_size m2
  simp [vIaddr, *]
  rfl
 have za:z16.all D.one=true:=by rw [hz16]; rfl
 have j0:vIaddr 1 (some (.list [eN s1,eN s2,eN s3])) (.d (.int .i64 0))=some (.cptr [eN s1]):=rfl
 have j1:vIaddr 1 (some (.list [eN s1,eN s2,eN s3])) (.d (.int .i64 1))=some (.cptr [eN s2]):=rfl
 have j2:vIaddr 1 (some (.list [eN s1,eN s2,eN s3])) (.d (.int .i64 2))=some (.cptr [eN s3]):=rfl
 have k0:vIaddr 1 (some (.list [eI 5,eI 5])) (.d (.int .i64 0))=some (.cptr [eI 5]):=rfl
 have k1:vIaddr 1 (some (.list [eI 5,eI 5])) (.d (.int .i64 1))=some (.cptr [eI 5]):=rfl
 have l0:vIaddr 1 (some (.list [eI 1,eI 2])) (.d (.int .i64 0))=some (.cptr [eI 1]):=rfl
 have l1:vIaddr 1 (some (.list [eI 1,eI 2])) (.d (.int .i64 1))=some (.cptr [eI 2]):=rfl
 have z1:(z16 ++ [D.nilS,D.nilS]).all D.one=true:=by rw [hz16]; rfl
 have la':=la
 have hcl1:(lc ++ [D.list [eI 1,eI 2],D.list []]).length=18:=ll _ _
 (repeat' (first|(with_reducible first|refine W.seq ?_|refine W.block ?_|refine W.scope ?_)|((first|(with_reducible first|refine W.reg ?_|refine W.skip ?_|refine W.exit ?_|refine W.ret ?_|refine W.ifc ?_)|(apply wC_P (r1); (focus (simp -dsimp (disch:=first|omega|(simp only [go_sem]; omega)) only [go_sem,seval,Nat.reduceEqDiff,Nat.reduceLeDiff]<;>rfl)); rintro _ rfl)|(apply wC_P (r2); (focus (simp -dsimp (disch:=first|omega|(simp only [go_sem]; omega)) only [go_sem,seval,Nat.reduceEqDiff,Nat.reduceLeDiff]<;>rfl)); rintro _ rfl)|(apply wC_P (r3); (focus (simp -dsimp (disch:=first|omega|(simp only [go_sem]; omega)) only [go_sem,seval,Nat.reduceEqDiff,Nat.reduceLeDiff]<;>rfl)); rintro _ rfl)|(apply wC_P (r4); (focus (simp -dsimp (disch:=first|omega|(simp only [go_sem]; omega)) only [go_sem,seval,Nat.reduceEqDiff,Nat.reduceLeDiff]<;>rfl)); rintro _ rfl)|(apply wC_P (hdr); (focus (simp -dsimp (disch:=first|omega|(simp only [go_sem]; omega)) only [go_sem,seval,Nat.reduceEqDiff,Nat.reduceLeDiff]<;>rfl)); rintro _ rfl)|(apply wC_P (hc4); (focus (simp -dsimp (disch:=first|omega|(simp only [go_sem]; omega)) only [go_sem,seval,Nat.reduceEqDiff,Nat.reduceLeDiff]<;>rfl)); rintro _ rfl)|(apply wC_P (hc5); (focus (simp -dsimp (disch:=first|omega|(simp only [go_sem]; omega)) only [go_sem,seval,Nat.reduceEqDiff,Nat.reduceLeDiff]<;>rfl)); rintro _ rfl)|(apply wC_P (hlot); (focus (simp -dsimp (disch:=first|omega|(simp only [go_sem]; omega)) only [go_sem,seval,Nat.reduceEqDiff,Nat.reduceLeDiff]<;>rfl)); rintro _ rfl)|((with_reducible first|refine wG_decE (fun _ hG=>?_) (fun _ hG=>?_)|refine wG_decFE (fun _ hG=>?_) (fun _ hG=>?_))<;>(try simp -dsimp only [hG,decide_true,decide_false,not_true_eq_false,not_false_eq_true])<;>clear hG))<;>(try simp -dsimp (disch:=first|omega|(simp only [go_sem]; omega)) only [go_sem,seval,Nat.reduceEqDiff,Nat.reduceLeDiff,z16e,z16l,m1s,m2s,m1t,m2t,zo,ze,m2e,i1,za,j0,j1,j2,k0,k1,l0,l1,tk18,dr16,dr17,dr18,tk16,zl,ll,la,zd,z1,d1,d2,d3,hcl,hal,hal']))|simp -dsimp (disch:=first|omega|(simp only [go_sem]; omega)) only [go_sem,seval,Nat.reduceEqDiff,Nat.reduceLeDiff,z16e,z16l,m1s,m2s,m1t,m2t,zo,ze,m2e,i1,za,j0,j1,j2,k0,k1,l0,l1,tk18,dr16,dr17,dr18,tk16,zl,ll,la,zd,z1,d1,d2,d3,hcl,hal,hal']))
 refine W.loop (fun q st=>∃ (k:Nat) (b23:Blk),k≤4∧q=4 - k ∧
  st=(E [(162,.d (eN k)),(161,.d (.int .i64 4)),(160,.d (.list (asks.map eQ))),(1,.d (.list [eI 5,eI 5])),(7,.d (eI 5)),(8,.d (eI 0)),(10,.d (eI 8)),(13,.d (eI 23)),(14,.d (eI 7)),(15,.d (eI 0)),(17,.d (eI 0)),(2,.ptr 0 2 1 0),(16,.ptr 0 16 1 0)],
   HB [(2,⟨1,some [eI 1,eI 1,.list [eD m1,eD m2]]⟩),(5,⟨1,some [eI 2,eI 2,.list [eD n1,eD n2,eD n3]]⟩),(11,⟨1,some [.int .i64 1,.int .i64 1,.list [eD oddD,eD m2]]⟩),(16,⟨1,some (lc ++ [.list [eI 1,eI 2],.list []])⟩),(23,b23)],[],noGh))
  ⟨_,_,stleB (HB_pad [(2,_),(5,_),(11,_),(16,_)] [23] rfl).symm,0,_,by omega,rfl,rfl⟩ ?_
 rintro q st ⟨k,b23,hk,rfl,rfl⟩
 by_cases g1:(k:Int) < 4
 case pos =>
  have hk':k < asks.length:=by omega
  obtain ⟨a1,a2,a3⟩:=hap k hk'
  obtain ⟨av,hav⟩:∃ av,asks[k].2=av:=⟨_,rfl⟩
  rw [hav] at a2 a3
  have p1:¬ (av:Int) < 1:=by omega
  have p2:¬ (av:Int) ≥ 2147483647:=by omega
  (refine goX (nn g1 (nn hk' (nn a1 (nn hav (nn p1 (nn p2 hal)))))) ?_; (repeat' (with_reducible apply Br.mk<;>intro _)))
  refine ⟨_,_,?_,stleB (by rfl),k + 1,_,by omega,rfl,rfl⟩
  omega
 (refine goX2 (nn g1 (nn k0 (nn k1 (nn l0 (nn l1 (nn dr16 (nn dr17 d1))))))) (hv) (hf) ?_; (repeat' (with_reducible apply Br.mk<;>intro _)))
 exact Fin.p rfl rfl
end Go.Proofs.YtclmdhceceacoaaDoor
/-
 Layer 44: the law DrawDealsAsSpecified.
 Conditions: of each contract as it says.
-/
namespace Go.Proofs.YtclmdhceceacoaaDoor
open Go Go.E2 CW CH C44
set_option linter.unusedSimpArgs false
set_option maxHeartbeats 8000000
theorem dOk_nat {h s need n:Int} (h0:dOk h s need n):∃ h' s' need' n':Nat,h=h'∧s=s'∧need=need'∧n=n'∧h' < 12∧s' < P∧(1≤n'∧n'≤12)∧1≤need'∧need'≤n':=by
 obtain ⟨⟨a1,a2⟩,⟨b1,b2⟩,c1,c2,e1,e2⟩:=h0
 have hP:P=2147483647:=rfl
 exact ⟨h.toNat,s.toNat,need.toNat,n.toNat,by omega,by omega,by omega,by omega,by omega,by omega,by omega,by omega⟩
theorem Deal_bad2 (h s need n:Int) (hb:¬ dOk h s need n):CallP Tryd.prog f_zz56 [eI h,eI s,eI need,eI n] (·=.tup [.list [],.agg [eI 0,eI 0,.list []],eI 3]):=by
 have h2:∀ G:Gh,DRs G.c [eI 0,eI 0,D.nilS] [eI 0,eI 0,.list []]:=fun G=>.cons (.refl _) (.cons (.refl _) (.cons .nil .nil))
 refine CallP.of_deep (CallT.mono (Deal_bad h s need n hb) fun r σ' G' ⟨e1,e2,e3⟩=>⟨e1,_,by rw [e3]; exact .tup _ _ (.cons .nil (.cons (DR.agg _ _ (h2 G').1 (h2 G').2) (.cons (.refl _) .nil))),rfl⟩)
theorem rDeal_bad2 (h s need n:Int) (hb:¬ dOk h s need n):CallP Tryd.prog f_zz27 [eI h,eI s,eI need,eI n] (·=.d (.agg [.list [],eI 0,eI 0,.list [],eI 3])):=by
 have h2:∀ G:Gh,DRs G.c [D.nilS,eI 0,eI 0,D.nilS,eI 3] [.list [],eI 0,eI 0,.list [],eI 3]:=fun G=>.cons .nil (.cons (.refl _) (.cons (.refl _) (.cons .nil (.cons (.refl _) .nil))))
 refine CallP.of_deep (CallT.mono (rDeal_bad h s need n hb) fun r σ' G' ⟨e1,e2,e3⟩=>⟨e1,_,by rw [e3]; exact .d _ _ (DR.agg _ _ (h2 G').1 (h2 G').2),rfl⟩)
theorem dealt (a b c d:Int):∃ (L:List Int) (T:Tk) (E:Int),L.length≤12∧T.marks.length≤12 ∧
 CallP Tryd.prog f_zz56 [eI a,eI b,eI c,eI d] (·=.tup [.list (L.map eI),.agg [eI T.house,eI T.need,.list (T.marks.map eD)],eI E]) ∧
 CallP Tryd.prog f_zz27 [eI a,eI b,eI c,eI d] (·=.d (.agg [.list (L.map eI),eI T.house,eI T.need,.list (T.marks.map eD),eI E])):=by
 by_cases h0:dOk a b c d
 case neg=>exact ⟨[],⟨0,0,[]⟩,3,by simp,by simp,Deal_bad2 a b c d h0,rDeal_bad2 a b c d h0⟩
 obtain ⟨h',s',need',n',rfl,rfl,rfl,rfl,q1,q2,q3,q4⟩:=dOk_nat h0
 have hd1:=Deal_ok h' s' need' n' q1 q2 q3 q4
 have hd2:=rDeal_ok h' s' need' n' q1 q2 q3 q4
 have hsl:=shares_len h' s' need' n'
 have hml:=marksL_len h' s' need' n'
 have e:(shares h' s' need' n').map eN=((shares h' s' need' n').map fun k:Nat=>(k:Int)).map eI:=by rw [List.map_map]; rfl
 rw [e] at hd1 hd2
 exact ⟨_,⟨h',need',marksL h' s' need' n'⟩,0,by rw [List.length_map,hsl]; omega,by rw [hml]; omega,hd1,hd2⟩
theorem deals_ok (a b c d:Int) (t:Tk) (l:List Pc):CallP Tryd.prog f_zz1 [.agg [eI a,eI b,eI c,eI d],eT t,.list (l.map eP)] (·=.d (.bool true)):=by
 refine callP_of_W fol zz1_cp ?_
 have hs:=sanity_ok
 have hT:eT t=.agg [eI t.house,eI t.need,.list (t.marks.map eD)]:=rfl
 by_cases h1:(t.marks.length:Int) > 20
 · rw [hT]
   refine goS trivial ?_
   (refine goX1 h1 (hs) ?_; (repeat' (with_reducible apply Br.mk<;>intro _)))
   exact Fin.p rfl rfl
 by_cases h2:(l.length:Int) > 20
 · rw [hT]
   refine goS trivial ?_
   (refine goX1 (nn h1 h2) (hs) ?_; (repeat' (with_reducible apply Br.mk<;>intro _)))
   exact Fin.p rfl rfl
 have hv1:=Valid_ok t
 have hv2:=rValid_ok t
 have hr1:=Recover_ok t l (by omega)
 have hr2:=rRecover_ok t l (by omega)
 obtain ⟨L,T,E0,hL,hM,hd1,hd2⟩:=dealt a b c d
 have hl:=SameList_ok L L (by omega) (by omega)
 have ht:=SameTicket_ok T T (by omega) (by omega)
 rw [decide_eq_true rfl] at hl ht
 have hTT:eT T=.agg [eI T.house,eI T.need,.list (T.marks.map eD)]:=rfl
 rw [hT] at hv1 hv2 hr1 hr2 ⊢
 rw [hTT] at ht
 refine goS trivial ?_
 (repeat' (first|(with_reducible first|refine W.seq ?_|refine W.block ?_|refine W.scope ?_)|((first|(with_reducible first|refine W.reg ?_|refine W.skip ?_|refine W.exit ?_|refine W.ret ?_|refine W.ifc ?_)|(apply wC_P (hd1); (focus (simp -dsimp (disch:=first|omega|(simp only [go_sem]; omega)) only [go_sem,seval,Nat.reduceEqDiff,Nat.reduceLeDiff]<;>rfl)); rintro _ rfl)|(apply wC_P (hd2); (focus (simp -dsimp (disch:=first|omega|(simp only [go_sem]; omega)) only [go_sem,seval,Nat.reduceEqDiff,Nat.reduceLeDiff]<;>rfl)); rintro _ rfl)|(apply wC_P (hl); (focus (simp -dsimp (disch:=first|omega|(simp only [go_sem]; omega)) only [go_sem,seval,Nat.reduceEqDiff,Nat.reduceLeDiff]<;>rfl)); rintro _ rfl)|(apply wC_P (ht); (focus (simp -dsimp (disch:=first|omega|(simp only [go_sem]; omega)) only [go_sem,seval,Nat.reduceEqDiff,Nat.reduceLeDiff]<;>rfl)); rintro _ rfl)|(apply wC_P (hv1); (focus (simp -dsimp (disch:=first|omega|(simp only [go_sem]; omega)) only [go_sem,seval,Nat.reduceEqDiff,Nat.reduceLeDiff]<;>rfl)); rintro _ rfl)|(apply wC_P (hv2); (focus (simp -dsimp (disch:=first|omega|(simp only [go_sem]; omega)) only [go_sem,seval,Nat.reduceEqDiff,Nat.reduceLeDiff]<;>rfl)); rintro _ rfl)|((with_reducible first|refine wG_decE (fun _ hG=>?_) (fun _ hG=>?_)|refine wG_decFE (fun _ hG=>?_) (fun _ hG=>?_))<;>(try simp -dsimp only [hG,decide_true,decide_false,not_true_eq_false,not_false_eq_true])<;>clear hG))<;>(try simp -dsimp (disch:=first|omega|(simp only [go_sem]; omega)) only [go_sem,seval,Nat.reduceEqDiff,Nat.reduceLeDiff,h1,h2]))|simp -dsimp (disch:=first|omega|(simp only [go_sem]; omega)) only [go_sem,seval,Nat.reduceEqDiff,Nat.reduceLeDiff,h1,h2]))
 refine W.loop (fun q st=>∃ (k:Nat) (b12:Blk),k≤l.length∧q=l.length - k ∧
  st=(E [(75,.d (eN k)),(74,.d (eN l.length)),(73,.d (.list (l.map eP))),(2,.d (.list (l.map eP))),(4,.ptr 0 4 1 0)],
   HB [(3,⟨1,some [eI a,eI b,eI c,eI d]⟩),(4,⟨1,some [eI t.house,eI t.need,.list (t.marks.map eD)]⟩),(8,⟨1,some [eI T.house,eI T.need,.list (T.marks.map eD)]⟩),(10,⟨1,some [.list (L.map eI),eI T.house,eI T.need,.list (T.marks.map eD),eI E0]⟩),(12,b12)],[],noGh))
  ⟨_,_,stleB (HB_pad [(3,_),(4,_),(8,_),(10,_)] [12] rfl).symm,0,_,by omega,rfl,rfl⟩ ?_
 rintro q st ⟨k,b12,hk,rfl,rfl⟩
 by_cases g1:(k:Int) < (l.length:Int)
 case pos =>
  have hk':k < l.length:=by omega
  have hf1:=Fits_ok t l[k]
  have hf2:=rFits_ok t l[k]
  rw [hT] at hf1 hf2
  unfold eP at hf1 hf2
  cases hfv:fits t l[k]<;>rw [hfv] at hf1 hf2
  all_goals
   (refine goX2 (nn g1 hk') (hf1) (hf2) ?_; (repeat' (with_reducible apply Br.mk<;>intro _)))
   refine ⟨_,_,?_,stleB (by rfl),k + 1,_,by omega,rfl,rfl⟩
   omega
 (refine goX3 g1 (hr1) (hr2) (hs) ?_; (repeat' (with_reducible apply Br.mk<;>intro _)))
 exact Fin.p rfl rfl
end Go.Proofs.YtclmdhceceacoaaDoor
