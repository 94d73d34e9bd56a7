/-
 Layer 44: the examples of the documentation.
 Conditions: of each contract asks it says.
-/
import Derived.Test.YtclmdhceceacoaaGreatDoorH25
import Derived.Test.YtclmdhceceacoaaGreatDoorH53
namespace Go.Proofs.YtclmdhceceacoaaGreatDoor
open Go Go.E2 CW CH C44
set_option linter.unusedSimpArgs false
set_option maxHeartbeats 8000000
theorem Lot_ok (l:List Int) (h1:l.length≤60) (h2:∀ n ∈ l,i64 n):CallP Tryz.prog f_zz27 [.list (l.map eI)] (·=.d (eD (lotOf (0::l)))):=by
 refine callP_of_W fol zz27_cp ?_
 have h2':∀ n ∈ (0:Int)::l,i64 n:=fun n hn=>by
  rcases List.mem_cons.1 hn with rfl|h
  · exact ⟨by decide,by decide⟩
  · exact h2 n h
 have hn:=numbers_ok (0::l) (by simp; omega) h2'
 have ho:=rOf_ok 194 (by decide) ((0::l).map intB) (by simp; omega) (nums_len h2')
 have hlo:CallP Tryz.prog f_zz30 [.int .i64 194,.list (((0::l).map intB).map D.str)] (·=.d (eD (lotOf (0::l)))):=ho
 generalize hd:lotOf (0::l)=d at *
 obtain ⟨d1,d2,d3,d4⟩:=dgOk d.2
 rw [eD_mk] at hlo ⊢
 generalize d.1.map eB=c at *
 generalize ((0::l).map intB).map D.str=ns at hn hlo
 have hm:=mostBytes_eq
 obtain ⟨ls,hls⟩:∃ ls,ls=((0:Int)::l).map eI:=⟨_,rfl⟩
 rw [← hls] at hn
 have hel:[D.int IntKind.i64 0] ++ l.map eI=ls:=hls.symm
 have hel2:D.int IntKind.i64 0::l.map eI=ls:=hls.symm
 obtain ⟨z16,hz16⟩:∃ z,z=zr 16 (D.int .u8 0):=⟨_,rfl⟩
 have z16l:z16.length=16:=by rw [hz16]; rfl
 have z16d:List.drop 16 z16=[]:=by rw [hz16]; rfl
 have z16e:zr 16 (D.int .u8 0)=z16:=hz16.symm
 have hl0:l.length≤60:=h1
 refine goS z16e ?_
 (refine goX2 (nn z16e (nn z16l (nn z16d (nn d1 (nn d3 (nn hel hel2)))))) (hn) (hlo) ?_; (repeat' (with_reducible apply Br.mk<;>intro _)))
 exact Fin.eq (r:=.d (.agg c)) (by simp -dsimp (disch:=first|omega|(simp only [go_sem]; omega)) only [go_sem,seval,Nat.reduceEqDiff,Nat.reduceLeDiff,d1,d2,d3]) ⟨rfl,rfl,rfl⟩
theorem lot_len (l:List Int):(lotOf l).1.length=16:=(lotOf l).2
theorem chal4 (lot:Dg):∃ b0 b1 b2 b3:Nat,chal lot 4 4=[(0,b0),(1,b1),(2,b2),(3,b3)]∧(1≤b0∧b0 < 2147483647)∧(1≤b1∧b1 < 2147483647)∧(1≤b2∧b2 < 2147483647)∧1≤b3∧b3 < 2147483647:=by
 have hs:sortN ((ordO lot 4).take 4)=[0,1,2,3]:=by
  have h1:(ordO lot 4).take 4=ordO lot 4:=List.take_of_length_le (by rw [ordO_len]; exact Nat.le_refl 4)
  rw [h1]
  have hp:(sortN (ordO lot 4)).Perm [0,1,2,3]:=(List.mergeSort_perm _ _).trans (ordL_perm _ _)
  have hso:(sortN (ordO lot 4)).Pairwise (fun x y=>x≤y):=by
   have:=List.pairwise_mergeSort (le:=fun x y:Nat=>decide (x≤y)) (fun a b c h1 h2=>by simp at *; omega) (fun a b=>by simp; omega) (ordO lot 4)
   exact this.imp fun h=>by simpa using h
  have hs2:[0,1,2,3].Pairwise (fun x y:Nat=>x≤y):=by decide
  exact hp.eq_of_pairwise (fun a b _ _ h1 h2=>Nat.le_antisymm h1 h2) hso hs2
 have hb:∀ k,1≤(askOf lot k).2∧(askOf lot k).2 < 2147483647:=fun k=>by
  have:red (undr lot.1 2 k) % 2147483646 < 2147483646:=Nat.mod_lt _ (by decide)
  simp only [askOf]; omega
 exact ⟨_,_,_,_,by rw [chal,hs]; rfl,hb 0,hb 1,hb 2,hb 3⟩
theorem chal4' (lot:Dg):∃ asks:List (Nat × Nat),chal lot 4 4=asks∧asks.length=4∧∀ k (h:k < asks.length),asks[k].1=k∧1≤asks[k].2∧asks[k].2 < 2147483647:=by
 obtain ⟨b0,b1,b2,b3,hch,hb0,hb1,hb2,hb3⟩:=chal4 lot
 refine ⟨_,hch,rfl,fun k h=>?_⟩
 have h4:k < 4:=h
 match k,h,h4 with
 | 0,_,_=>exact ⟨rfl,hb0⟩
 | 1,_,_=>exact ⟨rfl,hb1⟩
 | 2,_,_=>exact ⟨rfl,hb2⟩
 | 3,_,_=>exact ⟨rfl,hb3⟩
theorem sanity_ok:CallP Tryz.prog f_zz12 [] (·=.d (.bool true)):=by
 refine callP_of_W fol zz12_cp ?_
 have hP:P=2147483647:=rfl
 have hdA:=Deal_ok 1 5 1 2 (by decide) (by decide) (by decide) (by decide)
 have hdB:=Deal_ok 2 7 2 3 (by decide) (by decide) (by decide) (by decide)
 rw [shA,mkA] at hdA
 rw [shB,mkB] at hdB
 have r1:=Recover_ok tA [⟨2,5⟩] (by decide)
 have r2:=Recover_ok tA [⟨2,6⟩] (by decide)
 have r3:=Recover_ok tO [⟨2,5⟩] (by decide)
 have r4:=Recover_ok tB [⟨3,sB 3⟩,⟨1,sB 1⟩] (by decide)
 have hdr:=Draw_ok [tA,tB] [[⟨1,5⟩],[⟨1,sB 1⟩,⟨2,sB 2⟩]] (by decide) (by decide) (by decide)
 have hv:=Valid_ok tA
 have hf:=Fits_ok tA ⟨2,5⟩
 rw [sa1] at r1
 rw [sa2] at r2
 rw [sa3] at r3
 rw [sa4] at r4
 rw [saD] at hdr
 rw [sa8] at hv
 rw [sa9] at hf
 have hlot:=Lot_ok [1,5,2,7] (by decide) (by simp only [List.mem_cons,List.not_mem_nil,or_false,forall_eq_or_imp,forall_eq]; exact ⟨⟨by decide,by decide⟩,⟨by decide,by decide⟩,⟨by decide,by decide⟩,⟨by decide,by decide⟩⟩)
 have hc4:=Challenge_ok (lotOf [0,1,5,2,7]) 4 4 (by decide) (by decide)
 have hc5:=Challenge_bad (lotOf [0,1,5,2,7]) 4 5 (.inr (.inr (by decide)))
 obtain ⟨asks,hch,hal,hap⟩:=chal4' (lotOf [0,1,5,2,7])
 rw [hch] at hc4
 clear hch
 have hal':((asks.length:Nat):Int)=4:=by rw [hal]; rfl
 have hcl:=cellsEq_dg (lotOf [0,1,5,2,7]) (lotOf [0,1,5,2,7])
 rw [decide_eq_true rfl] at hcl
 obtain ⟨d1,d2,d3,d4⟩:=dgOk (lot_len [0,1,5,2,7])
 have hlv:eD (lotOf [0,1,5,2,7])=.agg ((lotOf [0,1,5,2,7]).1.map eB):=rfl
 unfold eDr at hdr
 rw [hlv] at hlot hc4 hc5
 generalize (lotOf [0,1,5,2,7]).1.map eB=lc at *
 have hTA:eT tA=.agg [eI 1,eI 1,.list [eD (mk3 1 1 5),eD (mk3 1 2 5)]]:=by unfold eT tA; rw [mkA]; rfl
 have hTB:eT tB=.agg [eI 2,eI 2,.list [eD (mk3 2 1 (sB 1)),eD (mk3 2 2 (sB 2)),eD (mk3 2 3 (sB 3))]]:=by unfold eT tB; rw [mkB]; rfl
 have hTO:eT tO=.agg [eI 1,eI 1,.list [eD oddD,eD (mk3 1 2 5)]]:=rfl
 rw [hTA] at r1 r2 hv hf
 rw [hTB] at r4
 rw [hTO] at r3
 clear hP
 simp only [List.map_cons,List.map_nil,hTA,hTB,eP,eL,show eN 0=eI 0 from rfl,show eN 1=eI 1 from rfl,show eN 2=eI 2 from rfl,show eN 3=eI 3 from rfl,show eN 4=eI 4 from rfl,show eN 5=eI 5 from rfl,show eN 7=eI 7 from rfl,show eN 8=eI 8 from rfl,show eN 23=eI 23 from rfl] at hdA hdB r1 r2 r3 r4 hdr hv hf hlot hc4 hc5
 generalize sB 1=s1 at *
 generalize sB 2=s2 at *
 generalize sB 3=s3 at *
 have m1s:=(mk3 1 1 5).2
 have m2s:=(mk3 1 2 5).2
 have m1t:=dg_take (mk3 1 1 5)
 have m2t:=dg_take (mk3 1 2 5)
 generalize mk3 1 1 5=m1 at *
 generalize mk3 1 2 5=m2 at *
 generalize mk3 2 1 (s1:Int)=n1 at *
 generalize mk3 2 2 (s2:Int)=n2 at *
 generalize mk3 2 3 (s3:Int)=n3 at *
 obtain ⟨z16,hz16⟩:∃ z,z=zr 16 (D.int .u8 0):=⟨_,rfl⟩
 have z16l:z16.length=16:=by rw [hz16]; rfl
 have z16d:List.drop 16 z16=[]:=by rw [hz16]; rfl
 have z16e:zr 16 (D.int .u8 0)=z16:=hz16.symm
 refine goS z16e ?_
 (refine goX2 (nn z16e z16l) (hdA) (hdB) ?_; (repeat' (with_reducible apply Br.mk<;>intro _)))
 have tk18:∀ x y:D,List.take 18 (lc ++ [x,y])=lc ++ [x,y]:=fun x y=>List.take_of_length_le (by rw [List.length_append,d1]; exact Nat.le_refl 18)
 have dr16:∀ x y:D,List.drop 16 (lc ++ [x,y])=[x,y]:=fun x y=>by rw [List.drop_append_of_le_length (by omega),List.drop_of_length_le (by omega)]; rfl
 have dr17:∀ x y:D,List.drop 17 (lc ++ [x,y])=[y]:=fun x y=>by rw [List.drop_append,List.drop_of_length_le (by omega),d1]; rfl
 have dr18:∀ x y:D,List.drop 18 (lc ++ [x,y])=[]:=fun x y=>List.drop_of_length_le (by rw [List.length_append,d1]; exact Nat.le_refl 18)
 have tk16:∀ x y:D,List.take 16 (lc ++ [x,y])=lc:=fun x y=>by rw [List.take_append_of_le_length (by omega),List.take_of_length_le (by omega)]
 have zl:∀ x y:D,(z16 ++ [x,y]).length=18:=fun x y=>by rw [List.length_append,z16l]; rfl
 have ll:∀ x y:D,(lc ++ [x,y]).length=18:=fun x y=>by rw [List.length_append,d1]; rfl
 have la:(lc ++ [D.list [eI 1,eI 2],D.list []]).all D.one=true:=by rw [List.all_append,d3]; rfl
 have zd:∀ x y:D,List.drop 18 (z16 ++ [x,y])=[]:=fun x y=>List.drop_of_length_le (by rw [zl]; exact Nat.le_refl 18)
 have zo:(List.drop 1 z16).all D.one=true:=by rw [hz16]; rfl
 have ze:D.agg (D.int .u8 1::List.drop 1 z16)=eD oddD:=by rw [hz16]; rfl
 have zs:(D.int .u8 1::List.drop 1 z16).length=16:=by rw [hz16]; rfl
 have m2e:D.agg (m2.1.map eB)=eD m2:=rfl
 have i1:vIaddr 16 (some (.list [eD m1,eD m2])) (.d (.int .i64 1))=some (.cptr (m2.1.map eB)):=by
  have:=eD_size m1
  have:=eD_size m2
  simp [vIaddr, *]
  rfl
 have za:z16.all D.one=true:=by rw [hz16]; rfl
 have j0:vIaddr 1 (some (.list [eN s1,eN s2,eN s3])) (.d (.int .i64 0))=some (.cptr [eN s1]):=rfl
 have j1:vIaddr 1 (some (.list [eN s1,eN s2,eN s3])) (.d (.int .i64 1))=some (.cptr [eN s2]):=rfl
 have j2:vIaddr 1 (some (.list [eN s1,eN s2,eN s3])) (.d (.int .i64 2))=some (.cptr [eN s3]):=rfl
 have k0:vIaddr 1 (some (.list [eI 5,eI 5])) (.d (.int .i64 0))=some (.cptr [eI 5]):=rfl
 have k1:vIaddr 1 (some (.list [eI 5,eI 5])) (.d (.int .i64 1))=some (.cptr [eI 5]):=rfl
 have l0:vIaddr 1 (some (.list [eI 1,eI 2])) (.d (.int .i64 0))=some (.cptr [eI 1]):=rfl
 have l1:vIaddr 1 (some (.list [eI 1,eI 2])) (.d (.int .i64 1))=some (.cptr [eI 2]):=rfl
 have z1:(z16 ++ [D.nilS,D.nilS]).all D.one=true:=by rw [hz16]; rfl
 have la':=la
 have hcl1:(lc ++ [D.list [eI 1,eI 2],D.list []]).length=18:=ll _ _
 (repeat' (first|(with_reducible first|refine W.seq ?_|refine W.block ?_|refine W.scope ?_)|((first|(with_reducible first|refine W.reg ?_|refine W.skip ?_|refine W.exit ?_|refine W.ret ?_|refine W.ifc ?_)|(apply wC_P (r1); (focus (simp -dsimp (disch:=first|omega|(simp only [go_sem]; omega)) only [go_sem,seval,Nat.reduceEqDiff,Nat.reduceLeDiff]<;>rfl)); rintro _ rfl)|(apply wC_P (r2); (focus (simp -dsimp (disch:=first|omega|(simp only [go_sem]; omega)) only [go_sem,seval,Nat.reduceEqDiff,Nat.reduceLeDiff]<;>rfl)); rintro _ rfl)|(apply wC_P (r3); (focus (simp -dsimp (disch:=first|omega|(simp only [go_sem]; omega)) only [go_sem,seval,Nat.reduceEqDiff,Nat.reduceLeDiff]<;>rfl)); rintro _ rfl)|(apply wC_P (r4); (focus (simp -dsimp (disch:=first|omega|(simp only [go_sem]; omega)) only [go_sem,seval,Nat.reduceEqDiff,Nat.reduceLeDiff]<;>rfl)); rintro _ rfl)|(apply wC_P (hdr); (focus (simp -dsimp (disch:=first|omega|(simp only [go_sem]; omega)) only [go_sem,seval,Nat.reduceEqDiff,Nat.reduceLeDiff]<;>rfl)); rintro _ rfl)|(apply wC_P (hc4); (focus (simp -dsimp (disch:=first|omega|(simp only [go_sem]; omega)) only [go_sem,seval,Nat.reduceEqDiff,Nat.reduceLeDiff]<;>rfl)); rintro _ rfl)|(apply wC_P (hc5); (focus (simp -dsimp (disch:=first|omega|(simp only [go_sem]; omega)) only [go_sem,seval,Nat.reduceEqDiff,Nat.reduceLeDiff]<;>rfl)); rintro _ rfl)|(apply wC_P (hlot); (focus (simp -dsimp (disch:=first|omega|(simp only [go_sem]; omega)) only [go_sem,seval,Nat.reduceEqDiff,Nat.reduceLeDiff]<;>rfl)); rintro _ rfl)|((with_reducible first|refine wG_decE (fun _ hG=>?_) (fun _ hG=>?_)|refine wG_decFE (fun _ hG=>?_) (fun _ hG=>?_))<;>(try simp -dsimp only [hG,decide_true,decide_false,not_true_eq_false,not_false_eq_true])<;>clear hG))<;>(try simp -dsimp (disch:=first|omega|(simp only [go_sem]; omega)) only [go_sem,seval,Nat.reduceEqDiff,Nat.reduceLeDiff,z16e,z16l,m1s,m2s,m1t,m2t,zo,ze,m2e,i1,za,j0,j1,j2,k0,k1,l0,l1,tk18,dr16,dr17,dr18,tk16,zl,ll,la,zd,z1,d1,d2,d3,hcl,hal,hal']))|simp -dsimp (disch:=first|omega|(simp only [go_sem]; omega)) only [go_sem,seval,Nat.reduceEqDiff,Nat.reduceLeDiff,z16e,z16l,m1s,m2s,m1t,m2t,zo,ze,m2e,i1,za,j0,j1,j2,k0,k1,l0,l1,tk18,dr16,dr17,dr18,tk16,zl,ll,la,zd,z1,d1,d2,d3,hcl,hal,hal']))
 refine W.loop (fun q st=>∃ (k:Nat) (b23:Blk),k≤4∧q=4 - k ∧
  st=(E [(162,.d (eN k)),(161,.d (.int .i64 4)),(160,.d (.list (asks.map eQ))),(1,.d (.list [eI 5,eI 5])),(7,.d (eI 5)),(8,.d (eI 0)),(10,.d (eI 8)),(13,.d (eI 23)),(14,.d (eI 7)),(15,.d (eI 0)),(17,.d (eI 0)),(2,.ptr 0 2 1 0),(16,.ptr 0 16 1 0)],
   HB [(2,⟨1,some [eI 1,eI 1,.list [eD m1,eD m2]]⟩),(5,⟨1,some [eI 2,eI 2,.list [eD n1,eD n2,eD n3]]⟩),(11,⟨1,some [.int .i64 1,.int .i64 1,.list [eD oddD,eD m2]]⟩),(16,⟨1,some (lc ++ [.list [eI 1,eI 2],.list []])⟩),(23,b23)],[],noGh))
  ⟨_,_,stleB (HB_pad [(2,_),(5,_),(11,_),(16,_)] [23] rfl).symm,0,_,by omega,rfl,rfl⟩ ?_
 rintro q st ⟨k,b23,hk,rfl,rfl⟩
 by_cases g1:(k:Int) < 4
 case pos =>
  have hk':k < asks.length:=by omega
  obtain ⟨a1,a2,a3⟩:=hap k hk'
  obtain ⟨av,hav⟩:∃ av,asks[k].2=av:=⟨_,rfl⟩
  rw [hav] at a2 a3
  have p1:¬ (av:Int) < 1:=by omega
  have p2:¬ (av:Int) ≥ 2147483647:=by omega
  (refine goX (nn g1 (nn hk' (nn a1 (nn hav (nn p1 (nn p2 hal)))))) ?_; (repeat' (with_reducible apply Br.mk<;>intro _)))
  refine ⟨_,_,?_,stleB (by rfl),k + 1,_,by omega,rfl,rfl⟩
  omega
 (refine goX2 (nn g1 (nn k0 (nn k1 (nn l0 (nn l1 (nn dr16 (nn dr17 d1))))))) (hv) (hf) ?_; (repeat' (with_reducible apply Br.mk<;>intro _)))
 exact Fin.p rfl rfl
end Go.Proofs.YtclmdhceceacoaaGreatDoor
/-
 Layers 43 and 44: the law DrawIsAnswered.
 Conditions: of each contract as it says.
-/
namespace Go.Proofs.YtclmdhceceacoaaGreatDoor
open Go Go.E2 CW CH C44
set_option linter.unusedSimpArgs false
set_option maxHeartbeats 16000000
theorem tmodN (a b:Nat):(a:Int).tmod ((b:Int) + 1)=((a % (b + 1):Nat):Int):=by
 rw [Int.tmod_eq_emod_of_nonneg (Int.natCast_nonneg _)]; rfl
theorem lq {P:Program} {g:FuncId} {xs ys:List D} {G:Gh} {v:AV} (hc:CallP P g ys (·=v)) (hl:LendsD G xs ys) (hf:flatA v=true):CallQ P g xs G (·=v):=fun σ=>hc.lend2 hl (fun r e=>by rw [e]; exact hf) σ
theorem askOf_ok (lot:Dg) (k:Nat):(askOf lot k).1=k∧0 < (askOf lot k).2∧(askOf lot k).2 < P:=by
 have h:=Nat.mod_lt (red (undr lot.1 2 k)) (show 2147483646 > 0 by decide)
 have hP:P=2147483647:=rfl
 refine ⟨rfl,?_,?_⟩
 · show 0 < 1 + red (undr lot.1 2 k) % 2147483646; omega
 · show 1 + red (undr lot.1 2 k) % 2147483646 < P; omega
theorem chal_fst (lot:Dg) (n c:Nat):(chal lot n c).map (·.1)=sortN ((ordO lot n).take c):=by
 rw [chal,List.map_map]
 exact (List.map_congr_left fun k _=>rfl).trans (List.map_id _)
theorem chal_nodup (lot:Dg) (n c:Nat):((chal lot n c).map (·.1)).Nodup:=by
 rw [chal_fst]
 exact (List.mergeSort_perm _ _).nodup_iff.2 (List.Nodup.sublist (List.take_sublist _ _) ((ordL_perm _ _).nodup_iff.2 List.nodup_range))
theorem chal_ask (lot:Dg) (n c:Nat):∀ x ∈ chal lot n c,x.1 < n∧0 < x.2∧x.2 < P:=by
 intro x hx
 obtain ⟨k,hk,rfl⟩:=List.mem_map.1 hx
 obtain ⟨h1,h2,h3⟩:=askOf_ok lot k
 exact ⟨by rw [h1]; exact ordO_lt (List.mem_of_mem_take (sortN_mem.1 hk)),h2,h3⟩
theorem chal_le (lot:Dg) (n c:Nat):(chal lot n c).length≤n:=by
 rw [chal,List.length_map,sortN_len,List.length_take,ordO_len]; omega
def eU (n:Nat):D:=.int .u32 (n:Int)
attribute [go_sem] eU
@[go_sem] theorem eU_all (l:List Nat):(l.map eU).all (sizeOk 1)=true:=by rw [List.all_eq_true]; intro x hx; obtain ⟨s,_,rfl⟩:=List.mem_map.1 hx; rfl
def tagL (mix sdP:List Nat) (bl:List (List UInt8)) (k:Nat):List Nat:=(List.range k).map fun i=>tagN mix 2 (bl.getD i []) (sdP.getD i 0)
theorem tagL_succ (mix sdP:List Nat) (bl:List (List UInt8)) (k:Nat):tagL mix sdP bl (k + 1)=tagL mix sdP bl k ++ [tagN mix 2 (bl.getD k []) (sdP.getD k 0)]:=by simp [tagL,List.range_succ]
theorem tagL_len (mix sdP:List Nat) (bl:List (List UInt8)) (k:Nat):(tagL mix sdP bl k).length=k:=by simp [tagL]
theorem tagL_res (mix sdP:List Nat) (bl:List (List UInt8)) (k:Nat):res (tagL mix sdP bl k):=fun x hx=>by
 obtain ⟨i,_,rfl⟩:=List.mem_map.1 hx
 exact Nat.mod_lt _ (by decide)
theorem tagL_get {mix sdP:List Nat} {bl:List (List UInt8)} {k i:Nat} (h:i < k):(tagL mix sdP bl k).getD i 0=tagN mix 2 (bl.getD i []) (sdP.getD i 0):=by
 rw [tagL,List.getD_eq_getElem?_getD,List.getElem?_map,List.getElem?_range h]; rfl
theorem getD_bl {bl:List (List UInt8)} {k:Nat} (h:k < bl.length):bl.getD k []=bl[k]:=by rw [List.getD_eq_getElem?_getD,List.getElem?_eq_getElem h]; rfl
def prd (mix:List Nat) (s s':List UInt8):Nat→Nat
 | 0=>0
 | j + 1=>(prd mix s s' j + mix.getD j 0 * ((sy s' j + P - sy s j) % P)) % P
theorem prd_lt (mix:List Nat) (s s':List UInt8):∀ j,prd mix s s' j < P
 | 0=>(by decide:0 < P)
 | _ + 1=>Nat.mod_lt _ (by decide)
theorem prd_toF (mix:List Nat) (s s':List UInt8):∀ j,toF (prd mix s s' j)=fs (fun i=>toF (mix.getD i 0) * (toF (sy s' i) - toF (sy s i))) j
 | 0=>rfl
 | j + 1=>by
   have h1:=sy_lt s j
   have hP:P=2147483647:=rfl
   rw [prd,toF_mod,toF_add,toF_mul,toF_sub (by omega),prd_toF mix s s' j]; rfl
theorem prd_zero (mix:List Nat) (s s':List UInt8) (j:Nat):prd mix s s' j=0↔fs (fun i=>toF (mix.getD i 0) * (toF (sy s' i) - toF (sy s i))) j=0:=by
 rw [← prd_toF]
 constructor
 · intro h; rw [h]; rfl
 · intro h
   have h2:=congrArg Fin.val h
   rw [toF_val,Nat.mod_eq_of_lt (prd_lt mix s s' j)] at h2
   exact h2
theorem answered_ok (lot:Dg) (bl:List (List UInt8)) (m0 m1:Nat) (sd:List Nat) (at0:Nat) (oth:List UInt8) (ck:Nat) (hm0:m0 < 4294967296) (hm1:m1 < 4294967296) (hsd:∀ x ∈ sd,x < 4294967296) (hat:at0 < 256) (hck:ck < 256) :
 CallP Tryz.prog f_zz1 [eD lot,.agg [.list (bl.map D.str),.int .u32 m0,.int .u32 m1,.list (sd.map eU),.int .u8 at0,.str oth],.int .u8 ck] (·=.d (.bool true)):=by
 refine CallP.of_deep (callT_of_W fol zz1_cp ?_)
 have hP:P=2147483647:=rfl
 have hs:=sanity_ok
 have hm:=mostBytes_eq
 obtain ⟨d1,d2,d3,d4⟩:=dgOk lot.2
 have d5:=lot.2
 rw [eD_mk]
 by_cases c1:(bl.length:Int)=0
 · refine goS (nn d1 (nn d2 (nn d3 d5))) ?_
   (refine goX1 (nn d3 (nn d5 c1)) (hs) ?_; (repeat' (with_reducible apply Br.mk<;>intro _)))
   exact Fin.eq rfl ⟨rfl,_,.refl _,rfl⟩
 by_cases c2:(bl.length:Int) > 20
 · refine goS (nn d1 (nn d2 (nn d3 d5))) ?_
   (refine goX1 (nn d3 (nn d5 (nn c1 c2))) (hs) ?_; (repeat' (with_reducible apply Br.mk<;>intro _)))
   exact Fin.eq rfl ⟨rfl,_,.refl _,rfl⟩
 by_cases c3:(sd.length:Int)=(bl.length:Int)
 case neg =>
  refine goS (nn d1 (nn d2 (nn d3 d5))) ?_
  (refine goX1 (nn d3 (nn d5 (nn c1 (nn c2 c3)))) (hs) ?_; (repeat' (with_reducible apply Br.mk<;>intro _)))
  exact Fin.eq rfl ⟨rfl,_,.refl _,rfl⟩
 by_cases c4:(oth.length:Int) > 6
 · refine goS (nn d1 (nn d2 (nn d3 d5))) ?_
   (refine goX1 (nn d3 (nn d5 (nn c1 (nn c2 (nn c3 c4))))) (hs) ?_; (repeat' (with_reducible apply Br.mk<;>intro _)))
   exact Fin.eq rfl ⟨rfl,_,.refl _,rfl⟩
 have r0:=md m0
 have r1:=md m1
 have l0:m0 % P < P:=Nat.mod_lt _ (by decide)
 have l1:m1 % P < P:=Nat.mod_lt _ (by decide)
 generalize m0 % P=x0 at *
 generalize m1 % P=x1 at *
 refine goS (nn d1 (nn d2 (nn d3 d5))) ?_
 (refine goX (nn d3 (nn d5 (nn c1 (nn c2 (nn c3 (nn c4 (nn r0 r1))))))) ?_; (repeat' (with_reducible apply Br.mk<;>intro _)))
 obtain ⟨sdP,hsdP⟩:∃ l,l=sd.map (· % P):=⟨_,rfl⟩
 have hsl:sdP.length=bl.length:=by rw [hsdP,List.length_map]; omega
 have hsr:res sdP:=fun x hx=>by
  rw [hsdP] at hx
  obtain ⟨y,_,rfl⟩:=List.mem_map.1 hx
  exact Nat.mod_lt _ (by decide)
 obtain ⟨mix,hmix⟩:∃ l,l=[x0,x1]:=⟨_,rfl⟩
 have hml:mix.length=2:=by rw [hmix]; rfl
 have hmr:res mix:=fun x hx=>by
  rw [hmix] at hx
  rcases List.mem_cons.1 hx with rfl|hx
  · exact l0
  · rw [List.mem_singleton.1 hx]; exact l1
 have hkey:KeyOk mix sdP:=⟨by omega,by omega,by omega,hmr,hsr⟩
 have hmd:D.list [D.int IntKind.i64 (x0:Int),D.int IntKind.i64 (x1:Int)]=.list (mix.map eN):=by rw [hmix]; rfl
 obtain ⟨stc,hstc⟩:∃ c,c=[D.list (bl.map D.str),.int .u32 m0,.int .u32 m1,.list (sd.map eU),.int .u8 at0,.str oth]:=⟨_,rfl⟩
 refine W.loop (fun q st=>∃ (k:Nat) (x:D) (G:Gh),k≤bl.length∧q=bl.length - k∧Sep [SlA 1 x ((sdP.take k).map eN)] G ∧
  st=(E [(67,.d (eN k)),(66,.d (eN bl.length)),(65,.d (.list (sd.map eU))),(8,.ptr 0 8 1 0),(7,.d (eN bl.length)),(4,.ptr 0 4 1 0),(3,.ptr 0 3 1 0),(2,.d (.int .u8 ck))],
   HB [(3,⟨1,some (lot.1.map eB)⟩),(4,⟨1,some stc⟩),(8,⟨1,some [.list (mix.map eN),x]⟩)],[],G))
  ⟨_,_,stleB (by rw [hstc,← hmd]),0,.nilS,noGh,by omega,rfl,by rw [List.take_zero]; exact Sep.nil.slNil,rfl⟩ ?_
 rintro q st ⟨k,x,G,hk,rfl,hsp,rfl⟩
 by_cases g1:(k:Int) < (bl.length:Int)
 case pos =>
  have hk':k < sdP.length:=by omega
  have hk2:k < sd.length:=by omega
  have htk:sdP.take (k + 1)=sdP.take k ++ [sdP[k]]:=List.take_succ_eq_append_getElem hk'
  have hve:sdP[k]=sd[k] % P:=by simp [hsdP]
  have hvl:=hsr _ (List.getElem_mem hk')
  have hv0:=hsd _ (List.getElem_mem hk2)
  have hmv:=md sd[k]
  rw [← hve] at hmv
  have hv:=hsp.gv
  generalize hpe:sdP[k]=pv at *
  generalize hse:sd[k]=sv at *
  have hl2:(sdP.take k).length=k:=by rw [List.length_take]; omega
  rcases hv.shape with rfl|⟨b1,n1,c1',rfl⟩
  all_goals
   (refine goX (nn g1 (nn hk2 (nn hse hmv))) ?_; (repeat' (with_reducible apply Br.mk<;>intro _)))
   refine appV_GV2 hv (viewC_list (es:=[eN pv]) rfl) rfl rfl rfl (by rw [List.length_map,hm,hl2]; show (_ + 1) * 8≤_; omega) fun x' G4 hg hto=>?_
   have hs3:=hsp.grow hto (es':=(sdP.take (k + 1)).map eN) (by rw [htk,List.map_append]; exact hg)
   obtain ⟨b8,c8,cs8,hxe,_,_⟩:=hg.inv (by simp)
   generalize (List.map eN (List.take k sdP) ++ [eN pv]).length=n8 at hxe
   subst hxe
   refine goS trivial ?_
   (refine goX trivial ?_; (repeat' (with_reducible apply Br.mk<;>intro _)))
   refine ⟨_,_,?_,stleB (by rfl),k + 1,_,G4,by omega,rfl,hs3,rfl⟩
   omega
 obtain rfl:k=bl.length:=by omega
 rw [List.take_of_length_le (by omega)] at hsp
 obtain ⟨xb,xc,xcs,hxe,hxb,hxr⟩:=hsp.gv.inv (by intro e; rw [List.map_eq_nil_iff] at e; rw [e] at hsl; simp at hsl; omega)
 rw [List.length_map] at hxe
 subst hxe
 (refine goX (nn g1 hstc) ?_; (repeat' (with_reducible apply Br.mk<;>intro _)))
 rw [← hstc]
 clear g1 hxb hxr
 have hlend:=hsp.gv.lendD
 refine W.loop (fun q st=>∃ (k:Nat) (T:List Nat),k≤bl.length∧q=bl.length - k∧T=tagL mix sdP bl k∧(∀ i (h:i < bl.length),i < k→bl[i].length≤6) ∧
  st=(E [(83,.d (eN k)),(82,.d (eN bl.length)),(81,.d (.list (bl.map D.str))),(11,.own 1 (T.map eN)),(8,.ptr 0 8 1 0),(7,.d (eN bl.length)),(4,.ptr 0 4 1 0),(3,.ptr 0 3 1 0),(2,.d (.int .u8 ck))],
   HB [(3,⟨1,some (lot.1.map eB)⟩),(4,⟨1,some stc⟩),(8,⟨1,some [.list (mix.map eN),.gs xb 0 sdP.length xc]⟩)],[],G))
  ⟨_,_,stleB (by rfl),0,[],by omega,rfl,rfl,fun _ _ h=>by omega,rfl⟩ ?_
 rintro q st ⟨k,T,hk,rfl,hT,hbl,rfl⟩
 have hTl:T.length=k:=by rw [hT,tagL_len]
 by_cases g1:(k:Int) < (bl.length:Int)
 case pos =>
  have hk':k < bl.length:=by omega
  have hk2:k < sdP.length:=by omega
  obtain ⟨b,hbe⟩:∃ b,bl[k]=b:=⟨_,rfl⟩
  by_cases g2:(b.length:Int) > 6
  · (refine goX1 (nn g1 (nn hk' (nn hbe (nn g2 hstc)))) (hs) ?_; (repeat' (with_reducible apply Br.mk<;>intro _)))
    exact Fin.eq rfl ⟨rfl,_,.refl _,rfl⟩
  have hmk:=hkey.make b (by omega) k hk2 (by unfold syN; omega)
  have htg:tagN mix mix.length b sdP[k]=tagN mix 2 (bl.getD k []) (sdP.getD k 0):=by rw [hml,getD_bl hk',hbe,getD_get hk2]
  have hTs:=tagL_succ mix sdP bl k
  rw [htg] at hmk
  rw [← hT] at hTs
  have hbl2:∀ i (h:i < bl.length),i < k + 1→bl[i].length≤6:=fun i h hi=>by
   rcases Nat.lt_or_ge i k with e|e
   · exact hbl i h e
   · obtain rfl:i=k:=by omega
     rw [hbe]; omega
  generalize tagN mix 2 (bl.getD k []) (sdP.getD k 0)=tg at hmk hTs
  have hmq:=lq (G:=G) (xs:=[.agg [.list (mix.map eN),.gs xb 0 sdP.length xc],eN k,.str b]) hmk (.cons (LendsD.agg (.cons (.refl _) (.cons hlend .nil))) (.cons (.refl _) (.cons (.refl _) .nil))) rfl
  have hel:T.map eN ++ [eN tg]=(tagL mix sdP bl (k + 1)).map eN:=by rw [hTs,List.map_append]; rfl
  generalize hT2:tagL mix sdP bl (k + 1)=T2 at hel
  (refine goX1 (nn g1 (nn hk' (nn hbe (nn g2 (nn hstc (nn hel hTl)))))) (hmq) ?_; (repeat' (with_reducible apply Br.mk<;>intro _)))
  refine ⟨_,_,?_,stleB (by rw [hstc]),k + 1,T2,by omega,rfl,hT2.symm,hbl2,rfl⟩
  omega
 obtain rfl:k=bl.length:=by omega
 have hbl6:∀ i (h:i < bl.length),bl[i].length≤6:=fun i h=>hbl i h h
 clear hbl
 have hTr:res T:=by rw [hT]; exact tagL_res _ _ _ _
 have t1:=tmodN ck bl.length
 have hcl:ck % (bl.length + 1)≤bl.length:=by have:=Nat.mod_lt ck (show 0 < bl.length + 1 by omega); omega
 have hch:=Challenge_ok lot bl.length (ck % (bl.length + 1)) (by omega) hcl
 have hak:=chal_ask lot bl.length (ck % (bl.length + 1))
 have hnd:=chal_nodup lot bl.length (ck % (bl.length + 1))
 have hal:=chal_le lot bl.length (ck % (bl.length + 1))
 rw [eD_mk] at hch
 generalize chal lot bl.length (ck % (bl.length + 1))=ask at *
 generalize ck % (bl.length + 1)=cn at *
 have hA:AskOk ask bl.length:=fun y hy=>⟨(hak y hy).1,(hak y hy).2.2⟩
 obtain ⟨blk,hblk⟩:∃ f:Nat→List UInt8,f=fun k=>bl.getD k []:=⟨_,rfl⟩
 have hans:=Answer_ok 2 (by decide) bl (by omega) (fun s hs=>by
  obtain ⟨i,hi,rfl⟩:=List.getElem_of_mem hs
  have:=hbl6 i hi
  unfold syN; omega) T hTr hTl ask hA (by omega)
 rw [← hblk] at hans
 have hsu:=ansS_res 2 blk ask
 have hsul:=ansS_len 2 blk ask
 have htgt:asum (fun k=>T.getD k 0) ask % P < P:=Nat.mod_lt _ (by decide)
 have hvf:=hkey.verify ask (by rw [hsl]; exact hA) (by omega) (ansS 2 blk ask) hsu (by rw [hsul,hml]) _ htgt
 have hright:accV mix sdP (ansS 2 blk ask) ask % P=asum (fun k=>T.getD k 0) ask % P:=by
  have h1:=right_ok mix 2 blk (fun k=>sdP.getD k 0) ask
  have h2:accV mix sdP (ansS 2 blk ask) ask=accL mix 2 blk (fun k=>sdP.getD k 0) ask:=by unfold accV accL; rw [hml]
  rw [h2,h1]
  congr 1
  refine asum_congr fun y hy=>?_
  rw [hT,tagL_get (hak y hy).1,hblk]
 rw [if_pos hright] at hvf
 have hvq:=lq (G:=G) (xs:=[.agg [.list (mix.map eN),.gs xb 0 sdP.length xc],.list (ask.map eQ),.agg [.list ((ansS 2 blk ask).map eN),eN (asum (fun k=>T.getD k 0) ask % P)]]) hvf (.cons (LendsD.agg (.cons (.refl _) (.cons hlend .nil))) (.cons (.refl _) (.cons (.refl _) .nil))) rfl
 generalize hS1:ansS 2 blk ask=S1 at *
 generalize htge:asum (fun k=>T.getD k 0) ask % P=tga at *
 (refine goX2 (nn g1 (nn hstc (nn d1 (nn d2 (nn d3 (nn d5 t1)))))) (hch) (hans) ?_; (repeat' (with_reducible apply Br.mk<;>intro _)))
 refine goQ hvq ?_
 have t2:(at0:Int).tmod (bl.length:Int)=((at0 % bl.length:Nat):Int):=by rw [Int.tmod_eq_emod_of_nonneg (Int.natCast_nonneg _)]; rfl
 have hatl:at0 % bl.length < bl.length:=Nat.mod_lt _ (by omega)
 generalize at0 % bl.length=a at *
 (refine goX (nn hstc t2) ?_; (repeat' (with_reducible apply Br.mk<;>intro _)))
 refine wNew_mk fun e0 he0=>?_
 have hse:Sep [SlA 1 (.gs e0 0 0 0) [],SlA 1 (.gs xb 0 sdP.length xc) (sdP.map eN)] (G.set e0 (some [])):=Sep.toSl (Sep.new he0 hsp) (Row.mk' (sz:=1) (n:=0) (cap:=0) (es:=[]) (rest:=[]) rfl rfl (Nat.le_refl _) (by simp))
 have hv0:=hse.gv
 refine goS trivial ?_
 refine appV_GV2 hv0 (viewC_list (es:=bl.map D.str) (strs_all bl)) rfl (strs_all bl) rfl (by rw [hm]; simp only [List.length_nil,List.length_map]; omega) fun x' G4 hg hto=>?_
 rw [List.nil_append] at hg
 have hs3:=hse.grow hto (es':=bl.map D.str) hg
 obtain ⟨b8,c8,cs8,hxe,hb8,hr8⟩:=hg.inv (by intro e; rw [List.map_eq_nil_iff] at e; rw [e] at hatl; simp at hatl)
 rw [List.length_map] at hxe hr8
 subst hxe
 clear hg hto hse hv0 he0
 have hfit8:=hr8.fits (i:=a) (by rw [List.length_map]; exact hatl)
 have hset8:=hr8.set (i:=a) (by rw [List.length_map]; exact hatl) (x:=D.str oth) rfl
 rw [← List.map_set] at hset8
 have hs4:=Sep.slSet hs3 hset8
 obtain ⟨bl',hbl'⟩:∃ l,l=bl.set a oth:=⟨_,rfl⟩
 have hbll:bl'.length=bl.length:=by rw [hbl',List.length_set]
 rw [← hbl',← hbll] at hs4
 have hansG:=AnswerG_ok b8 c8 2 (by decide) bl' (by omega) (fun s hs=>by
  rw [hbl'] at hs
  rcases List.mem_or_eq_of_mem_set hs with h|rfl
  · obtain ⟨i,hi,rfl⟩:=List.getElem_of_mem h
    have:=hbl6 i hi
    unfold syN; omega
  · unfold syN; omega) T hTr (by omega) ask (by rw [hbll]; exact hA) (by omega)
 rw [htge,hbll] at hansG
 rw [hbll] at hs4
 refine goS trivial ?_
 (refine goX (nn hstc (nn hatl (nn hb8 hfit8))) ?_; (repeat' (with_reducible apply Br.mk<;>intro _)))
 refine goM hansG hs4 ?_
 rintro _ _ G5 ⟨y,rfl,rfl⟩ hs5
 have hs5:Sep [SlA 1 y ((ansS 2 (fun k=>bl'.getD k []) ask).map eN),SlA 1 (.gs b8 0 bl.length c8) (bl'.map D.str),SlA 1 (.gs xb 0 sdP.length xc) (sdP.map eN)] G5:=hs5
 have hvy:=hs5.gv
 have hvx:=hs5.tail.tail.gv
 clear hs3 hb8 hfit8 hset8 hr8
 obtain ⟨y1,y2,y3,hye,_,_⟩:=hvy.inv (by intro e; have:=congrArg List.length e; rw [List.length_map,ansS_len] at this; simp at this)
 rw [List.length_map,ansS_len] at hye
 subst hye
 refine goS trivial ?_
 (refine goX hstc ?_; (repeat' (with_reducible apply Br.mk<;>intro _)))
 obtain ⟨blk',hblk'⟩:∃ f:Nat→List UInt8,f=fun k=>bl'.getD k []:=⟨_,rfl⟩
 rw [← hblk'] at hvy
 have hvf2:=hkey.verify ask (by rw [hsl]; exact hA) (by omega) (ansS 2 blk' ask) (ansS_res _ _ _) (by rw [ansS_len,hml]) tga htgt
 have hacc:accV mix sdP (ansS 2 blk' ask) ask=accL mix 2 blk' (fun k=>sdP.getD k 0) ask:=by unfold accV accL; rw [hml]
 have htga:tga=asum (fun k=>tagN mix 2 (blk k) (sdP.getD k 0)) ask % P:=by
  rw [← htge]
  congr 1
  refine asum_congr fun y hy=>?_
  rw [hT,tagL_get (hak y hy).1,hblk]
 have hoth:=other_ok (m:=mix) (w:=2) (blk:=blk) (blk':=blk') (seed:=fun k=>sdP.getD k 0) (ask:=ask) (a:=a) hnd (fun k hk=>by
  rw [hblk',hblk,hbl']
  simp only [List.getD_eq_getElem?_getD]
  rw [List.getElem?_set,if_neg (fun e=>hk e.symm)]) (fun y hy=>(hak y hy).2)
 rw [← htga,← hacc] at hoth
 have hba:blk a=bl[a]:=by rw [hblk]; exact getD_bl hatl
 have hba':blk' a=oth:=by
  rw [hblk',hbl']
  simp only [List.getD_eq_getElem?_getD]
  rw [List.getElem?_set,if_pos rfl,if_pos hatl]; rfl
 rw [hba,hba',← prd_zero] at hoth
 have hvq2:=lq (G:=G5) (xs:=[.agg [.list (mix.map eN),.gs xb 0 sdP.length xc],.list (ask.map eQ),.agg [.gs y1 0 2 y2,eN tga]]) hvf2 (.cons (LendsD.agg (.cons (.refl _) (.cons hvx.lendD .nil))) (.cons (.refl _) (.cons (LendsD.agg (.cons hvy.lendD (.cons (.refl _) .nil))) .nil))) rfl
 have hs6:=hbl6 a hatl
 generalize hae:bl[a]=sa at *
 refine W.loop (fun q st=>∃ (j:Nat) (b26:Blk) (ak:Bool),j≤ask.length∧q=ask.length - j∧ak=decide (a ∈ (ask.take j).map (·.1)) ∧
  st=(E [(163,.d (eN j)),(162,.d (eN ask.length)),(161,.d (.list (ask.map eQ))),(24,.d (.bool ak)),(22,.ptr 0 22 1 0),(20,.d (eN a)),(16,.d (.list (ask.map eQ))),(8,.ptr 0 8 1 0),(4,.ptr 0 4 1 0)],
   HB [(3,⟨1,some (lot.1.map eB)⟩),(4,⟨1,some stc⟩),(8,⟨1,some [.list (mix.map eN),.gs xb 0 sdP.length xc]⟩),(18,⟨1,some [.list (S1.map eN),eN tga]⟩),(22,⟨1,some [.gs y1 0 2 y2,eN tga]⟩),(26,b26)],[],G5))
  ⟨_,_,stleB (by rw [hstc]; exact (HB_pad [(3,_),(4,_),(8,_),(18,_),(22,_)] [26] rfl).symm),0,_,false,by omega,rfl,by simp,rfl⟩ ?_
 rintro q st ⟨j,b26,ak,hj,rfl,hake,rfl⟩
 by_cases g3:(j:Int) < (ask.length:Int)
 case pos =>
  have hj':j < ask.length:=by omega
  obtain ⟨p,hp⟩:∃ p,ask[j]=p:=⟨_,rfl⟩
  have htk:ask.take (j + 1)=ask.take j ++ [p]:=by rw [List.take_succ_eq_append_getElem hj',hp]
  have hak2:decide (a ∈ (ask.take (j + 1)).map (·.1))=(ak || decide (p.1=a)):=by
   have h3:a ∈ (ask.take (j + 1)).map (·.1)↔(a ∈ (ask.take j).map (·.1)∨p.1=a):=by
    rw [htk,List.map_append,List.mem_append,List.map_cons,List.map_nil,List.mem_singleton]; exact or_congr Iff.rfl eq_comm
   rw [decide_eq_decide.2 h3,Bool.decide_or,← hake]
  obtain ⟨px,py⟩:=p
  simp only at hak2
  cases ak with
  | true =>
   (refine goX (nn g3 (nn hj' hp)) ?_; (repeat' (with_reducible apply Br.mk<;>intro _)))
   refine ⟨_,_,?_,stleB (by rfl),j + 1,_,_,by omega,rfl,hak2.symm,rfl⟩
   omega
  | false =>
   by_cases e:px=a
   · rw [decide_eq_true e] at hak2
     have e2:((px:Int)=(a:Int))=True:=eq_true (by omega)
     (refine goX (nn g3 (nn hj' (nn hp e2))) ?_; (repeat' (with_reducible apply Br.mk<;>intro _)))
     refine ⟨_,_,?_,stleB (by rfl),j + 1,_,_,by omega,rfl,hak2.symm,rfl⟩
     omega
   · rw [decide_eq_false e] at hak2
     have e2:¬ (px:Int)=(a:Int):=by omega
     (refine goX (nn g3 (nn hj' (nn hp e2))) ?_; (repeat' (with_reducible apply Br.mk<;>intro _)))
     refine ⟨_,_,?_,stleB (by rfl),j + 1,_,_,by omega,rfl,hak2.symm,rfl⟩
     omega
 obtain rfl:j=ask.length:=by omega
 rw [List.take_length] at hake
 (refine goX (nn g3 hml) ?_; (repeat' (with_reducible apply Br.mk<;>intro _)))
 refine W.loop (fun q st=>∃ (j:Nat) (pr:Nat),j≤2∧q=2 - j∧pr=prd mix sa oth j ∧
  st=(E [(178,.d (eN j)),(177,.d (eN 2)),(176,.d (.list (mix.map eN))),(27,.d (eN pr)),(24,.d (.bool ak)),(22,.ptr 0 22 1 0),(20,.d (eN a)),(16,.d (.list (ask.map eQ))),(8,.ptr 0 8 1 0),(4,.ptr 0 4 1 0)],
   HB [(3,⟨1,some (lot.1.map eB)⟩),(4,⟨1,some stc⟩),(8,⟨1,some [.list (mix.map eN),.gs xb 0 sdP.length xc]⟩),(18,⟨1,some [.list (S1.map eN),eN tga]⟩),(22,⟨1,some [.gs y1 0 2 y2,eN tga]⟩),(26,b26)],[],G5))
  ⟨_,_,stleB (by rfl),0,0,by omega,rfl,rfl,rfl⟩ ?_
 rintro q st ⟨j,pr,hj,rfl,hpr,rfl⟩
 by_cases g4:(j:Int) < ((2:Nat):Int)
 case pos =>
  have hj':j < mix.length:=by omega
  have y1':=symbol_ok oth (by omega) j (by omega)
  have y2':=symbol_ok sa (by omega) j (by omega)
  have v1:=sy_lt oth j
  have v2:=sy_lt sa j
  have hmj:=hmr _ (List.getElem_mem hj')
  have hprl:=prd_lt mix sa oth j
  have hps:prd mix sa oth (j + 1)=(prd mix sa oth j + mix[j] * ((sy oth j + P - sy sa j) % P)) % P:=by rw [prd,getD_get hj']
  rw [← hpr] at hprl hps
  generalize hmje:mix[j]=mj at *
  generalize sy oth j=s1 at *
  generalize sy sa j=s2 at *
  have e1:(s1:Int) - (s2:Int) + 2147483647=((s1 + P - s2:Nat):Int):=by omega
  have e2:=md (s1 + P - s2)
  have hdl:(s1 + P - s2) % P < P:=Nat.mod_lt _ (by decide)
  generalize s1 + P - s2=df at *
  generalize df % P=dp at *
  obtain ⟨e3,e4⟩:=mulP hmj hdl
  generalize mj * dp=mm at *
  have e5:(pr:Int) + (mm:Int)=((pr + mm:Nat):Int):=by omega
  have e6:=md (pr + mm)
  rw [← hps] at e6
  generalize hpr2:prd mix sa oth (j + 1)=pr2 at *
  have hpm:pr + mm < 4611686018427387904:=by omega
  generalize pr + mm=pm at *
  have e7:((2:Nat):Int)=2:=rfl
  rw [e7] at g4
  (refine goX2 (nn g4 (nn hstc (nn hj' (nn hmje (nn hatl (nn hae (nn e1 (nn e2 (nn e3 (nn e5 e6)))))))))) (y1') (y2') ?_; (repeat' (with_reducible apply Br.mk<;>intro _)))
  refine ⟨_,_,?_,stleB (by rw [hstc]),j + 1,_,by omega,rfl,hpr2.symm,rfl⟩
  omega
 obtain rfl:j=2:=by omega
 rw [← hpr] at hoth
 have e7:((2:Nat):Int)=2:=rfl
 rw [e7] at g4
 have hak3:a ∉ ask.map (·.1)↔ak=false:=by
  rw [hake,decide_eq_false_iff_not]
 rw [hak3] at hoth
 have hcs:(accV mix sdP (ansS 2 blk' ask) ask % P=tga∧ak=false)∨(accV mix sdP (ansS 2 blk' ask) ask % P=tga∧ak=true∧pr=0)∨(accV mix sdP (ansS 2 blk' ask) ask % P ≠ tga∧ak=true∧pr ≠ 0):=by
  cases ak with
  | false=>exact .inl ⟨hoth.2 (.inl rfl),rfl⟩
  | true =>
   by_cases e:pr=0
   · exact .inr (.inl ⟨hoth.2 (.inr e),rfl,e⟩)
   · refine .inr (.inr ⟨fun h=>?_,rfl,e⟩)
     rcases hoth.1 h with h|h
     · cases h
     · exact e h
 rcases hcs with ⟨h1,rfl⟩|⟨h1,rfl,rfl⟩|⟨h1,rfl,h2⟩
 · rw [if_pos h1] at hvq2
   (refine goX2 g4 (hs) (hvq2) ?_; (repeat' (with_reducible apply Br.mk<;>intro _)))
   exact Fin.eq rfl ⟨rfl,_,.refl _,rfl⟩
 · rw [if_pos h1] at hvq2
   (refine goX2 g4 (hs) (hvq2) ?_; (repeat' (with_reducible apply Br.mk<;>intro _)))
   exact Fin.eq rfl ⟨rfl,_,.refl _,rfl⟩
 · rw [if_neg h1] at hvq2
   have e8:¬ (pr:Int)=0:=by omega
   (refine goX2 (nn g4 e8) (hs) (hvq2) ?_; (repeat' (with_reducible apply Br.mk<;>intro _)))
   exact Fin.eq rfl ⟨rfl,_,.refl _,rfl⟩
end Go.Proofs.YtclmdhceceacoaaGreatDoor
