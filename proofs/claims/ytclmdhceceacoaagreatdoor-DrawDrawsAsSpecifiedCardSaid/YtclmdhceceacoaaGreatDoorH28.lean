/-
 Layer 44: the examples of the documentation.
 Conditions: of each contract asks it says.
-/
import Derived.Test.YtclmdhceceacoaaGreatDoorH25
import Derived.Test.YtclmdhceceacoaaGreatDoorH20
namespace Go.Proofs.YtclmdhceceacoaaGreatDoor
open Go Go.E2 CW CH C44
set_option linter.unusedSimpArgs false
set_option maxHeartbeats 8000000
theorem Lot_ok (l:List Int) (h1:l.length≤60) (h2:∀ n ∈ l,i64 n):CallP Tryz.prog f_zz37 [.list (l.map eI)] (·=.d (eD (lotOf (0::l)))):=by
 refine callP_of_W fol zz37_cp ?_
 have h2':∀ n ∈ (0:Int)::l,i64 n:=fun n hn=>by
  rcases List.mem_cons.1 hn with rfl|h
  · exact ⟨by decide,by decide⟩
  · exact h2 n h
 have hn:=numbers_ok (0::l) (by simp; omega) h2'
 have ho:=rOf_ok 194 (by decide) ((0::l).map intB) (by simp; omega) (nums_len h2')
 have hlo:CallP Tryz.prog f_zz40 [.int .i64 194,.list (((0::l).map intB).map D.str)] (·=.d (eD (lotOf (0::l)))):=ho
 generalize hd:lotOf (0::l)=d at *
 obtain ⟨d1,d2,d3,d4⟩:=dgOk d.2
 rw [eD_mk] at hlo ⊢
 generalize d.1.map eB=c at *
 generalize ((0::l).map intB).map D.str=ns at hn hlo
 have hm:=mostBytes_eq
 obtain ⟨ls,hls⟩:∃ ls,ls=((0:Int)::l).map eI:=⟨_,rfl⟩
 rw [← hls] at hn
 have hel:[D.int IntKind.i64 0] ++ l.map eI=ls:=hls.symm
 have hel2:D.int IntKind.i64 0::l.map eI=ls:=hls.symm
 obtain ⟨z16,hz16⟩:∃ z,z=zr 16 (D.int .u8 0):=⟨_,rfl⟩
 have z16l:z16.length=16:=by rw [hz16]; rfl
 have z16d:List.drop 16 z16=[]:=by rw [hz16]; rfl
 have z16e:zr 16 (D.int .u8 0)=z16:=hz16.symm
 have hl0:l.length≤60:=h1
 refine goS z16e ?_
 (refine goX2 (nn z16e (nn z16l (nn z16d (nn d1 (nn d3 (nn hel hel2)))))) (hn) (hlo) ?_; (repeat' (with_reducible apply Br.mk<;>intro _)))
 exact Fin.eq (r:=.d (.agg c)) (by simp -dsimp (disch:=first|omega|(simp only [go_sem]; omega)) only [go_sem,seval,Nat.reduceEqDiff,Nat.reduceLeDiff,d1,d2,d3]) ⟨rfl,rfl,rfl⟩
theorem lot_len (l:List Int):(lotOf l).1.length=16:=(lotOf l).2
theorem chal4 (lot:Dg):∃ b0 b1 b2 b3:Nat,chal lot 4 4=[(0,b0),(1,b1),(2,b2),(3,b3)]∧(1≤b0∧b0 < 2147483647)∧(1≤b1∧b1 < 2147483647)∧(1≤b2∧b2 < 2147483647)∧1≤b3∧b3 < 2147483647:=by
 have hs:sortN ((ordO lot 4).take 4)=[0,1,2,3]:=by
  have h1:(ordO lot 4).take 4=ordO lot 4:=List.take_of_length_le (by rw [ordO_len]; exact Nat.le_refl 4)
  rw [h1]
  have hp:(sortN (ordO lot 4)).Perm [0,1,2,3]:=(List.mergeSort_perm _ _).trans (ordL_perm _ _)
  have hso:(sortN (ordO lot 4)).Pairwise (fun x y=>x≤y):=by
   have:=List.pairwise_mergeSort (le:=fun x y:Nat=>decide (x≤y)) (fun a b c h1 h2=>by simp at *; omega) (fun a b=>by simp; omega) (ordO lot 4)
   exact this.imp fun h=>by simpa using h
  have hs2:[0,1,2,3].Pairwise (fun x y:Nat=>x≤y):=by decide
  exact hp.eq_of_pairwise (fun a b _ _ h1 h2=>Nat.le_antisymm h1 h2) hso hs2
 have hb:∀ k,1≤(askOf lot k).2∧(askOf lot k).2 < 2147483647:=fun k=>by
  have:red (undr lot.1 2 k) % 2147483646 < 2147483646:=Nat.mod_lt _ (by decide)
  simp only [askOf]; omega
 exact ⟨_,_,_,_,by rw [chal,hs]; rfl,hb 0,hb 1,hb 2,hb 3⟩
theorem chal4' (lot:Dg):∃ asks:List (Nat × Nat),chal lot 4 4=asks∧asks.length=4∧∀ k (h:k < asks.length),asks[k].1=k∧1≤asks[k].2∧asks[k].2 < 2147483647:=by
 obtain ⟨b0,b1,b2,b3,hch,hb0,hb1,hb2,hb3⟩:=chal4 lot
 refine ⟨_,hch,rfl,fun k h=>?_⟩
 have h4:k < 4:=h
 match k,h,h4 with
 | 0,_,_=>exact ⟨rfl,hb0⟩
 | 1,_,_=>exact ⟨rfl,hb1⟩
 | 2,_,_=>exact ⟨rfl,hb2⟩
 | 3,_,_=>exact ⟨rfl,hb3⟩
theorem sanity_ok:CallP Tryz.prog f_zz15 [] (·=.d (.bool true)):=by
 refine callP_of_W fol zz15_cp ?_
 have hP:P=2147483647:=rfl
 have hdA:=Deal_ok 1 5 1 2 (by decide) (by decide) (by decide) (by decide)
 have hdB:=Deal_ok 2 7 2 3 (by decide) (by decide) (by decide) (by decide)
 rw [shA,mkA] at hdA
 rw [shB,mkB] at hdB
 have r1:=Recover_ok tA [⟨2,5⟩] (by decide)
 have r2:=Recover_ok tA [⟨2,6⟩] (by decide)
 have r3:=Recover_ok tO [⟨2,5⟩] (by decide)
 have r4:=Recover_ok tB [⟨3,sB 3⟩,⟨1,sB 1⟩] (by decide)
 have hdr:=Draw_ok [tA,tB] [[⟨1,5⟩],[⟨1,sB 1⟩,⟨2,sB 2⟩]] (by decide) (by decide) (by decide)
 have hv:=Valid_ok tA
 have hf:=Fits_ok tA ⟨2,5⟩
 rw [sa1] at r1
 rw [sa2] at r2
 rw [sa3] at r3
 rw [sa4] at r4
 rw [saD] at hdr
 rw [sa8] at hv
 rw [sa9] at hf
 have hlot:=Lot_ok [1,5,2,7] (by decide) (by simp only [List.mem_cons,List.not_mem_nil,or_false,forall_eq_or_imp,forall_eq]; exact ⟨⟨by decide,by decide⟩,⟨by decide,by decide⟩,⟨by decide,by decide⟩,⟨by decide,by decide⟩⟩)
 have hc4:=Challenge_ok (lotOf [0,1,5,2,7]) 4 4 (by decide) (by decide)
 have hc5:=Challenge_bad (lotOf [0,1,5,2,7]) 4 5 (.inr (.inr (by decide)))
 obtain ⟨asks,hch,hal,hap⟩:=chal4' (lotOf [0,1,5,2,7])
 rw [hch] at hc4
 clear hch
 have hal':((asks.length:Nat):Int)=4:=by rw [hal]; rfl
 have hcl:=cellsEq_dg (lotOf [0,1,5,2,7]) (lotOf [0,1,5,2,7])
 rw [decide_eq_true rfl] at hcl
 obtain ⟨d1,d2,d3,d4⟩:=dgOk (lot_len [0,1,5,2,7])
 have hlv:eD (lotOf [0,1,5,2,7])=.agg ((lotOf [0,1,5,2,7]).1.map eB):=rfl
 unfold eDr at hdr
 rw [hlv] at hlot hc4 hc5
 generalize (lotOf [0,1,5,2,7]).1.map eB=lc at *
 have hTA:eT tA=.agg [eI 1,eI 1,.list [eD (mk3 1 1 5),eD (mk3 1 2 5)]]:=by unfold eT tA; rw [mkA]; rfl
 have hTB:eT tB=.agg [eI 2,eI 2,.list [eD (mk3 2 1 (sB 1)),eD (mk3 2 2 (sB 2)),eD (mk3 2 3 (sB 3))]]:=by unfold eT tB; rw [mkB]; rfl
 have hTO:eT tO=.agg [eI 1,eI 1,.list [eD oddD,eD (mk3 1 2 5)]]:=rfl
 rw [hTA] at r1 r2 hv hf
 rw [hTB] at r4
 rw [hTO] at r3
 clear hP
 simp only [List.map_cons,List.map_nil,hTA,hTB,eP,eL,show eN 0=eI 0 from rfl,show eN 1=eI 1 from rfl,show eN 2=eI 2 from rfl,show eN 3=eI 3 from rfl,show eN 4=eI 4 from rfl,show eN 5=eI 5 from rfl,show eN 7=eI 7 from rfl,show eN 8=eI 8 from rfl,show eN 23=eI 23 from rfl] at hdA hdB r1 r2 r3 r4 hdr hv hf hlot hc4 hc5
 generalize sB 1=s1 at *
 generalize sB 2=s2 at *
 generalize sB 3=s3 at *
 have m1s:=(mk3 1 1 5).2
 have m2s:=(mk3 1 2 5).2
 have m1t:=dg_take (mk3 1 1 5)
 have m2t:=dg_take (mk3 1 2 5)
 generalize mk3 1 1 5=m1 at *
 generalize mk3 1 2 5=m2 at *
 generalize mk3 2 1 (s1:Int)=n1 at *
 generalize mk3 2 2 (s2:Int)=n2 at *
 generalize mk3 2 3 (s3:Int)=n3 at *
 obtain ⟨z16,hz16⟩:∃ z,z=zr 16 (D.int .u8 0):=⟨_,rfl⟩
 have z16l:z16.length=16:=by rw [hz16]; rfl
 have z16d:List.drop 16 z16=[]:=by rw [hz16]; rfl
 have z16e:zr 16 (D.int .u8 0)=z16:=hz16.symm
 refine goS z16e ?_
 (refine goX2 (nn z16e z16l) (hdA) (hdB) ?_; (repeat' (with_reducible apply Br.mk<;>intro _)))
 have tk18:∀ x y:D,List.take 18 (lc ++ [x,y])=lc ++ [x,y]:=fun x y=>List.take_of_length_le (by rw [List.length_append,d1]; exact Nat.le_refl 18)
 have dr16:∀ x y:D,List.drop 16 (lc ++ [x,y])=[x,y]:=fun x y=>by rw [List.drop_append_of_le_length (by omega),List.drop_of_length_le (by omega)]; rfl
 have dr17:∀ x y:D,List.drop 17 (lc ++ [x,y])=[y]:=fun x y=>by rw [List.drop_append,List.drop_of_length_le (by omega),d1]; rfl
 have dr18:∀ x y:D,List.drop 18 (lc ++ [x,y])=[]:=fun x y=>List.drop_of_length_le (by rw [List.length_append,d1]; exact Nat.le_refl 18)
 have tk16:∀ x y:D,List.take 16 (lc ++ [x,y])=lc:=fun x y=>by rw [List.take_append_of_le_length (by omega),List.take_of_length_le (by omega)]
 have zl:∀ x y:D,(z16 ++ [x,y]).length=18:=fun x y=>by rw [List.length_append,z16l]; rfl
 have ll:∀ x y:D,(lc ++ [x,y]).length=18:=fun x y=>by rw [List.length_append,d1]; rfl
 have la:(lc ++ [D.list [eI 1,eI 2],D.list []]).all D.one=true:=by rw [List.all_append,d3]; rfl
 have zd:∀ x y:D,List.drop 18 (z16 ++ [x,y])=[]:=fun x y=>List.drop_of_length_le (by rw [zl]; exact Nat.le_refl 18)
 have zo:(List.drop 1 z16).all D.one=true:=by rw [hz16]; rfl
 have ze:D.agg (D.int .u8 1::List.drop 1 z16)=eD oddD:=by rw [hz16]; rfl
 have zs:(D.int .u8 1::List.drop 1 z16).length=16:=by rw [hz16]; rfl
 have m2e:D.agg (m2.1.map eB)=eD m2:=rfl
 have i1:vIaddr 16 (some (.list [eD m1,eD m2])) (.d (.int .i64 1))=some (.cptr (m2.1.map eB)):=by
  have:=eD_size m1
  have:=eD_size m2
  simp [vIaddr, *]
  rfl
 have za:z16.all D.one=true:=by rw [hz16]; rfl
 have j0:vIaddr 1 (some (.list [eN s1,eN s2,eN s3])) (.d (.int .i64 0))=some (.cptr [eN s1]):=rfl
 have j1:vIaddr 1 (some (.list [eN s1,eN s2,eN s3])) (.d (.int .i64 1))=some (.cptr [eN s2]):=rfl
 have j2:vIaddr 1 (some (.list [eN s1,eN s2,eN s3])) (.d (.int .i64 2))=some (.cptr [eN s3]):=rfl
 have k0:vIaddr 1 (some (.list [eI 5,eI 5])) (.d (.int .i64 0))=some (.cptr [eI 5]):=rfl
 have k1:vIaddr 1 (some (.list [eI 5,eI 5])) (.d (.int .i64 1))=some (.cptr [eI 5]):=rfl
 have l0:vIaddr 1 (some (.list [eI 1,eI 2])) (.d (.int .i64 0))=some (.cptr [eI 1]):=rfl
 have l1:vIaddr 1 (some (.list [eI 1,eI 2])) (.d (.int .i64 1))=some (.cptr [eI 2]):=rfl
 have z1:(z16 ++ [D.nilS,D.nilS]).all D.one=true:=by rw [hz16]; rfl
 have la':=la
 have hcl1:(lc ++ [D.list [eI 1,eI 2],D.list []]).length=18:=ll _ _
 (repeat' (first|(with_reducible first|refine W.seq ?_|refine W.block ?_|refine W.scope ?_)|((first|(with_reducible first|refine W.reg ?_|refine W.skip ?_|refine W.exit ?_|refine W.ret ?_|refine W.ifc ?_)|(apply wC_P (r1); (focus (simp -dsimp (disch:=first|omega|(simp only [go_sem]; omega)) only [go_sem,seval,Nat.reduceEqDiff,Nat.reduceLeDiff]<;>rfl)); rintro _ rfl)|(apply wC_P (r2); (focus (simp -dsimp (disch:=first|omega|(simp only [go_sem]; omega)) only [go_sem,seval,Nat.reduceEqDiff,Nat.reduceLeDiff]<;>rfl)); rintro _ rfl)|(apply wC_P (r3); (focus (simp -dsimp (disch:=first|omega|(simp only [go_sem]; omega)) only [go_sem,seval,Nat.reduceEqDiff,Nat.reduceLeDiff]<;>rfl)); rintro _ rfl)|(apply wC_P (r4); (focus (simp -dsimp (disch:=first|omega|(simp only [go_sem]; omega)) only [go_sem,seval,Nat.reduceEqDiff,Nat.reduceLeDiff]<;>rfl)); rintro _ rfl)|(apply wC_P (hdr); (focus (simp -dsimp (disch:=first|omega|(simp only [go_sem]; omega)) only [go_sem,seval,Nat.reduceEqDiff,Nat.reduceLeDiff]<;>rfl)); rintro _ rfl)|(apply wC_P (hc4); (focus (simp -dsimp (disch:=first|omega|(simp only [go_sem]; omega)) only [go_sem,seval,Nat.reduceEqDiff,Nat.reduceLeDiff]<;>rfl)); rintro _ rfl)|(apply wC_P (hc5); (focus (simp -dsimp (disch:=first|omega|(simp only [go_sem]; omega)) only [go_sem,seval,Nat.reduceEqDiff,Nat.reduceLeDiff]<;>rfl)); rintro _ rfl)|(apply wC_P (hlot); (focus (simp -dsimp (disch:=first|omega|(simp only [go_sem]; omega)) only [go_sem,seval,Nat.reduceEqDiff,Nat.reduceLeDiff]<;>rfl)); rintro _ rfl)|((with_reducible first|refine wG_decE (fun _ hG=>?_) (fun _ hG=>?_)|refine wG_decFE (fun _ hG=>?_) (fun _ hG=>?_))<;>(try simp -dsimp only [hG,decide_true,decide_false,not_true_eq_false,not_false_eq_true])<;>clear hG))<;>(try simp -dsimp (disch:=first|omega|(simp only [go_sem]; omega)) only [go_sem,seval,Nat.reduceEqDiff,Nat.reduceLeDiff,z16e,z16l,m1s,m2s,m1t,m2t,zo,ze,m2e,i1,za,j0,j1,j2,k0,k1,l0,l1,tk18,dr16,dr17,dr18,tk16,zl,ll,la,zd,z1,d1,d2,d3,hcl,hal,hal']))|simp -dsimp (disch:=first|omega|(simp only [go_sem]; omega)) only [go_sem,seval,Nat.reduceEqDiff,Nat.reduceLeDiff,z16e,z16l,m1s,m2s,m1t,m2t,zo,ze,m2e,i1,za,j0,j1,j2,k0,k1,l0,l1,tk18,dr16,dr17,dr18,tk16,zl,ll,la,zd,z1,d1,d2,d3,hcl,hal,hal']))
 refine W.loop (fun q st=>∃ (k:Nat) (b23:Blk),k≤4∧q=4 - k ∧
  st=(E [(162,.d (eN k)),(161,.d (.int .i64 4)),(160,.d (.list (asks.map eQ))),(1,.d (.list [eI 5,eI 5])),(7,.d (eI 5)),(8,.d (eI 0)),(10,.d (eI 8)),(13,.d (eI 23)),(14,.d (eI 7)),(15,.d (eI 0)),(17,.d (eI 0)),(2,.ptr 0 2 1 0),(16,.ptr 0 16 1 0)],
   HB [(2,⟨1,some [eI 1,eI 1,.list [eD m1,eD m2]]⟩),(5,⟨1,some [eI 2,eI 2,.list [eD n1,eD n2,eD n3]]⟩),(11,⟨1,some [.int .i64 1,.int .i64 1,.list [eD oddD,eD m2]]⟩),(16,⟨1,some (lc ++ [.list [eI 1,eI 2],.list []])⟩),(23,b23)],[],noGh))
  ⟨_,_,stleB (HB_pad [(2,_),(5,_),(11,_),(16,_)] [23] rfl).symm,0,_,by omega,rfl,rfl⟩ ?_
 rintro q st ⟨k,b23,hk,rfl,rfl⟩
 by_cases g1:(k:Int) < 4
 case pos =>
  have hk':k < asks.length:=by omega
  obtain ⟨a1,a2,a3⟩:=hap k hk'
  obtain ⟨av,hav⟩:∃ av,asks[k].2=av:=⟨_,rfl⟩
  rw [hav] at a2 a3
  have p1:¬ (av:Int) < 1:=by omega
  have p2:¬ (av:Int) ≥ 2147483647:=by omega
  (refine goX (nn g1 (nn hk' (nn a1 (nn hav (nn p1 (nn p2 hal)))))) ?_; (repeat' (with_reducible apply Br.mk<;>intro _)))
  refine ⟨_,_,?_,stleB (by rfl),k + 1,_,by omega,rfl,rfl⟩
  omega
 (refine goX2 (nn g1 (nn k0 (nn k1 (nn l0 (nn l1 (nn dr16 (nn dr17 d1))))))) (hv) (hf) ?_; (repeat' (with_reducible apply Br.mk<;>intro _)))
 exact Fin.p rfl rfl
end Go.Proofs.YtclmdhceceacoaaGreatDoor
/-
 Layer 44: whether lists of tickets and pieces are short; whether a list has a number.
 Conditions: of each contract as it says.
-/
namespace Go.Proofs.YtclmdhceceacoaaGreatDoor
open Go Go.E2 CW CH C44
set_option linter.unusedSimpArgs false
set_option maxHeartbeats 4000000
def few (ts:List Tk) (ps:List (List Pc)):Bool:=decide (ts.length≤6∧ps.length≤8∧(∀ t ∈ ts,t.marks.length≤20)∧∀ l ∈ ps,l.length≤20)
theorem Few_ok (ts:List Tk) (ps:List (List Pc)):CallP Tryz.prog f_zz36 [.list (ts.map eT),.list (ps.map eL)] (·=.d (.bool (few ts ps))):=by
 refine callP_of_W fol zz36_cp ?_
 by_cases g1:(ts.length:Int) > 6
 · have hf:few ts ps=false:=decide_eq_false fun h=>by omega
   refine goS trivial ?_
   (refine goX g1 ?_; (repeat' (with_reducible apply Br.mk<;>intro _)))
   rw [hf]
   exact Fin.p rfl rfl
 by_cases g2:(ps.length:Int) > 8
 · have hf:few ts ps=false:=decide_eq_false fun h=>by omega
   refine goS trivial ?_
   (refine goX (nn g1 g2) ?_; (repeat' (with_reducible apply Br.mk<;>intro _)))
   rw [hf]
   exact Fin.p rfl rfl
 refine goS trivial ?_
 (refine goX (nn g1 g2) ?_; (repeat' (with_reducible apply Br.mk<;>intro _)))
 refine W.loop (fun q st=>∃ k:Nat,k≤ts.length∧q=ts.length - k∧(∀ t ∈ ts.take k,t.marks.length≤20) ∧
  st=(E [(5,.d (eN k)),(0,.d (.list (ts.map eT))),(1,.d (.list (ps.map eL)))],HB [],[],noGh))
  ⟨_,_,stleB (by rfl),0,by omega,rfl,by simp,rfl⟩ ?_
 rintro q st ⟨k,hk,rfl,hn,rfl⟩
 by_cases g3:(k:Int) < (ts.length:Int)
 case pos =>
  have hk':k < ts.length:=by omega
  by_cases g4:(ts[k].marks.length:Int) > 20
  · have hf:few ts ps=false:=decide_eq_false fun h=>by
     have:=h.2.2.1 _ (List.getElem_mem hk')
     omega
    (refine goX (nn g3 (nn hk' g4)) ?_; (repeat' (with_reducible apply Br.mk<;>intro _)))
    rw [hf]
    exact Fin.p rfl rfl
  · have hn':∀ t ∈ ts.take (k + 1),t.marks.length≤20:=fun t ht=>by
     rw [List.take_succ_eq_append_getElem hk',List.mem_append,List.mem_singleton] at ht
     rcases ht with h|h
     · exact hn t h
     · rw [h]; omega
    (refine goX (nn g3 (nn hk' g4)) ?_; (repeat' (with_reducible apply Br.mk<;>intro _)))
    refine ⟨_,_,?_,stleB (by rfl),k + 1,by omega,rfl,hn',rfl⟩
    omega
 obtain rfl:k=ts.length:=by omega
 rw [List.take_length] at hn
 (refine goX g3 ?_; (repeat' (with_reducible apply Br.mk<;>intro _)))
 refine W.loop (fun q st=>∃ k:Nat,k≤ps.length∧q=ps.length - k∧(∀ l ∈ ps.take k,l.length≤20) ∧
  st=(E [(6,.d (eN k)),(1,.d (.list (ps.map eL)))],HB [],[],noGh))
  ⟨_,_,stleB (by rfl),0,by omega,rfl,by simp,rfl⟩ ?_
 rintro q st ⟨k,hk,rfl,hm,rfl⟩
 by_cases g4:(k:Int) < (ps.length:Int)
 case pos =>
  have hk':k < ps.length:=by omega
  by_cases g5:(ps[k].length:Int) > 20
  · have hf:few ts ps=false:=decide_eq_false fun h=>by
     have:=h.2.2.2 _ (List.getElem_mem hk')
     omega
    (refine goX (nn g4 (nn hk' g5)) ?_; (repeat' (with_reducible apply Br.mk<;>intro _)))
    rw [hf]
    exact Fin.p rfl rfl
  · have hm':∀ t ∈ ps.take (k + 1),t.length≤20:=fun t ht=>by
     rw [List.take_succ_eq_append_getElem hk',List.mem_append,List.mem_singleton] at ht
     rcases ht with h|h
     · exact hm t h
     · rw [h]; omega
    (refine goX (nn g4 (nn hk' g5)) ?_; (repeat' (with_reducible apply Br.mk<;>intro _)))
    refine ⟨_,_,?_,stleB (by rfl),k + 1,by omega,rfl,hm',rfl⟩
    omega
 obtain rfl:k=ps.length:=by omega
 rw [List.take_length] at hm
 have hf:few ts ps=true:=decide_eq_true ⟨by omega,by omega,hn,hm⟩
 (refine goX g4 ?_; (repeat' (with_reducible apply Br.mk<;>intro _)))
 rw [hf]
 exact Fin.p rfl rfl
end Go.Proofs.YtclmdhceceacoaaGreatDoor
/-
 Layer 44: Draw of the reference.
 Conditions: of each contract as it says.
-/
namespace Go.Proofs.YtclmdhceceacoaaGreatDoor
open Go Go.E2 CW CH C44
set_option linter.unusedSimpArgs false
set_option maxHeartbeats 4000000
def eDr2 (d:Dr):D:=.agg (d.lot.1.map eB ++ [.list (d.inn.map eI),.list (d.ex.map eI),eN d.e])
def dSd (z:List Zp):List Int:=z.flatMap fun x=>if (rc x).2=0 then [x.1.house,((rc x).1:Int)] else []
theorem rDraw_ok (ts:List Tk) (ps:List (List Pc)) (h1:ts.length≤30) (h2:ps.length≤1000) (h3:∀ l ∈ ps,l.length≤100000):CallP Tryz.prog f_zz28 [.list (ts.map eT),.list (ps.map eL)] (·=.d (eDr2 (draw ts ps))):=by
 refine CallP.of_deep (callT_of_W fol zz28_cp ?_)
 have hm:=mostBytes_eq
 obtain ⟨z16,hz16⟩:∃ z,z=zr 16 (D.int .u8 0):=⟨_,rfl⟩
 have z16l:z16.length=16:=by rw [hz16]; rfl
 have z16e:zr 16 (D.int .u8 0)=z16:=hz16.symm
 have zer_dr:∀ (G:Gh) (n:Nat),DRA G.c (.d (.agg (z16 ++ [.nilS,.nilS,eN n]))) (.d (eDr2 ⟨zDg,[],[],n⟩)):=fun G n=>by
  unfold eDr2
  refine .d _ _ ?_
  rw [hz16,zDg_eq]
  have h3:DRs G.c (zDg.1.map eB ++ [.nilS,.nilS,eN n]) (zDg.1.map eB ++ [.list [],.list [],eN n]):=by
   generalize zDg.1.map eB=l
   induction l with
   | nil=>exact .cons .nil (.cons .nil (.cons (.refl _) .nil))
   | cons x l ih=>exact .cons (.refl _) ih
  exact DR.agg _ _ h3.1 h3.2
 have tk19:∀ x y e:D,List.take 19 (z16 ++ [x,y,e])=z16 ++ [x,y,e]:=fun x y e=>List.take_of_length_le (by rw [List.length_append,z16l]; exact Nat.le_refl 19)
 have z1:∀ e:D,(z16 ++ [D.nilS,D.nilS,e]).all D.one=e.one:=fun e=>by rw [hz16,List.all_append]; simp [zr,D.one]
 have z2:∀ x y e:D,(z16 ++ [x,y,e]).all D.one=(x.one && (y.one && e.one)):=fun x y e=>by rw [hz16,List.all_append]; simp [zr,D.one]
 have dr19:∀ x y e:D,List.drop 19 (z16 ++ [x,y,e])=[]:=fun x y e=>List.drop_of_length_le (by rw [List.length_append,z16l]; exact Nat.le_refl 19)
 have tk16:∀ x y e:D,List.take 16 (z16 ++ [x,y,e])=z16:=fun x y e=>by rw [List.take_append_of_le_length (by omega),List.take_of_length_le (by omega)]
 have tk17:∀ x y e:D,List.take 17 (z16 ++ [x,y,e])=z16 ++ [x]:=fun x y e=>by rw [List.take_append,List.take_of_length_le (by omega),z16l]; rfl
 have tk18:∀ x y e:D,List.take 18 (z16 ++ [x,y,e])=z16 ++ [x,y]:=fun x y e=>by rw [List.take_append,List.take_of_length_le (by omega),z16l]; rfl
 have dr17:∀ x y e:D,List.drop 17 (z16 ++ [x,y,e])=[y,e]:=fun x y e=>by rw [List.drop_append,List.drop_of_length_le (by omega),z16l]; rfl
 have dr18:∀ x y e:D,List.drop 18 (z16 ++ [x,y,e])=[e]:=fun x y e=>by rw [List.drop_append,List.drop_of_length_le (by omega),z16l]; rfl
 have dr16:∀ x y e:D,List.drop 16 (z16 ++ [x,y,e])=[x,y,e]:=fun x y e=>by rw [List.drop_append_of_le_length (by omega),List.drop_of_length_le (by omega)]; rfl
 have dr0:∀ x y e:D,List.drop 0 (z16 ++ [x,y,e])=z16 ++ [x,y,e]:=fun x y e=>List.drop_zero
 have zl:∀ x y e:D,(z16 ++ [x,y,e]).length=19:=fun x y e=>by rw [List.length_append,z16l]; rfl
 have ap3:∀ x y e:D,z16 ++ [x,y] ++ [e]=z16 ++ [x,y,e]:=fun x y e=>by simp
 have one0:D.nilS.one=true:=rfl
 by_cases hlen:ts.length=ps.length
 case neg =>
  have hd:draw ts ps=⟨zDg,[],[],1⟩:=by unfold draw; rw [if_pos (.inl hlen)]
  rw [hd]
  have hlen':¬ (ts.length:Int)=(ps.length:Int):=by omega
  refine goS z16e ?_
  (refine goX (nn z16e (nn z16l (nn hlen' (nn z1 (nn tk18 (nn dr19 (nn zl ap3))))))) ?_; (repeat' (with_reducible apply Br.mk<;>intro _)))
  exact Fin.eq (r:=.d (.agg (z16 ++ [.nilS,.nilS,eN 1]))) (by simp -dsimp (disch:=first|omega|(simp only [go_sem]; omega)) only [go_sem,seval,Nat.reduceEqDiff,Nat.reduceLeDiff,z16l,tk19,dr0,dr19,List.append_nil]; try rfl) ⟨rfl,_,zer_dr _ 1,rfl⟩
 have hlen':(ts.length:Int)=(ps.length:Int):=by omega
 refine goS z16e ?_
 (refine goX (nn z16e (nn z16l (nn hlen' (nn z1 (nn tk18 (nn dr19 (nn zl ap3))))))) ?_; (repeat' (with_reducible apply Br.mk<;>intro _)))
 refine W.loop (fun q st=>∃ k:Nat,k≤ts.length∧q=ts.length - k∧(∀ j,j < k→okAt ts j=true) ∧
  st=(E [(5,.d (eN k)),(4,.ptr 0 4 1 0),(0,.d (.list (ts.map eT))),(1,.d (.list (ps.map eL)))],HB [(4,⟨1,some (z16 ++ [.nilS,.nilS,eI 0])⟩)],[],noGh))
  ⟨_,_,stleB (by rfl),0,by omega,rfl,fun _ h=>by omega,rfl⟩ ?_
 rintro q st ⟨k,hk,rfl,hok,rfl⟩
 by_cases g1:(k:Int) < (ts.length:Int)
 case pos =>
  have hk':k < ts.length:=by omega
  have hvl:=rValid_ok ts[k]
  unfold eT at hvl
  have hka:okAt ts k=(ts[k].valid && (k == 0 || match ts[k - 1]? with
   | none=>true
   | some u=>decide (u.house < ts[k].house))):=by unfold okAt; rw [List.getElem?_eq_getElem hk']; rfl
  have hbad:okAt ts k=false→draw ts ps=⟨zDg,[],[],1⟩:=fun h=>by
   have:okT ts=false:=by
    cases e:okT ts with
    | false=>rfl
    | true=>rw [okT_take.1 e k hk'] at h; cases h
   unfold draw; rw [if_pos (.inr this)]
  have hstep:okAt ts k=true→∀ j,j < k + 1→okAt ts j=true:=fun h j hj=>by
   by_cases e:j=k
   · rw [e]; exact h
   · exact hok j (by omega)
  cases hv:ts[k].valid with
  | false =>
   rw [hv] at hvl hka
   rw [hbad hka]
   (refine goX1 (nn g1 (nn hk' (nn z16e (nn z16l (nn z1 (nn tk18 (nn dr19 (nn zl ap3)))))))) (hvl) ?_; (repeat' (with_reducible apply Br.mk<;>intro _)))
   exact Fin.eq (r:=.d (.agg (z16 ++ [.nilS,.nilS,eN 1]))) (by simp -dsimp (disch:=first|omega|(simp only [go_sem]; omega)) only [go_sem,seval,Nat.reduceEqDiff,Nat.reduceLeDiff,z16l,tk19,dr0,dr19,List.append_nil]; try rfl) ⟨rfl,_,zer_dr _ 1,rfl⟩
  | true =>
   rw [hv] at hvl hka
   by_cases g2:(k:Int) > 0
   case neg =>
    have hk0:(k == 0)=true:=by rw [beq_iff_eq]; omega
    rw [hk0] at hka
    have hs:=hstep hka
    (refine goX1 (nn g1 (nn hk' g2)) (hvl) ?_; (repeat' (with_reducible apply Br.mk<;>intro _)))
    refine ⟨_,_,?_,stleB (by rfl),k + 1,by omega,rfl,hs,rfl⟩
    omega
   obtain ⟨j,rfl⟩:∃ j,k=j + 1:=⟨k - 1,by omega⟩
   have hj':j < ts.length:=by omega
   have hek:((j + 1:Nat):Int) - 1=(j:Int):=by omega
   rw [Nat.add_sub_cancel,List.getElem?_eq_getElem hj'] at hka
   have hka2:okAt ts (j + 1)=decide (ts[j].house < ts[j + 1].house):=by rw [hka]; simp
   by_cases g3:ts[j + 1].house≤ts[j].house
   · rw [decide_eq_false (by omega)] at hka2
     rw [hbad hka2]
     (refine goX1 (nn g1 (nn hk' (nn g2 (nn hek (nn hj' (nn g3 (nn z16e (nn z16l (nn z1 (nn tk18 (nn dr19 (nn zl ap3)))))))))))) (hvl) ?_; (repeat' (with_reducible apply Br.mk<;>intro _)))
     exact Fin.eq (r:=.d (.agg (z16 ++ [.nilS,.nilS,eN 1]))) (by simp -dsimp (disch:=first|omega|(simp only [go_sem]; omega)) only [go_sem,seval,Nat.reduceEqDiff,Nat.reduceLeDiff,z16l,tk19,dr0,dr19,List.append_nil]; try rfl) ⟨rfl,_,zer_dr _ 1,rfl⟩
   · rw [decide_eq_true (by omega)] at hka2
     have hs:=hstep hka2
     (refine goX1 (nn g1 (nn hk' (nn g2 (nn hek (nn hj' g3))))) (hvl) ?_; (repeat' (with_reducible apply Br.mk<;>intro _)))
     refine ⟨_,_,?_,stleB (by rfl),j + 1 + 1,by omega,rfl,hs,rfl⟩
     omega
 obtain rfl:k=ts.length:=by omega
 have hokT:okT ts=true:=okT_take.2 hok
 clear hok
 (refine goX (nn g1 (nn z16e (nn z16l (nn z1 (nn tk18 (nn dr19 (nn zl ap3))))))) ?_; (repeat' (with_reducible apply Br.mk<;>intro _)))
 obtain ⟨z,hz⟩:∃ z,z=ts.zip ps:=⟨_,rfl⟩
 have hzl:z.length=ts.length:=by rw [hz,List.length_zip]; omega
 have hzg:∀ k (h:k < z.length) (h':k < ts.length) (h'':k < ps.length),z[k]=(ts[k],ps[k]):=fun k h h' h''=>by subst hz; rw [List.getElem_zip]
 have hvals:∀ k (h':k < ts.length),ts[k].valid=true:=fun k h'=>by
  have:=okT_take.1 hokT k h'
  unfold okAt at this
  rw [List.getElem?_eq_getElem h'] at this
  exact (Bool.and_eq_true _ _ ▸ this).1
 refine W.loop (fun q st=>∃ (k:Nat) (x y:D) (b10:Blk) (nm:List Int) (G:Gh),k≤ts.length∧q=ts.length - k∧(z.take k).any (fun x=>(rc x).2 == 8)=false ∧
  Sep [SlA 1 x ((dIn (z.take k)).map eI),SlA 1 y ((dEx (z.take k)).map eI)] G∧nm=dSd (z.take k)∧nm.length≤2 * k∧(dIn (z.take k)).length≤k∧(dEx (z.take k)).length≤k ∧
  st=(E [(9,.d (eN k)),(8,.ptr 0 8 1 0),(7,.own 1 (nm.map eI)),(4,.ptr 0 4 1 0),(0,.d (.list (ts.map eT))),(1,.d (.list (ps.map eL)))],
   HB [(4,⟨1,some (z16 ++ [.nilS,.nilS,eI 0])⟩),(8,⟨1,some (z16 ++ [x,y,eI 0])⟩),(10,b10)],[],G))
  ⟨_,_,stleB (HB_pad [(4,_),(8,_)] [10] rfl).symm,0,.nilS,.nilS,_,[],noGh,by omega,rfl,rfl,Sep.nil.slNil.slNil,rfl,by simp,by simp [dIn],by simp [dEx],rfl⟩ ?_
 rintro q st ⟨k,x,y,b10,nm,G,hk,rfl,hany,hs,hnm,hnl,hil,hel,rfl⟩
 by_cases g1:(k:Int) < (ts.length:Int)
 case neg =>
  obtain rfl:k=ts.length:=by omega
  rw [← hzl,List.take_length] at hany hs hnm
  have hd:draw ts ps=⟨lotOf (dNm z),dIn z,dEx z,0⟩:=by
   unfold draw
   rw [if_neg (by rw [hokT]; simp [hlen]),← hz,if_neg (by rw [hany]; decide)]
  have hlo:=Lot_ok nm (by omega) (by
   intro n hn
   rw [hnm,dSd,List.mem_flatMap] at hn
   obtain ⟨w,hw,hn⟩:=hn
   obtain ⟨i,hi,rfl⟩:=List.getElem_of_mem hw
   have hlt:=reco_fst_lt (z[i]).1 (z[i]).2
   have hP:P=2147483647:=rfl
   have hv:=hvals i (by omega)
   have hv:=Tk.valid_iff.1 hv
   have e1:(z[i]).1=ts[i]'(by omega):=by rw [hzg i hi (by omega) (by omega)]
   split at hn
   · simp only [List.mem_cons,List.not_mem_nil,or_false] at hn
     rcases hn with rfl|rfl
     · rw [e1]; exact ⟨by omega,by omega⟩
     · exact i64_nat (by unfold rc; omega)
   · cases hn)
  have hnm0:(0:Int)::nm=dNm z:=by rw [hnm]; rfl
  rw [hd,← hnm0]
  have hv:=hs.gv
  have hv2:=hs.tail.gv
  have hdx:=hv.dr
  have hdy:=hv2.dr
  obtain ⟨d1,d2,d3,d4⟩:=dgOk (lotOf (0::nm)).2
  have hlc:eD (lotOf (0::nm))=.agg ((lotOf (0::nm)).1.map eB):=rfl
  rw [hlc] at hlo
  generalize hlce:(lotOf (0::nm)).1.map eB=lc at d1 d2 d3 d4 hlo
  have tkL:∀ x y e:D,List.take 19 (lc ++ [x,y,e])=lc ++ [x,y,e]:=fun x y e=>List.take_of_length_le (by rw [List.length_append,d1]; exact Nat.le_refl 19)
  have drL:∀ x y e:D,List.drop 19 (lc ++ [x,y,e])=[]:=fun x y e=>List.drop_of_length_le (by rw [List.length_append,d1]; exact Nat.le_refl 19)
  have ll:∀ x y e:D,(lc ++ [x,y,e]).length=19:=fun x y e=>by rw [List.length_append,d1]; rfl
  have hx1:x.one=true:=by rcases hv.shape with rfl|⟨b1,n1,c1,rfl⟩<;>rfl
  have hy1:y.one=true:=by rcases hv2.shape with rfl|⟨b1,n1,c1,rfl⟩<;>rfl
  have z3:(lc ++ [x,y,eI 0]).all D.one=true:=by rw [List.all_append,d3]; simp only [List.all_cons,hx1,hy1]; rfl
  (refine goX1 (nn g1 (nn z16e (nn z16l (nn d1 (nn d3 (nn dr16 (nn tkL (nn drL (nn z3 (nn ll (nn zl dr19))))))))))) (hlo) ?_; (repeat' (with_reducible apply Br.mk<;>intro _)))
  refine Fin.eq (r:=.d (.agg (lc ++ [x,y,eI 0]))) (by simp -dsimp (disch:=first|omega|(simp only [go_sem]; omega)) only [go_sem,seval,Nat.reduceEqDiff,Nat.reduceLeDiff,tkL,dr0,dr19,drL,List.append_nil,d1,z16l]; try rfl) ⟨rfl,_,?_,rfl⟩
  unfold eDr2
  refine .d _ _ ?_
  rw [hlce]
  have h3:DRs G.c (lc ++ [x,y,eI 0]) (lc ++ [.list ((dIn z).map eI),.list ((dEx z).map eI),eN 0]):=by
   clear d1 d2 d3 d4 hlo tkL z3 drL hlce ll
   induction lc with
   | nil=>exact .cons hdx (.cons hdy (.cons (.refl _) .nil))
   | cons x l ih=>exact .cons (.refl _) ih
  exact DR.agg _ _ h3.1 h3.2
 have hk1:k < ps.length:=by omega
 have hk2:k < ts.length:=by omega
 have hk3:k < z.length:=by omega
 have hpl:=h3 _ (List.getElem_mem hk1)
 have hrc:=rRecover_ok ts[k] ps[k] hpl
 have hvk:=hvals k hk2
 have hsn:=reco_snd ts[k] ps[k] hvk
 have htk:z.take (k + 1)=z.take k ++ [z[k]]:=List.take_succ_eq_append_getElem hk3
 rw [hzg k hk3 hk2 hk1] at htk
 have hrr:rc (ts[k],ps[k])=reco ts[k] ps[k]:=rfl
 have hin:dIn (z.take (k + 1))=dIn (z.take k) ++ (if (reco ts[k] ps[k]).2=0 then [ts[k].house] else []):=by rw [htk,dIn,List.flatMap_append,List.flatMap_singleton,hrr]; rfl
 have hex:dEx (z.take (k + 1))=dEx (z.take k) ++ (if (reco ts[k] ps[k]).2=23 then [ts[k].house] else []):=by rw [htk,dEx,List.flatMap_append,List.flatMap_singleton,hrr]; rfl
 have hnm1:dSd (z.take (k + 1))=dSd (z.take k) ++ (if (reco ts[k] ps[k]).2=0 then [ts[k].house,((reco ts[k] ps[k]).1:Int)] else []):=by rw [htk,dSd,dSd,List.flatMap_append,List.flatMap_singleton,hrr]
 have han1:(z.take (k + 1)).any (fun x=>(rc x).2 == 8)=((reco ts[k] ps[k]).2 == 8):=by rw [htk,List.any_append,hany]; simp [hrr]
 unfold eT at hrc
 generalize reco ts[k] ps[k]=rr at *
 obtain ⟨sd,er⟩:=rr
 simp only at hsn hin hex hnm1 han1
 have hx1:x.one=true:=by rcases hs.gv.shape with rfl|⟨b1,n1,c1,rfl⟩<;>rfl
 have hy1:y.one=true:=by rcases hs.tail.gv.shape with rfl|⟨b1,n1,c1,rfl⟩<;>rfl
 rcases hsn with rfl|rfl|rfl
 · rw [if_pos rfl] at hin hnm1
   rw [if_neg (by decide),List.append_nil] at hex
   have hv:=hs.gv
   have hnl2:(nm ++ [ts[k].house,(sd:Int)]).length≤2 * (k + 1):=by rw [List.length_append]; simp; omega
   have hnm2:nm ++ [ts[k].house,(sd:Int)]=dSd (z.take (k + 1)):=by rw [hnm1,hnm]
   (refine goX1 (nn g1 (nn hk1 (nn hk2 (nn z16e (nn z16l (nn dr16 (nn z2 (nn hx1 hy1)))))))) (hrc) ?_; (repeat' (with_reducible apply Br.mk<;>intro _)))
   refine appV_GV2 hv (viewC_list (es:=[eI ts[k].house]) rfl) rfl rfl rfl (by rw [List.length_map,hm]; show (_ + 1) * 8≤_; omega) fun x' G4 hg hto=>?_
   have hs3:=hs.grow hto (es':=(dIn (z.take (k + 1))).map eI) (by rw [hin,List.map_append]; exact hg)
   obtain ⟨b8,c8,cs8,hxe,_,_⟩:=hg.inv (by simp)
   generalize (List.map eI (dIn (List.take k z)) ++ [eI ts[k].house]).length=n8 at hxe
   subst hxe
   have hz16:14≤z16.length:=by omega
   refine goS hz16 ?_
   have hnme:nm.map eI ++ [eI ts[k].house] ++ [eN sd]=(nm ++ [ts[k].house,(sd:Int)]).map eI:=by simp
   have hnb:(nm.map eI).length≤60:=by rw [List.length_map]; omega
   generalize nm ++ [ts[k].house,(sd:Int)]=nm' at hnme hnl2 hnm2
   have hil2:(dIn (z.take (k + 1))).length≤k + 1:=by rw [hin,List.length_append]; simp; omega
   (refine goX (nn z16l (nn tk16 (nn dr17 (nn hk2 hnme)))) ?_; (repeat' (with_reducible apply Br.mk<;>intro _)))
   refine ⟨_,_,?_,stleB (by simp only [List.append_assoc,List.cons_append,List.nil_append]; rfl),k + 1,_,y,_,nm',G4,by omega,rfl,han1,by rw [hex]; exact hs3,hnm2,hnl2,hil2,by rw [hex]; omega,rfl⟩
   omega
 · rw [if_pos rfl] at hex
   rw [if_neg (by decide),List.append_nil] at hin hnm1
   have hv2:=hs.tail.gv
   (refine goX1 (nn g1 (nn hk1 (nn hk2 (nn z16e (nn z16l (nn dr17 (nn z2 (nn hx1 hy1)))))))) (hrc) ?_; (repeat' (with_reducible apply Br.mk<;>intro _)))
   refine appV_GV2 hv2 (viewC_list (es:=[eI ts[k].house]) rfl) rfl rfl rfl (by rw [List.length_map,hm]; show (_ + 1) * 8≤_; omega) fun x' G4 hg hto=>?_
   have hs3:=(hs.swap.grow hto (es':=(dEx (z.take (k + 1))).map eI) (by rw [hex,List.map_append]; exact hg)).swap
   obtain ⟨b8,c8,cs8,hxe,_,_⟩:=hg.inv (by simp)
   generalize (List.map eI (dEx (List.take k z)) ++ [eI ts[k].house]).length=n8 at hxe
   subst hxe
   have hz16:13≤z16.length:=by omega
   have hel2:(dEx (z.take (k + 1))).length≤k + 1:=by rw [hex,List.length_append]; simp; omega
   refine goS hz16 ?_
   (refine goX (nn z16l (nn tk17 dr18)) ?_; (repeat' (with_reducible apply Br.mk<;>intro _)))
   refine ⟨_,_,?_,stleB (by simp only [List.append_assoc,List.cons_append,List.nil_append,List.append_nil]; rfl),k + 1,x,_,_,nm,G4,by omega,rfl,han1,by rw [hin]; exact hs3,by rw [hnm1]; exact hnm,by omega,by rw [hin]; omega,hel2,rfl⟩
   omega
 · have hd:draw ts ps=⟨zDg,[],[],8⟩:=by
    unfold draw
    rw [if_neg (by rw [hokT]; simp [hlen]),← hz,if_pos]
    rw [List.any_eq_true]
    have h4:(z.take (k + 1)).any (fun x=>(rc x).2 == 8)=true:=han1
    obtain ⟨w,hw,hw2⟩:=List.any_eq_true.1 h4
    exact ⟨w,List.mem_of_mem_take hw,hw2⟩
   rw [hd]
   (refine goX1 (nn g1 (nn hk1 (nn hk2 (nn z16e (nn z16l (nn z1 (nn tk18 (nn dr19 (nn zl ap3))))))))) (hrc) ?_; (repeat' (with_reducible apply Br.mk<;>intro _)))
   exact Fin.eq (r:=.d (.agg (z16 ++ [.nilS,.nilS,eN 8]))) (by simp -dsimp (disch:=first|omega|(simp only [go_sem]; omega)) only [go_sem,seval,Nat.reduceEqDiff,Nat.reduceLeDiff,z16l,tk19,dr0,dr19,List.append_nil]; try rfl) ⟨rfl,_,zer_dr _ 8,rfl⟩
end Go.Proofs.YtclmdhceceacoaaGreatDoor
/-
 Layer 44: the law DrawDrawsAsSpecified.
 Conditions: of each contract as it says.
-/
namespace Go.Proofs.YtclmdhceceacoaaGreatDoor
open Go Go.E2 CW CH C44
set_option linter.unusedSimpArgs false
set_option maxHeartbeats 8000000
theorem draw_lens (ts:List Tk) (ps:List (List Pc)):(draw ts ps).inn.length≤ts.length∧(draw ts ps).ex.length≤ts.length:=by
 have key:∀ (c:Nat) (z:List Zp),(z.flatMap fun x=>if (rc x).2=c then [x.1.house] else []).length≤z.length:=fun c z=>by
  induction z with
  | nil=>simp
  | cons x z ih =>
   rw [List.flatMap_cons,List.length_append,List.length_cons]
   split
   · rw [List.length_singleton]; omega
   · rw [List.length_nil]; omega
 have hz:(ts.zip ps).length≤ts.length:=by rw [List.length_zip]; omega
 unfold draw
 split
 · simp
 · split
   · simp
   · exact ⟨Nat.le_trans (key 0 _) hz,Nat.le_trans (key 23 _) hz⟩
theorem draws_ok (ts:List Tk) (ps:List (List Pc)):CallP Tryz.prog f_zz1 [.list (ts.map eT),.list (ps.map eL)] (·=.d (.bool true)):=by
 refine callP_of_W fol zz1_cp ?_
 have hs:=sanity_ok
 have hf:=Few_ok ts ps
 cases hfw:few ts ps with
 | false =>
  rw [hfw] at hf
  refine goS trivial ?_
  (refine goX2 trivial (hf) (hs) ?_; (repeat' (with_reducible apply Br.mk<;>intro _)))
  exact Fin.p rfl rfl
 | true =>
 rw [hfw] at hf
 obtain ⟨f1,f2,f3,f4⟩:=of_decide_eq_true hfw
 have hdr:=Draw_ok ts ps (by omega) (by omega) (fun l hl=>by have:=f4 l hl; omega)
 have hrd:=rDraw_ok ts ps (by omega) (by omega) (fun l hl=>by have:=f4 l hl; omega)
 obtain ⟨n1,n2⟩:=draw_lens ts ps
 obtain ⟨z16,hz16⟩:∃ z,z=zr 16 (D.int .u8 0):=⟨_,rfl⟩
 have z16l:z16.length=16:=by rw [hz16]; rfl
 have z16d:List.drop 16 z16=[]:=by rw [hz16]; rfl
 have z16e:zr 16 (D.int .u8 0)=z16:=hz16.symm
 unfold eDr at hdr
 unfold eDr2 at hrd
 generalize draw ts ps=d at *
 obtain ⟨lot,In,Ex,er⟩:=d
 simp only at n1 n2 hdr hrd
 have hsi:=SameList_ok In In (by omega) (by omega)
 have hse:=SameList_ok Ex Ex (by omega) (by omega)
 rw [decide_eq_true rfl] at hsi hse
 obtain ⟨d1,d2,d3,d4⟩:=dgOk lot.2
 have hcl:=cellsEq_dg lot lot
 rw [decide_eq_true rfl] at hcl
 generalize lot.1.map eB=lc at *
 have tk18:∀ x y:D,List.take 18 (lc ++ [x,y])=lc ++ [x,y]:=fun x y=>List.take_of_length_le (by rw [List.length_append,d1]; exact Nat.le_refl 18)
 have tk19:∀ x y e:D,List.take 19 (lc ++ [x,y,e])=lc ++ [x,y,e]:=fun x y e=>List.take_of_length_le (by rw [List.length_append,d1]; exact Nat.le_refl 19)
 have dr16:∀ x y:D,List.drop 16 (lc ++ [x,y])=[x,y]:=fun x y=>by rw [List.drop_append_of_le_length (by omega),List.drop_of_length_le (by omega)]; rfl
 have dr17:∀ x y:D,List.drop 17 (lc ++ [x,y])=[y]:=fun x y=>by rw [List.drop_append,List.drop_of_length_le (by omega),d1]; rfl
 have er16:∀ x y e:D,List.drop 16 (lc ++ [x,y,e])=[x,y,e]:=fun x y e=>by rw [List.drop_append_of_le_length (by omega),List.drop_of_length_le (by omega)]; rfl
 have er17:∀ x y e:D,List.drop 17 (lc ++ [x,y,e])=[y,e]:=fun x y e=>by rw [List.drop_append,List.drop_of_length_le (by omega),d1]; rfl
 have er18:∀ x y e:D,List.drop 18 (lc ++ [x,y,e])=[e]:=fun x y e=>by rw [List.drop_append,List.drop_of_length_le (by omega),d1]; rfl
 have dr18:∀ x y:D,List.drop 18 (lc ++ [x,y])=[]:=fun x y=>List.drop_of_length_le (by rw [List.length_append,d1]; exact Nat.le_refl 18)
 have er19:∀ x y e:D,List.drop 19 (lc ++ [x,y,e])=[]:=fun x y e=>List.drop_of_length_le (by rw [List.length_append,d1]; exact Nat.le_refl 19)
 have tk16:∀ x y:D,List.take 16 (lc ++ [x,y])=lc:=fun x y=>by rw [List.take_append_of_le_length (by omega),List.take_of_length_le (by omega)]
 have ek16:∀ x y e:D,List.take 16 (lc ++ [x,y,e])=lc:=fun x y e=>by rw [List.take_append_of_le_length (by omega),List.take_of_length_le (by omega)]
 have zl:∀ x y:D,(z16 ++ [x,y]).length=18:=fun x y=>by rw [List.length_append,z16l]; rfl
 have zl3:∀ x y e:D,(z16 ++ [x,y,e]).length=19:=fun x y e=>by rw [List.length_append,z16l]; rfl
 have zd:∀ x y:D,List.drop 18 (z16 ++ [x,y])=[]:=fun x y=>List.drop_of_length_le (by rw [zl]; exact Nat.le_refl 18)
 have zd3:∀ x y e:D,List.drop 19 (z16 ++ [x,y,e])=[]:=fun x y e=>List.drop_of_length_le (by rw [zl3]; exact Nat.le_refl 19)
 have ll:∀ x y:D,(lc ++ [x,y]).length=18:=fun x y=>by rw [List.length_append,d1]; rfl
 have ll3:∀ x y e:D,(lc ++ [x,y,e]).length=19:=fun x y e=>by rw [List.length_append,d1]; rfl
 have la:(lc ++ [D.list (In.map eI),D.list (Ex.map eI)]).all D.one=true:=by rw [List.all_append,d3]; rfl
 have la3:(lc ++ [D.list (In.map eI),D.list (Ex.map eI),eN er]).all D.one=true:=by rw [List.all_append,d3]; rfl
 refine goS z16e ?_
 (refine goX4 (nn z16e (nn z16l (nn z16d (nn tk18 (nn tk19 (nn dr16 (nn dr17 (nn dr18 (nn er16 (nn er17 (nn er18 (nn er19 (nn tk16 (nn ek16 (nn zl (nn zl3 (nn zd (nn zd3 (nn ll (nn ll3 (nn la (nn la3 (nn d1 (nn d3 hcl)))))))))))))))))))))))) (hf) (hdr) (hrd) (hs) ?_; (repeat' (with_reducible apply Br.mk<;>intro _)))
 refine goC hsi ?_
 (refine goX1 (nn z16e (nn z16l (nn z16d (nn tk18 (nn tk19 (nn dr16 (nn dr17 (nn dr18 (nn er16 (nn er17 (nn er18 (nn er19 (nn tk16 (nn ek16 (nn zl (nn zl3 (nn zd (nn zd3 (nn ll (nn ll3 (nn la (nn la3 (nn d1 (nn d3 hcl)))))))))))))))))))))))) (hse) ?_; (repeat' (with_reducible apply Br.mk<;>intro _)))
 exact Fin.p rfl rfl
end Go.Proofs.YtclmdhceceacoaaGreatDoor
