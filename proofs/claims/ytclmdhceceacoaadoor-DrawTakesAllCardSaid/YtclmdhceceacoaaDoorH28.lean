/-
 Layer 44: the examples of the documentation.
 Conditions: of each contract asks it says.
-/
import Derived.Test.YtclmdhceceacoaaDoorH25
import Derived.Test.YtclmdhceceacoaaDoorH20
namespace Go.Proofs.YtclmdhceceacoaaDoor
open Go Go.E2 CW CH C44
set_option linter.unusedSimpArgs false
set_option maxHeartbeats 8000000
theorem Lot_ok (l:List Int) (h1:l.length≤60) (h2:∀ n ∈ l,i64 n):CallP Tryd.prog f_zz26 [.list (l.map eI)] (·=.d (eD (lotOf (0::l)))):=by
 refine callP_of_W fol zz26_cp ?_
 have h2':∀ n ∈ (0:Int)::l,i64 n:=fun n hn=>by
  rcases List.mem_cons.1 hn with rfl|h
  · exact ⟨by decide,by decide⟩
  · exact h2 n h
 have hn:=numbers_ok (0::l) (by simp; omega) h2'
 have ho:=rOf_ok 194 (by decide) ((0::l).map intB) (by simp; omega) (nums_len h2')
 have hlo:CallP Tryd.prog f_zz29 [.int .i64 194,.list (((0::l).map intB).map D.str)] (·=.d (eD (lotOf (0::l)))):=ho
 generalize hd:lotOf (0::l)=d at *
 obtain ⟨d1,d2,d3,d4⟩:=dgOk d.2
 rw [eD_mk] at hlo ⊢
 generalize d.1.map eB=c at *
 generalize ((0::l).map intB).map D.str=ns at hn hlo
 have hm:=mostBytes_eq
 obtain ⟨ls,hls⟩:∃ ls,ls=((0:Int)::l).map eI:=⟨_,rfl⟩
 rw [← hls] at hn
 have hel:[D.int IntKind.i64 0] ++ l.map eI=ls:=hls.symm
 have hel2:D.int IntKind.i64 0::l.map eI=ls:=hls.symm
 obtain ⟨z16,hz16⟩:∃ z,z=zr 16 (D.int .u8 0):=⟨_,rfl⟩
 have z16l:z16.length=16:=by rw [hz16]; rfl
 have z16d:List.drop 16 z16=[]:=by rw [hz16]; rfl
 have z16e:zr 16 (D.int .u8 0)=z16:=hz16.symm
 have hl0:l.length≤60:=h1
 refine goS z16e ?_
 (refine goX2 (nn z16e (nn z16l (nn z16d (nn d1 (nn d3 (nn hel hel2)))))) (hn) (hlo) ?_; (repeat' (with_reducible apply Br.mk<;>intro _)))
 exact Fin.eq (r:=.d (.agg c)) (by simp -dsimp (disch:=first|omega|(simp only [go_sem]; omega)) only [go_sem,seval,Nat.reduceEqDiff,Nat.reduceLeDiff,d1,d2,d3]) ⟨rfl,rfl,rfl⟩
theorem lot_len (l:List Int):(lotOf l).1.length=16:=(lotOf l).2
theorem chal4 (lot:Dg):∃ b0 b1 b2 b3:Nat,chal lot 4 4=[(0,b0),(1,b1),(2,b2),(3,b3)]∧(1≤b0∧b0 < 2147483647)∧(1≤b1∧b1 < 2147483647)∧(1≤b2∧b2 < 2147483647)∧1≤b3∧b3 < 2147483647:=by
 have hs:sortN ((ordO lot 4).take 4)=[0,1,2,3]:=by
  have h1:(ordO lot 4).take 4=ordO lot 4:=List.take_of_length_le (by rw [ordO_len]; exact Nat.le_refl 4)
  rw [h1]
  have hp:(sortN (ordO lot 4)).Perm [0,1,2,3]:=(List.mergeSort_perm _ _).trans (ordL_perm _ _)
  have hso:(sortN (ordO lot 4)).Pairwise (fun x y=>x≤y):=by
   have:=List.pairwise_mergeSort (le:=fun x y:Nat=>decide (x≤y)) (fun a b c h1 h2=>by simp at *; omega) (fun a b=>by simp; omega) (ordO lot 4)
   exact this.imp fun h=>by simpa using h
  have hs2:[0,1,2,3].Pairwise (fun x y:Nat=>x≤y):=by decide
  exact hp.eq_of_pairwise (fun a b _ _ h1 h2=>Nat.le_antisymm h1 h2) hso hs2
 have hb:∀ k,1≤(askOf lot k).2∧(askOf lot k).2 < 2147483647:=fun k=>by
  have:red (undr lot.1 2 k) % 2147483646 < 2147483646:=Nat.mod_lt _ (by decide)
  simp only [askOf]; omega
 exact ⟨_,_,_,_,by rw [chal,hs]; rfl,hb 0,hb 1,hb 2,hb 3⟩
theorem chal4' (lot:Dg):∃ asks:List (Nat × Nat),chal lot 4 4=asks∧asks.length=4∧∀ k (h:k < asks.length),asks[k].1=k∧1≤asks[k].2∧asks[k].2 < 2147483647:=by
 obtain ⟨b0,b1,b2,b3,hch,hb0,hb1,hb2,hb3⟩:=chal4 lot
 refine ⟨_,hch,rfl,fun k h=>?_⟩
 have h4:k < 4:=h
 match k,h,h4 with
 | 0,_,_=>exact ⟨rfl,hb0⟩
 | 1,_,_=>exact ⟨rfl,hb1⟩
 | 2,_,_=>exact ⟨rfl,hb2⟩
 | 3,_,_=>exact ⟨rfl,hb3⟩
theorem sanity_ok:CallP Tryd.prog f_zz11 [] (·=.d (.bool true)):=by
 refine callP_of_W fol zz11_cp ?_
 have hP:P=2147483647:=rfl
 have hdA:=Deal_ok 1 5 1 2 (by decide) (by decide) (by decide) (by decide)
 have hdB:=Deal_ok 2 7 2 3 (by decide) (by decide) (by decide) (by decide)
 rw [shA,mkA] at hdA
 rw [shB,mkB] at hdB
 have r1:=Recover_ok tA [⟨2,5⟩] (by decide)
 have r2:=Recover_ok tA [⟨2,6⟩] (by decide)
 have r3:=Recover_ok tO [⟨2,5⟩] (by decide)
 have r4:=Recover_ok tB [⟨3,sB 3⟩,⟨1,sB 1⟩] (by decide)
 have hdr:=Draw_ok [tA,tB] [[⟨1,5⟩],[⟨1,sB 1⟩,⟨2,sB 2⟩]] (by decide) (by decide) (by decide)
 have hv:=Valid_ok tA
 have hf:=Fits_ok tA ⟨2,5⟩
 rw [sa1] at r1
 rw [sa2] at r2
 rw [sa3] at r3
 rw [sa4] at r4
 rw [saD] at hdr
 rw [sa8] at hv
 rw [sa9] at hf
 have hlot:=Lot_ok [1,5,2,7] (by decide) (by simp only [List.mem_cons,List.not_mem_nil,or_false,forall_eq_or_imp,forall_eq]; exact ⟨⟨by decide,by decide⟩,⟨by decide,by decide⟩,⟨by decide,by decide⟩,⟨by decide,by decide⟩⟩)
 have hc4:=Challenge_ok (lotOf [0,1,5,2,7]) 4 4 (by decide) (by decide)
 have hc5:=Challenge_bad (lotOf [0,1,5,2,7]) 4 5 (.inr (.inr (by decide)))
 obtain ⟨asks,hch,hal,hap⟩:=chal4' (lotOf [0,1,5,2,7])
 rw [hch] at hc4
 clear hch
 have hal':((asks.length:Nat):Int)=4:=by rw [hal]; rfl
 have hcl:=cellsEq_dg (lotOf [0,1,5,2,7]) (lotOf [0,1,5,2,7])
 rw [decide_eq_true rfl] at hcl
 obtain ⟨d1,d2,d3,d4⟩:=dgOk (lot_len [0,1,5,2,7])
 have hlv:eD (lotOf [0,1,5,2,7])=.agg ((lotOf [0,1,5,2,7]).1.map eB):=rfl
 unfold eDr at hdr
 rw [hlv] at hlot hc4 hc5
 generalize (lotOf [0,1,5,2,7]).1.map eB=lc at *
 have hTA:eT tA=.agg [eI 1,eI 1,.list [eD (mk3 1 1 5),eD (mk3 1 2 5)]]:=by unfold eT tA; rw [mkA]; rfl
 have hTB:eT tB=.agg [eI 2,eI 2,.list [eD (mk3 2 1 (sB 1)),eD (mk3 2 2 (sB 2)),eD (mk3 2 3 (sB 3))]]:=by unfold eT tB; rw [mkB]; rfl
 have hTO:eT tO=.agg [eI 1,eI 1,.list [eD oddD,eD (mk3 1 2 5)]]:=rfl
 rw [hTA] at r1 r2 hv hf
 rw [hTB] at r4
 rw [hTO] at r3
 clear hP
 simp only [List.map_cons,List.map_nil,hTA,hTB,eP,eL,show eN 0=eI 0 from rfl,show eN 1=eI 1 from rfl,show eN 2=eI 2 from rfl,show eN 3=eI 3 from rfl,show eN 4=eI 4 from rfl,show eN 5=eI 5 from rfl,show eN 7=eI 7 from rfl,show eN 8=eI 8 from rfl,show eN 23=eI 23 from rfl] at hdA hdB r1 r2 r3 r4 hdr hv hf hlot hc4 hc5
 generalize sB 1=s1 at *
 generalize sB 2=s2 at *
 generalize sB 3=s3 at *
 have m1s:=(mk3 1 1 5).2
 have m2s:=(mk3 1 2 5).2
 have m1t:=dg_take (mk3 1 1 5)
 have m2t:=dg_take (mk3 1 2 5)
 generalize mk3 1 1 5=m1 at *
 generalize mk3 1 2 5=m2 at *
 generalize mk3 2 1 (s1:Int)=n1 at *
 generalize mk3 2 2 (s2:Int)=n2 at *
 generalize mk3 2 3 (s3:Int)=n3 at *
 obtain ⟨z16,hz16⟩:∃ z,z=zr 16 (D.int .u8 0):=⟨_,rfl⟩
 have z16l:z16.length=16:=by rw [hz16]; rfl
 have z16d:List.drop 16 z16=[]:=by rw [hz16]; rfl
 have z16e:zr 16 (D.int .u8 0)=z16:=hz16.symm
 refine goS z16e ?_
 (refine goX2 (nn z16e z16l) (hdA) (hdB) ?_; (repeat' (with_reducible apply Br.mk<;>intro _)))
 have tk18:∀ x y:D,List.take 18 (lc ++ [x,y])=lc ++ [x,y]:=fun x y=>List.take_of_length_le (by rw [List.length_append,d1]; exact Nat.le_refl 18)
 have dr16:∀ x y:D,List.drop 16 (lc ++ [x,y])=[x,y]:=fun x y=>by rw [List.drop_append_of_le_length (by omega),List.drop_of_length_le (by omega)]; rfl
 have dr17:∀ x y:D,List.drop 17 (lc ++ [x,y])=[y]:=fun x y=>by rw [List.drop_append,List.drop_of_length_le (by omega),d1]; rfl
 have dr18:∀ x y:D,List.drop 18 (lc ++ [x,y])=[]:=fun x y=>List.drop_of_length_le (by rw [List.length_append,d1]; exact Nat.le_refl 18)
 have tk16:∀ x y:D,List.take 16 (lc ++ [x,y])=lc:=fun x y=>by rw [List.take_append_of_le_length (by omega),List.take_of_length_le (by omega)]
 have zl:∀ x y:D,(z16 ++ [x,y]).length=18:=fun x y=>by rw [List.length_append,z16l]; rfl
 have ll:∀ x y:D,(lc ++ [x,y]).length=18:=fun x y=>by rw [List.length_append,d1]; rfl
 have la:(lc ++ [D.list [eI 1,eI 2],D.list []]).all D.one=true:=by rw [List.all_append,d3]; rfl
 have zd:∀ x y:D,List.drop 18 (z16 ++ [x,y])=[]:=fun x y=>List.drop_of_length_le (by rw [zl]; exact Nat.le_refl 18)
 have zo:(List.drop 1 z16).all D.one=true:=by rw [hz16]; rfl
 have ze:D.agg (D.int .u8 1::List.drop 1 z16)=eD oddD:=by rw [hz16]; rfl
 have zs:(D.int .u8 1::List.drop 1 z16).length=16:=by rw [hz16]; rfl
 have m2e:D.agg (m2.1.map eB)=eD m2:=rfl
 have i1:vIaddr 16 (some (.list [eD m1,eD m2])) (.d (.int .i64 1))=some (.cptr (m2.1.map eB)):=by
  have:=eD_size m1
  have:=eD_size m2
  simp [vIaddr, *]
  rfl
 have za:z16.all D.one=true:=by rw [hz16]; rfl
 have j0:vIaddr 1 (some (.list [eN s1,eN s2,eN s3])) (.d (.int .i64 0))=some (.cptr [eN s1]):=rfl
 have j1:vIaddr 1 (some (.list [eN s1,eN s2,eN s3])) (.d (.int .i64 1))=some (.cptr [eN s2]):=rfl
 have j2:vIaddr 1 (some (.list [eN s1,eN s2,eN s3])) (.d (.int .i64 2))=some (.cptr [eN s3]):=rfl
 have k0:vIaddr 1 (some (.list [eI 5,eI 5])) (.d (.int .i64 0))=some (.cptr [eI 5]):=rfl
 have k1:vIaddr 1 (some (.list [eI 5,eI 5])) (.d (.int .i64 1))=some (.cptr [eI 5]):=rfl
 have l0:vIaddr 1 (some (.list [eI 1,eI 2])) (.d (.int .i64 0))=some (.cptr [eI 1]):=rfl
 have l1:vIaddr 1 (some (.list [eI 1,eI 2])) (.d (.int .i64 1))=some (.cptr [eI 2]):=rfl
 have z1:(z16 ++ [D.nilS,D.nilS]).all D.one=true:=by rw [hz16]; rfl
 have la':=la
 have hcl1:(lc ++ [D.list [eI 1,eI 2],D.list []]).length=18:=ll _ _
 (repeat' (first|(with_reducible first|refine W.seq ?_|refine W.block ?_|refine W.scope ?_)|((first|(with_reducible first|refine W.reg ?_|refine W.skip ?_|refine W.exit ?_|refine W.ret ?_|refine W.ifc ?_)|(apply wC_P (r1); (focus (simp -dsimp (disch:=first|omega|(simp only [go_sem]; omega)) only [go_sem,seval,Nat.reduceEqDiff,Nat.reduceLeDiff]<;>rfl)); rintro _ rfl)|(apply wC_P (r2); (focus (simp -dsimp (disch:=first|omega|(simp only [go_sem]; omega)) only [go_sem,seval,Nat.reduceEqDiff,Nat.reduceLeDiff]<;>rfl)); rintro _ rfl)|(apply wC_P (r3); (focus (simp -dsimp (disch:=first|omega|(simp only [go_sem]; omega)) only [go_sem,seval,Nat.reduceEqDiff,Nat.reduceLeDiff]<;>rfl)); rintro _ rfl)|(apply wC_P (r4); (focus (simp -dsimp (disch:=first|omega|(simp only [go_sem]; omega)) only [go_sem,seval,Nat.reduceEqDiff,Nat.reduceLeDiff]<;>rfl)); rintro _ rfl)|(apply wC_P (hdr); (focus (simp -dsimp (disch:=first|omega|(simp only [go_sem]; omega)) only [go_sem,seval,Nat.reduceEqDiff,Nat.reduceLeDiff]<;>rfl)); rintro _ rfl)|(apply wC_P (hc4); (focus (simp -dsimp (disch:=first|omega|(simp only [go_sem]; omega)) only [go_sem,seval,Nat.reduceEqDiff,Nat.reduceLeDiff]<;>rfl)); rintro _ rfl)|(apply wC_P (hc5); (focus (simp -dsimp (disch:=first|omega|(simp only [go_sem]; omega)) only [go_sem,seval,Nat.reduceEqDiff,Nat.reduceLeDiff]<;>rfl)); rintro _ rfl)|(apply wC_P (hlot); (focus (simp -dsimp (disch:=first|omega|(simp only [go_sem]; omega)) only [go_sem,seval,Nat.reduceEqDiff,Nat.reduceLeDiff]<;>rfl)); rintro _ rfl)|((with_reducible first|refine wG_decE (fun _ hG=>?_) (fun _ hG=>?_)|refine wG_decFE (fun _ hG=>?_) (fun _ hG=>?_))<;>(try simp -dsimp only [hG,decide_true,decide_false,not_true_eq_false,not_false_eq_true])<;>clear hG))<;>(try simp -dsimp (disch:=first|omega|(simp only [go_sem]; omega)) only [go_sem,seval,Nat.reduceEqDiff,Nat.reduceLeDiff,z16e,z16l,m1s,m2s,m1t,m2t,zo,ze,m2e,i1,za,j0,j1,j2,k0,k1,l0,l1,tk18,dr16,dr17,dr18,tk16,zl,ll,la,zd,z1,d1,d2,d3,hcl,hal,hal']))|simp -dsimp (disch:=first|omega|(simp only [go_sem]; omega)) only [go_sem,seval,Nat.reduceEqDiff,Nat.reduceLeDiff,z16e,z16l,m1s,m2s,m1t,m2t,zo,ze,m2e,i1,za,j0,j1,j2,k0,k1,l0,l1,tk18,dr16,dr17,dr18,tk16,zl,ll,la,zd,z1,d1,d2,d3,hcl,hal,hal']))
 refine W.loop (fun q st=>∃ (k:Nat) (b23:Blk),k≤4∧q=4 - k ∧
  st=(E [(162,.d (eN k)),(161,.d (.int .i64 4)),(160,.d (.list (asks.map eQ))),(1,.d (.list [eI 5,eI 5])),(7,.d (eI 5)),(8,.d (eI 0)),(10,.d (eI 8)),(13,.d (eI 23)),(14,.d (eI 7)),(15,.d (eI 0)),(17,.d (eI 0)),(2,.ptr 0 2 1 0),(16,.ptr 0 16 1 0)],
   HB [(2,⟨1,some [eI 1,eI 1,.list [eD m1,eD m2]]⟩),(5,⟨1,some [eI 2,eI 2,.list [eD n1,eD n2,eD n3]]⟩),(11,⟨1,some [.int .i64 1,.int .i64 1,.list [eD oddD,eD m2]]⟩),(16,⟨1,some (lc ++ [.list [eI 1,eI 2],.list []])⟩),(23,b23)],[],noGh))
  ⟨_,_,stleB (HB_pad [(2,_),(5,_),(11,_),(16,_)] [23] rfl).symm,0,_,by omega,rfl,rfl⟩ ?_
 rintro q st ⟨k,b23,hk,rfl,rfl⟩
 by_cases g1:(k:Int) < 4
 case pos =>
  have hk':k < asks.length:=by omega
  obtain ⟨a1,a2,a3⟩:=hap k hk'
  obtain ⟨av,hav⟩:∃ av,asks[k].2=av:=⟨_,rfl⟩
  rw [hav] at a2 a3
  have p1:¬ (av:Int) < 1:=by omega
  have p2:¬ (av:Int) ≥ 2147483647:=by omega
  (refine goX (nn g1 (nn hk' (nn a1 (nn hav (nn p1 (nn p2 hal)))))) ?_; (repeat' (with_reducible apply Br.mk<;>intro _)))
  refine ⟨_,_,?_,stleB (by rfl),k + 1,_,by omega,rfl,rfl⟩
  omega
 (refine goX2 (nn g1 (nn k0 (nn k1 (nn l0 (nn l1 (nn dr16 (nn dr17 d1))))))) (hv) (hf) ?_; (repeat' (with_reducible apply Br.mk<;>intro _)))
 exact Fin.p rfl rfl
end Go.Proofs.YtclmdhceceacoaaDoor
/-
 Layer 44: whether lists of tickets and pieces are short; whether a list has a number.
 Conditions: of each contract as it says.
-/
namespace Go.Proofs.YtclmdhceceacoaaDoor
open Go Go.E2 CW CH C44
set_option linter.unusedSimpArgs false
set_option maxHeartbeats 4000000
theorem has_ok (l:List Int) (n:Int) (hl:l.length≤1000000):CallP Tryd.prog f_zz22 [.list (l.map eI),eI n] (·=.d (.bool (decide (n ∈ l)))):=by
 refine callP_of_W fol zz22_cp ?_
 refine goS trivial ?_
 (refine goX trivial ?_; (repeat' (with_reducible apply Br.mk<;>intro _)))
 refine W.loop (fun q st=>∃ k:Nat,k≤l.length∧q=l.length - k∧n ∉ l.take k ∧
  st=(E [(9,.d (eN k)),(8,.d (eN l.length)),(7,.d (.list (l.map eI))),(1,.d (eI n))],HB [],[],noGh))
  ⟨_,_,stleB (by rfl),0,by omega,rfl,by simp,rfl⟩ ?_
 rintro q st ⟨k,hk,rfl,hn,rfl⟩
 by_cases g1:(k:Int) < (l.length:Int)
 case neg =>
  obtain rfl:k=l.length:=by omega
  rw [List.take_length] at hn
  (refine goX g1 ?_; (repeat' (with_reducible apply Br.mk<;>intro _)))
  rw [decide_eq_false hn]
  exact Fin.p rfl rfl
 have hk':k < l.length:=by omega
 by_cases g2:l[k]=n
 · have hmem:n ∈ l:=by rw [← g2]; exact List.getElem_mem hk'
   (refine goX (nn g1 (nn hk' g2)) ?_; (repeat' (with_reducible apply Br.mk<;>intro _)))
   rw [decide_eq_true hmem]
   exact Fin.p rfl rfl
 · have hn':n ∉ l.take (k + 1):=by
    rw [List.take_succ_eq_append_getElem hk',List.mem_append,List.mem_singleton]
    rintro (h|h)
    · exact hn h
    · exact g2 h.symm
   (refine goX (nn g1 (nn hk' g2)) ?_; (repeat' (with_reducible apply Br.mk<;>intro _)))
   refine ⟨_,_,?_,stleB (by rfl),k + 1,by omega,rfl,hn',rfl⟩
   omega
def few (ts:List Tk) (ps:List (List Pc)):Bool:=decide (ts.length≤6∧ps.length≤8∧(∀ t ∈ ts,t.marks.length≤20)∧∀ l ∈ ps,l.length≤20)
theorem Few_ok (ts:List Tk) (ps:List (List Pc)):CallP Tryd.prog f_zz25 [.list (ts.map eT),.list (ps.map eL)] (·=.d (.bool (few ts ps))):=by
 refine callP_of_W fol zz25_cp ?_
 by_cases g1:(ts.length:Int) > 6
 · have hf:few ts ps=false:=decide_eq_false fun h=>by omega
   refine goS trivial ?_
   (refine goX g1 ?_; (repeat' (with_reducible apply Br.mk<;>intro _)))
   rw [hf]
   exact Fin.p rfl rfl
 by_cases g2:(ps.length:Int) > 8
 · have hf:few ts ps=false:=decide_eq_false fun h=>by omega
   refine goS trivial ?_
   (refine goX (nn g1 g2) ?_; (repeat' (with_reducible apply Br.mk<;>intro _)))
   rw [hf]
   exact Fin.p rfl rfl
 refine goS trivial ?_
 (refine goX (nn g1 g2) ?_; (repeat' (with_reducible apply Br.mk<;>intro _)))
 refine W.loop (fun q st=>∃ k:Nat,k≤ts.length∧q=ts.length - k∧(∀ t ∈ ts.take k,t.marks.length≤20) ∧
  st=(E [(5,.d (eN k)),(0,.d (.list (ts.map eT))),(1,.d (.list (ps.map eL)))],HB [],[],noGh))
  ⟨_,_,stleB (by rfl),0,by omega,rfl,by simp,rfl⟩ ?_
 rintro q st ⟨k,hk,rfl,hn,rfl⟩
 by_cases g3:(k:Int) < (ts.length:Int)
 case pos =>
  have hk':k < ts.length:=by omega
  by_cases g4:(ts[k].marks.length:Int) > 20
  · have hf:few ts ps=false:=decide_eq_false fun h=>by
     have:=h.2.2.1 _ (List.getElem_mem hk')
     omega
    (refine goX (nn g3 (nn hk' g4)) ?_; (repeat' (with_reducible apply Br.mk<;>intro _)))
    rw [hf]
    exact Fin.p rfl rfl
  · have hn':∀ t ∈ ts.take (k + 1),t.marks.length≤20:=fun t ht=>by
     rw [List.take_succ_eq_append_getElem hk',List.mem_append,List.mem_singleton] at ht
     rcases ht with h|h
     · exact hn t h
     · rw [h]; omega
    (refine goX (nn g3 (nn hk' g4)) ?_; (repeat' (with_reducible apply Br.mk<;>intro _)))
    refine ⟨_,_,?_,stleB (by rfl),k + 1,by omega,rfl,hn',rfl⟩
    omega
 obtain rfl:k=ts.length:=by omega
 rw [List.take_length] at hn
 (refine goX g3 ?_; (repeat' (with_reducible apply Br.mk<;>intro _)))
 refine W.loop (fun q st=>∃ k:Nat,k≤ps.length∧q=ps.length - k∧(∀ l ∈ ps.take k,l.length≤20) ∧
  st=(E [(6,.d (eN k)),(1,.d (.list (ps.map eL)))],HB [],[],noGh))
  ⟨_,_,stleB (by rfl),0,by omega,rfl,by simp,rfl⟩ ?_
 rintro q st ⟨k,hk,rfl,hm,rfl⟩
 by_cases g4:(k:Int) < (ps.length:Int)
 case pos =>
  have hk':k < ps.length:=by omega
  by_cases g5:(ps[k].length:Int) > 20
  · have hf:few ts ps=false:=decide_eq_false fun h=>by
     have:=h.2.2.2 _ (List.getElem_mem hk')
     omega
    (refine goX (nn g4 (nn hk' g5)) ?_; (repeat' (with_reducible apply Br.mk<;>intro _)))
    rw [hf]
    exact Fin.p rfl rfl
  · have hm':∀ t ∈ ps.take (k + 1),t.length≤20:=fun t ht=>by
     rw [List.take_succ_eq_append_getElem hk',List.mem_append,List.mem_singleton] at ht
     rcases ht with h|h
     · exact hm t h
     · rw [h]; omega
    (refine goX (nn g4 (nn hk' g5)) ?_; (repeat' (with_reducible apply Br.mk<;>intro _)))
    refine ⟨_,_,?_,stleB (by rfl),k + 1,by omega,rfl,hm',rfl⟩
    omega
 obtain rfl:k=ps.length:=by omega
 rw [List.take_length] at hm
 have hf:few ts ps=true:=decide_eq_true ⟨by omega,by omega,hn,hm⟩
 (refine goX g4 ?_; (repeat' (with_reducible apply Br.mk<;>intro _)))
 rw [hf]
 exact Fin.p rfl rfl
end Go.Proofs.YtclmdhceceacoaaDoor
/-
 Layer 44: the law DrawTakesAll.
 Conditions: of each contract as it says.
-/
namespace Go.Proofs.YtclmdhceceacoaaDoor
open Go Go.E2 CW CH C44
set_option linter.unusedSimpArgs false
set_option maxHeartbeats 8000000
def nc (t:Tk) (q p:Pc):Prop:=¬ (p.at_=q.at_∧fits t p=true∧fits t q=true)
theorem find_rev {t:Tk} {i:Int}:∀ {l:List Pc},l.Pairwise (nc t)→l.reverse.find? (pOk t i)=l.find? (pOk t i)
 | [],_=>rfl
 | x::l,h=>by
   have h1:=List.pairwise_cons.1 h
   rw [List.reverse_cons,List.find?_append,find_rev h1.2]
   by_cases e:pOk t i x=true
   · have hn:l.find? (pOk t i)=none:=by
      rw [List.find?_eq_none]
      intro y hy hp
      unfold pOk at e hp
      rw [Bool.and_eq_true,decide_eq_true_eq] at e hp
      exact h1.1 y hy ⟨hp.1.trans e.1.symm,hp.2,e.2⟩
     rw [hn,List.find?_cons_of_pos e,List.find?_cons_of_pos e]; rfl
   · rw [List.find?_cons_of_neg e,List.find?_cons_of_neg e,List.find?_nil,Option.or_none]
theorem ul_rev {t:Tk} {l:List Pc} (h:l.Pairwise (nc t)):∀ k,ul t l.reverse k=ul t l k
 | 0=>rfl
 | k + 1=>by
   have e:fst1 t l.reverse ((k + 1:Nat):Int)=fst1 t l ((k + 1:Nat):Int):=find_rev h
   rw [ul,ul,ul_rev h k,e]
theorem reco_rev {t:Tk} {l:List Pc} (h:l.Pairwise (nc t)):reco t l.reverse=reco t l:=by
 have hu:us t l.reverse=us t l:=by rw [us,us,ul_rev h]
 unfold reco seedOf uQ
 rw [hu]
abbrev gz (x:Zp):Tk × (Nat × Nat):=(x.1,rc x)
theorem zip_rev {ts:List Tk} {ps:List (List Pc)} (h:∀ k (h1:k < ts.length) (h2:k < ps.length),reco ts[k] ps[k].reverse=reco ts[k] ps[k]) :
 (ts.zip (ps.map List.reverse)).map gz=(ts.zip ps).map gz:=by
 refine List.ext_getElem (by simp) fun k h1 h2=>?_
 simp only [List.length_map,List.length_zip] at h1 h2
 simp only [List.getElem_map,List.getElem_zip]
 show (ts[k],reco ts[k] ps[k].reverse)=(ts[k],reco ts[k] ps[k])
 rw [h k (by omega) (by omega)]
theorem draw_rev {ts:List Tk} {ps:List (List Pc)} (h:∀ k (h1:k < ts.length) (h2:k < ps.length),reco ts[k] ps[k].reverse=reco ts[k] ps[k]) :
 draw ts (ps.map List.reverse)=draw ts ps:=by
 have hz:=zip_rev h
 have e1:∀ z:List Zp,dIn z=(z.map gz).flatMap fun x=>if x.2.2=0 then [x.1.house] else []:=fun z=>by rw [List.flatMap_map]; rfl
 have e2:∀ z:List Zp,dEx z=(z.map gz).flatMap fun x=>if x.2.2=23 then [x.1.house] else []:=fun z=>by rw [List.flatMap_map]; rfl
 have e3:∀ z:List Zp,dNm z=0::(z.map gz).flatMap fun x=>if x.2.2=0 then [x.1.house,(x.2.1:Int)] else []:=fun z=>by rw [List.flatMap_map]; rfl
 have e4:∀ z:List Zp,z.any (fun x=>(rc x).2 == 8)=(z.map gz).any fun x=>x.2.2 == 8:=fun z=>by rw [List.any_map]; rfl
 unfold draw
 rw [e1,e2,e3,e4,e1,e2,e3,e4,hz,List.length_map]
structure DrOk (ts:List Tk) (ps:List (List Pc)):Prop where
 len:ts.length=ps.length
 num:(dIn (ts.zip ps)).length + (dEx (ts.zip ps)).length=ts.length
 inn:∀ k (h1:k < ts.length) (h2:k < ps.length),ts[k].house ∈ dIn (ts.zip ps)↔(reco ts[k] ps[k]).2=0
 exc:∀ k (h1:k < ts.length) (h2:k < ps.length),ts[k].house ∈ dEx (ts.zip ps)↔(reco ts[k] ps[k]).2=23
 res:draw ts ps=⟨lotOf (dNm (ts.zip ps)),dIn (ts.zip ps),dEx (ts.zip ps),0⟩
theorem house_up {ts:List Tk} (h:okT ts=true):∀ i j (h1:i < j) (h2:j < ts.length),(ts[i]'(by omega)).house < ts[j].house:=by
 intro i j h1
 induction j with
 | zero=>omega
 | succ j ih =>
  intro h2
  have:=okT_take.1 h (j + 1) h2
  unfold okAt at this
  rw [List.getElem?_eq_getElem h2,Nat.add_sub_cancel,List.getElem?_eq_getElem (by omega:j < ts.length)] at this
  simp at this
  by_cases e:i=j
  · subst e; exact this.2
  · exact Int.lt_trans (ih (by omega) (by omega)) this.2
theorem drOk {ts:List Tk} {ps:List (List Pc)} (h:(draw ts ps).e=0):DrOk ts ps:=by
 have h0:¬ (ts.length ≠ ps.length∨okT ts=false):=fun e=>by rw [draw,if_pos e] at h; cases h
 have h1:¬ (ts.zip ps).any (fun x=>(rc x).2 == 8)=true:=fun e=>by rw [draw,if_neg h0,if_pos e] at h; cases h
 have hl:ts.length=ps.length:=Decidable.byContradiction fun e=>h0 (.inl e)
 have hok:okT ts=true:=by
  cases e:okT ts with
  | true=>rfl
  | false=>exact absurd (.inr e) h0
 have hzl:(ts.zip ps).length=ts.length:=by rw [List.length_zip]; omega
 have hz:∀ k (h1:k < ts.length) (h2:k < ps.length) (h3:k < (ts.zip ps).length),(ts.zip ps)[k]=(ts[k],ps[k]):=fun k _ _ _=>List.getElem_zip
 have hval:∀ k (h':k < ts.length),ts[k].valid=true:=fun k h'=>by
  have:=okT_take.1 hok k h'
  unfold okAt at this
  rw [List.getElem?_eq_getElem h'] at this
  exact (Bool.and_eq_true _ _ ▸ this).1
 have h8:∀ x ∈ ts.zip ps,(rc x).2=0∨(rc x).2=23:=fun x hx=>by
  obtain ⟨k,hk,rfl⟩:=List.getElem_of_mem hx
  have hk1:k < ts.length:=by omega
  have hk2:k < ps.length:=by omega
  rw [hz k hk1 hk2 hk]
  rcases reco_snd ts[k] ps[k] (hval k hk1) with e|e|e
  · exact .inl e
  · exact .inr e
  · refine absurd ?_ h1
    rw [List.any_eq_true]
    refine ⟨_,hx,?_⟩
    rw [hz k hk1 hk2 hk]
    exact beq_iff_eq.2 e
 have hnum:∀ z:List Zp,(∀ x ∈ z,(rc x).2=0∨(rc x).2=23)→(dIn z).length + (dEx z).length=z.length:=by
  intro z
  induction z with
  | nil=>intro _; rfl
  | cons x z ih =>
   intro hx
   have:=ih fun y hy=>hx y (List.mem_cons_of_mem _ hy)
   have h0:=hx x List.mem_cons_self
   unfold dIn dEx at *
   rw [List.flatMap_cons,List.flatMap_cons,List.length_append,List.length_append,List.length_cons]
   rcases h0 with e|e
   · rw [e,if_pos rfl,if_neg (by decide),List.length_singleton,List.length_nil]; omega
   · rw [e,if_neg (by decide),if_pos rfl,List.length_singleton,List.length_nil]; omega
 have hm:∀ (c:Nat) k (h1:k < ts.length) (h2:k < ps.length),ts[k].house ∈ (ts.zip ps).flatMap (fun x=>if (rc x).2=c then [x.1.house] else [])↔(reco ts[k] ps[k]).2=c:=fun c k h1 h2=>by
  have h3:k < (ts.zip ps).length:=by omega
  rw [List.mem_flatMap]
  constructor
  · rintro ⟨x,hx,hh⟩
    obtain ⟨j,hj,rfl⟩:=List.getElem_of_mem hx
    rw [hz j (by omega) (by omega) hj] at hh
    split at hh
    · next e =>
      rw [List.mem_singleton] at hh
      have:j=k:=by
       rcases Nat.lt_trichotomy j k with e1|e1|e1
       · have:=house_up hok j k e1 h1; simp only at hh; omega
       · exact e1
       · have:=house_up hok k j e1 (by omega); simp only at hh; omega
      subst this
      exact e
    · cases hh
  · intro e
    refine ⟨_,List.getElem_mem h3,?_⟩
    rw [hz k h1 h2 h3]
    have e':(rc (ts[k],ps[k])).2=c:=e
    rw [if_pos e']
    exact List.mem_singleton.2 rfl
 exact ⟨hl,by rw [hnum _ h8,hzl],hm 0,hm 23,by rw [draw,if_neg h0,if_neg h1]⟩
theorem takes_ok (hs:CallP Tryd.prog f_zz11 [] (·=.d (.bool true))) (ts:List Tk) (ps:List (List Pc)):CallP Tryd.prog f_zz1 [.list (ts.map eT),.list (ps.map eL)] (·=.d (.bool true)):=by
 refine callP_of_W fol zz1_cp ?_
 have hf:=Few_ok ts ps
 cases hfw:few ts ps with
 | false =>
  rw [hfw] at hf
  refine goS trivial ?_
  (refine goX2 trivial (hf) (hs) ?_; (repeat' (with_reducible apply Br.mk<;>intro _)))
  exact Fin.p rfl rfl
 | true =>
 rw [hfw] at hf
 obtain ⟨f1,f2,f3,f4⟩:=of_decide_eq_true hfw
 have hdr:=Draw_ok ts ps (by omega) (by omega) (fun l hl=>by have:=f4 l hl; omega)
 obtain ⟨z16,hz16⟩:∃ z,z=zr 16 (D.int .u8 0):=⟨_,rfl⟩
 have z16l:z16.length=16:=by rw [hz16]; rfl
 have z16d:List.drop 16 z16=[]:=by rw [hz16]; rfl
 have z16e:zr 16 (D.int .u8 0)=z16:=hz16.symm
 by_cases he:(draw ts ps).e=0
 case neg =>
  have hd:draw ts ps=⟨zDg,[],[],(draw ts ps).e⟩:=by
   unfold draw at he ⊢
   split
   · rfl
   · split
     · rfl
     · rename_i h1 h2
       rw [if_neg h1,if_neg h2] at he
       exact absurd rfl he
  generalize (draw ts ps).e=ee at *
  rw [hd] at hdr
  unfold eDr at hdr
  have he':¬ ((ee:Nat):Int)=0:=by omega
  obtain ⟨d1,d2,d3,d4⟩:=dgOk zDg.2
  have hcl:=cellsEq_dg zDg zDg
  rw [decide_eq_true rfl] at hcl
  simp only [List.map_nil] at hdr
  have hzz:zDg.1.map eB=z16:=by rw [hz16]; rfl
  rw [hzz] at hdr hcl d1 d2 d3 d4
  have tk18:∀ x y:D,List.take 18 (z16 ++ [x,y])=z16 ++ [x,y]:=fun x y=>List.take_of_length_le (by rw [List.length_append,z16l]; exact Nat.le_refl 18)
  have dr16:∀ x y:D,List.drop 16 (z16 ++ [x,y])=[x,y]:=fun x y=>by rw [List.drop_append_of_le_length (by omega),List.drop_of_length_le (by omega)]; rfl
  have dr17:∀ x y:D,List.drop 17 (z16 ++ [x,y])=[y]:=fun x y=>by rw [List.drop_append,List.drop_of_length_le (by omega),z16l]; rfl
  have dr18:∀ x y:D,List.drop 18 (z16 ++ [x,y])=[]:=fun x y=>List.drop_of_length_le (by rw [List.length_append,z16l]; exact Nat.le_refl 18)
  have tk16:∀ x y:D,List.take 16 (z16 ++ [x,y])=z16:=fun x y=>by rw [List.take_append_of_le_length (by omega),List.take_of_length_le (by omega)]
  have zl:∀ x y:D,(z16 ++ [x,y]).length=18:=fun x y=>by rw [List.length_append,z16l]; rfl
  have la:(z16 ++ [D.list [],D.list []]).all D.one=true:=by rw [List.all_append,d3]; rfl
  refine goS z16e ?_
  (refine goX3 (nn z16e (nn z16l (nn z16d (nn he' (nn tk18 (nn dr16 (nn dr17 (nn dr18 (nn tk16 (nn zl (nn la (nn hcl (nn d1 d3))))))))))))) (hf) (hdr) (hs) ?_; (repeat' (with_reducible apply Br.mk<;>intro _)))
  exact Fin.p rfl rfl
 obtain ⟨hl,hnum,hin,hex,hd⟩:=drOk he
 rw [hd] at hdr
 unfold eDr at hdr
 have hin1:(dIn (ts.zip ps)).length≤6:=by omega
 have hex1:(dEx (ts.zip ps)).length≤6:=by omega
 obtain ⟨lot,hlot⟩:∃ d:Dg,d=lotOf (dNm (ts.zip ps)):=⟨_,rfl⟩
 rw [← hlot] at hdr hd
 generalize dIn (ts.zip ps)=In at *
 generalize dEx (ts.zip ps)=Ex at *
 obtain ⟨d1,d2,d3,d4⟩:=dgOk lot.2
 have hcl:=cellsEq_dg lot lot
 rw [decide_eq_true rfl] at hcl
 have hin2:=has_ok In
 have hex2:=has_ok Ex
 have hsi:=SameList_ok In In (by omega) (by omega)
 have hse:=SameList_ok Ex Ex (by omega) (by omega)
 rw [decide_eq_true rfl] at hsi hse
 have hdr2:(∀ k (h1:k < ts.length) (h2:k < ps.length),reco ts[k] ps[k].reverse=reco ts[k] ps[k]) →
  CallP Tryd.prog f_zz48 [.list (ts.map eT),.list ((ps.map List.reverse).map eL)] (·=.tup [.agg (lot.1.map eB ++ [.list (In.map eI),.list (Ex.map eI)]),eN 0]):=fun h=>by
  have:=Draw_ok ts (ps.map List.reverse) (by omega) (by rw [List.length_map]; omega) (fun l hl=>by
   obtain ⟨m,hm,rfl⟩:=List.mem_map.1 hl
   have:=f4 m hm
   rw [List.length_reverse]; omega)
  rw [draw_rev h,hd] at this
  exact this
 generalize hlc:lot.1.map eB=lc at *
 have tk18:∀ x y:D,List.take 18 (lc ++ [x,y])=lc ++ [x,y]:=fun x y=>List.take_of_length_le (by rw [List.length_append,d1]; exact Nat.le_refl 18)
 have dr16:∀ x y:D,List.drop 16 (lc ++ [x,y])=[x,y]:=fun x y=>by rw [List.drop_append_of_le_length (by omega),List.drop_of_length_le (by omega)]; rfl
 have dr17:∀ x y:D,List.drop 17 (lc ++ [x,y])=[y]:=fun x y=>by rw [List.drop_append,List.drop_of_length_le (by omega),d1]; rfl
 have dr18:∀ x y:D,List.drop 18 (lc ++ [x,y])=[]:=fun x y=>List.drop_of_length_le (by rw [List.length_append,d1]; exact Nat.le_refl 18)
 have tk16:∀ x y:D,List.take 16 (lc ++ [x,y])=lc:=fun x y=>by rw [List.take_append_of_le_length (by omega),List.take_of_length_le (by omega)]
 have zl:∀ x y:D,(z16 ++ [x,y]).length=18:=fun x y=>by rw [List.length_append,z16l]; rfl
 have ll:∀ x y:D,(lc ++ [x,y]).length=18:=fun x y=>by rw [List.length_append,d1]; rfl
 have la:(lc ++ [D.list (In.map eI),D.list (Ex.map eI)]).all D.one=true:=by rw [List.all_append,d3]; rfl
 have zd:∀ x y:D,List.drop 18 (z16 ++ [x,y])=[]:=fun x y=>List.drop_of_length_le (by rw [zl]; exact Nat.le_refl 18)
 have hi1:((In.length:Nat):Int) + (Ex.length:Int)=(ts.length:Int):=by omega
 have hi2:((ps.length:Nat):Int)=(ts.length:Int):=by omega
 refine goS z16e ?_
 (refine goX2 (nn z16e (nn z16l (nn z16d (nn tk18 (nn dr16 (nn dr17 (nn dr18 (nn tk16 (nn zl (nn ll (nn la (nn zd (nn d1 (nn d3 (nn hi1 hi2))))))))))))))) (hf) (hdr) ?_; (repeat' (with_reducible apply Br.mk<;>intro _)))
 refine W.loop (fun q st=>∃ (k:Nat) (b10 b15 b17:Blk),k≤ts.length∧q=ts.length - k∧(∀ i (h1:i < ts.length) (h2:i < ps.length),i < k→reco ts[i] ps[i].reverse=reco ts[i] ps[i]) ∧
  st=(E [(72,.d (eN k)),(71,.d (eN ts.length)),(70,.d (.list (ts.map eT))),(8,.own 1 (((ps.take k).map List.reverse).map eL)),(6,.ptr 0 6 1 0),(0,.d (.list (ts.map eT))),(1,.d (.list (ps.map eL)))],
   HB [(6,⟨1,some (lc ++ [.list (In.map eI),.list (Ex.map eI)])⟩),(10,b10),(15,b15),(17,b17)],[],noGh))
  ⟨_,_,stleB (HB_pad [(6,_)] [10,15,17] rfl).symm,0,_,_,_,by omega,rfl,fun _ _ _ h=>by omega,rfl⟩ ?_
 rintro q st ⟨k,b10,b15,b17,hk,rfl,hok,rfl⟩
 by_cases g1:(k:Int) < (ts.length:Int)
 case neg =>
  obtain rfl:k=ts.length:=by omega
  have hdr3:=hdr2 fun i h1 h2=>hok i h1 h2 h1
  rw [List.take_of_length_le (by omega)]
  (refine goX4 (nn g1 (nn z16e (nn z16l (nn z16d (nn tk18 (nn dr16 (nn dr17 (nn dr18 (nn tk16 (nn zl (nn ll (nn la (nn zd (nn d1 (nn d3 hcl))))))))))))))) (hdr3) (hs) (hsi) (hse) ?_; (repeat' (with_reducible apply Br.mk<;>intro _)))
  exact Fin.p rfl rfl
 have hk1:k < ts.length:=by omega
 have hk2:k < ps.length:=by omega
 have hpl:=f4 _ (List.getElem_mem hk2)
 have hr:=Recover_ok ts[k] ps[k] (by omega)
 have hi3:=hin2 ts[k].house (by omega)
 have he3:=hex2 ts[k].house (by omega)
 have ein:decide (ts[k].house ∈ In)=decide ((reco ts[k] ps[k]).2=0):=decide_eq_decide.2 (hin k hk1 hk2)
 have eex:decide (ts[k].house ∈ Ex)=decide ((reco ts[k] ps[k]).2=23):=decide_eq_decide.2 (hex k hk1 hk2)
 rw [ein] at hi3
 rw [eex] at he3
 clear ein eex
 have hok2:(reco ts[k] ps[k].reverse=reco ts[k] ps[k])→∀ i (h1:i < ts.length) (h2:i < ps.length),i < k + 1→reco ts[i] ps[i].reverse=reco ts[i] ps[i]:=fun h i h1 h2 hi=>by
  rcases Nat.lt_or_ge i k with e|e
  · exact hok i h1 h2 e
  · obtain rfl:i=k:=by omega
    exact h
 have htk:((ps.take (k + 1)).map List.reverse).map eL=((ps.take k).map List.reverse).map eL ++ [.list (ps[k].reverse.map eP)]:=by
  rw [List.take_succ_eq_append_getElem hk2,List.map_append,List.map_append]; rfl
 have hrv:ps[k].Pairwise (nc ts[k])→reco ts[k] ps[k].reverse=reco ts[k] ps[k]:=reco_rev
 have hts:(ts.map eT)[k]?=some (eT ts[k]):=by rw [List.getElem?_map,List.getElem?_eq_getElem hk1]; rfl
 have hfi:=Fits_ok ts[k]
 generalize hta:ts[k]=ta at *
 generalize hpa:ps[k]=pa at *
 have hen:∀ c:Nat,((((reco ta pa).2:Nat):Int)=((c:Nat):Int))↔(reco ta pa).2=c:=fun c=>by omega
 have hs1:(In.map eI).length≤6:=by rw [List.length_map]; exact hin1
 unfold eT at hr hfi
 generalize hrr:reco ta pa=rr at *
 obtain ⟨sd,er⟩:=rr
 simp only at hi3 he3 hr
 have hcs:(er=0∧CallP Tryd.prog f_zz22 [.list (In.map eI),eI ta.house] (·=.d (.bool true))∧CallP Tryd.prog f_zz22 [.list (Ex.map eI),eI ta.house] (·=.d (.bool false))∧¬ ((0:Nat):Int)=23∧¬ ((0:Nat):Int)=23) ∨
  (er=23∧CallP Tryd.prog f_zz22 [.list (In.map eI),eI ta.house] (·=.d (.bool false))∧CallP Tryd.prog f_zz22 [.list (Ex.map eI),eI ta.house] (·=.d (.bool true))∧¬ ((0:Nat):Int)=23∧¬ ((0:Nat):Int)=23) ∨
  (er=er∧CallP Tryd.prog f_zz22 [.list (In.map eI),eI ta.house] (·=.d (.bool false))∧CallP Tryd.prog f_zz22 [.list (Ex.map eI),eI ta.house] (·=.d (.bool false))∧¬ (er:Int)=23∧¬ (er:Int)=0):=by
  by_cases h0:er=0
  · subst h0
    rw [decide_eq_true rfl] at hi3
    rw [decide_eq_false (by decide)] at he3
    exact .inl ⟨rfl,hi3,he3,by decide,by decide⟩
  · by_cases h2:er=23
    · subst h2
      rw [decide_eq_true rfl] at he3
      rw [decide_eq_false (by decide)] at hi3
      exact .inr (.inl ⟨rfl,hi3,he3,by decide,by decide⟩)
    · rw [decide_eq_false h0] at hi3
      rw [decide_eq_false h2] at he3
      exact .inr (.inr ⟨rfl,hi3,he3,by omega,by omega⟩)
 clear hi3 he3 hen
 rcases hcs with ⟨rfl,hi3,he3,e1,e2⟩|⟨rfl,hi3,he3,e1,e2⟩|⟨_,hi3,he3,e1,e2⟩
 all_goals
  (refine goX3 (nn g1 (nn hk1 (nn hk2 (nn hta (nn hpa (nn z16e (nn z16l (nn z16d (nn tk18 (nn dr16 (nn dr17 (nn dr18 (nn tk16 (nn zl (nn ll (nn la (nn zd (nn d1 (nn d3 (nn hcl (nn e1 e2))))))))))))))))))))) (hr) (hi3) (he3) ?_; (repeat' (with_reducible apply Br.mk<;>intro _)))
  have hbl:(((ps.take k).map List.reverse).map eL).length=k:=by rw [List.length_map,List.length_map,List.length_take]; omega
  generalize ((ps.take k).map List.reverse).map eL=bk at *
  refine W.loop (fun q st=>∃ (i:Nat) (b15 b17:Blk),i≤pa.length∧q=pa.length - i∧(pa.take i).Pairwise (nc ta) ∧
   st=(E [(109,.d (eN i)),(108,.d (eN pa.length)),(107,.d (.list (pa.map eP))),(13,.own 2 ((pa.take i).reverse.map eP)),(72,.d (eN k)),(71,.d (eN ts.length)),(70,.d (.list (ts.map eT))),(10,.ptr 0 10 (b10.g + 1) 0),(8,.own 1 bk),(6,.ptr 0 6 1 0),(0,.d (.list (ts.map eT))),(1,.d (.list (ps.map eL)))],
    HB [(6,⟨1,some (lc ++ [.list (In.map eI),.list (Ex.map eI)])⟩),(10,⟨b10.g + 1,some [eI ta.house,eI ta.need,.list (ta.marks.map eD)]⟩),(15,b15),(17,b17)],[],noGh))
   ⟨_,_,stleB (by rfl),0,_,_,by omega,rfl,by simp,rfl⟩ ?_
  rintro q st ⟨i,b15,b17,hi,rfl,hpw,rfl⟩
  by_cases g3:(i:Int) < (pa.length:Int)
  case neg =>
   obtain rfl:i=pa.length:=by omega
   rw [List.take_length] at hpw ⊢
   have hok3:=hok2 (hrv hpw)
   (refine goX (nn g3 hbl) ?_; (repeat' (with_reducible apply Br.mk<;>intro _)))
   refine ⟨_,_,?_,st_leB (by (simp -dsimp (disch:=first|omega|(simp only [go_sem]; omega)) only [go_sem,seval,Nat.reduceEqDiff,Nat.reduceLeDiff,htk]<;>((repeat' apply And.intro)<;>first|exact VLe.refl _|(apply vle_int; omega)|(apply vle_int; simp; done)|exact VLe.own _ _|exact VLe.nilown _|exact VLe.norm _))) (by rfl),k + 1,_,_,_,by omega,rfl,hok3,rfl⟩
   omega
  have hi':i < pa.length:=by omega
  obtain ⟨p,hp⟩:∃ p,pa[i]=p:=⟨_,rfl⟩
  have hfp:=hfi p
  have htk2:pa.take (i + 1)=pa.take i ++ [p]:=by rw [List.take_succ_eq_append_getElem hi',hp]
  have hll:(pa.take i).reverse.length=i:=by rw [List.length_reverse,List.length_take]; omega
  have hrv2:(pa.take (i + 1)).reverse.map eP=eP p::(pa.take i).reverse.map eP:=by rw [htk2,List.reverse_append]; rfl
  have hpw2:(∀ q ∈ (pa.take i).reverse,nc ta q p)→(pa.take (i + 1)).Pairwise (nc ta):=fun h=>by
   rw [htk2,List.pairwise_append]
   exact ⟨hpw,List.pairwise_singleton _ _,fun q hq r hr=>by rw [List.mem_singleton.1 hr]; exact h q (List.mem_reverse.2 hq)⟩
  generalize (pa.take i).reverse=l at *
  unfold eP at hfp
  have hlp:(l.map eP).length=i:=by rw [List.length_map,hll]
  (refine goX (nn g3 (nn hi' (nn hp hlp))) ?_; (repeat' (with_reducible apply Br.mk<;>intro _)))
  refine W.loop (fun q st=>∃ (j:Nat) (b17:Blk),j≤l.length∧q=l.length - j∧(∀ r ∈ l.take j,nc ta r p) ∧
   st=(E [(115,.d (eN j)),(114,.d (eN i)),(113,.d (.list (l.map eP))),(15,.ptr 0 15 (b15.g + 1) 0),(109,.d (eN i)),(108,.d (eN pa.length)),(107,.d (.list (pa.map eP))),(13,.own 2 (l.map eP)),(72,.d (eN k)),(71,.d (eN ts.length)),(70,.d (.list (ts.map eT))),(10,.ptr 0 10 (b10.g + 1) 0),(8,.own 1 bk),(6,.ptr 0 6 1 0),(0,.d (.list (ts.map eT))),(1,.d (.list (ps.map eL)))],
    HB [(6,⟨1,some (lc ++ [.list (In.map eI),.list (Ex.map eI)])⟩),(10,⟨b10.g + 1,some [eI ta.house,eI ta.need,.list (ta.marks.map eD)]⟩),(15,⟨b15.g + 1,some [eI p.at_,eI p.val]⟩),(17,b17)],[],noGh))
   ⟨_,_,stleB (by rfl),0,_,by omega,rfl,by simp,rfl⟩ ?_
  rintro q st ⟨j,b17,hj,rfl,hnc,rfl⟩
  by_cases g4:(j:Int) < (i:Int)
  case neg =>
   obtain rfl:j=l.length:=by omega
   rw [List.take_length] at hnc
   have hpw3:=hpw2 hnc
   have hbd:(eP p::l.map eP).length≤21:=by rw [List.length_cons,hlp]; omega
   have hapn:D.agg [eI p.at_,eI p.val]::l.map eP=(pa.take (i + 1)).reverse.map eP:=hrv2.symm
   (refine goX (nn g4 hlp) ?_; (repeat' (with_reducible apply Br.mk<;>intro _)))
   refine ⟨_,_,?_,st_leB (by (simp -dsimp (disch:=first|omega|(simp only [go_sem]; omega)) only [go_sem,seval,Nat.reduceEqDiff,Nat.reduceLeDiff,hapn]<;>((repeat' apply And.intro)<;>first|exact VLe.refl _|(apply vle_int; omega)|(apply vle_int; simp; done)|exact VLe.own _ _|exact VLe.nilown _|exact VLe.norm _))) (by rfl),i + 1,_,_,by omega,rfl,hpw3,rfl⟩
   omega
  have hj':j < l.length:=by omega
  obtain ⟨r,hr0⟩:∃ r,l[j]=r:=⟨_,rfl⟩
  have hfr:=hfi r
  unfold eP at hfr
  have hstep:nc ta r p→∀ x ∈ l.take (j + 1),nc ta x p:=fun h x hx=>by
   rw [List.take_succ_eq_append_getElem hj',hr0,List.mem_append,List.mem_singleton] at hx
   rcases hx with hx|rfl
   · exact hnc x hx
   · exact h
  by_cases g5:p.at_=r.at_
  case neg =>
   have hst:=hstep fun h=>g5 h.1
   (refine goX (nn g4 (nn hj' (nn hr0 g5))) ?_; (repeat' (with_reducible apply Br.mk<;>intro _)))
   refine ⟨_,_,?_,stleB (by rfl),j + 1,_,by omega,rfl,hst,rfl⟩
   omega
  have g5':(p.at_=r.at_)=True:=eq_true g5
  clear g5
  cases g6:fits ta p with
  | false =>
   rw [g6] at hfp
   have hst:=hstep fun h=>by rw [g6] at h; cases h.2.1
   (refine goX1 (nn g4 (nn hj' (nn hr0 g5'))) (hfp) ?_; (repeat' (with_reducible apply Br.mk<;>intro _)))
   refine ⟨_,_,?_,stleB (by rfl),j + 1,_,by omega,rfl,hst,rfl⟩
   omega
  | true =>
   rw [g6] at hfp
   cases g7:fits ta r with
   | false =>
    rw [g7] at hfr
    have hst:=hstep fun h=>by rw [g7] at h; cases h.2.2
    (refine goX2 (nn g4 (nn hj' (nn hr0 g5'))) (hfp) (hfr) ?_; (repeat' (with_reducible apply Br.mk<;>intro _)))
    refine ⟨_,_,?_,stleB (by rfl),j + 1,_,by omega,rfl,hst,rfl⟩
    omega
   | true =>
    rw [g7] at hfr
    (refine goX3 (nn g4 (nn hj' (nn hr0 g5'))) (hfp) (hfr) (hs) ?_; (repeat' (with_reducible apply Br.mk<;>intro _)))
    exact Fin.p rfl rfl
end Go.Proofs.YtclmdhceceacoaaDoor
