/-
 Layer 44: the examples of the documentation.
 Conditions: of each contract asks it says.
-/
import Derived.Test.YtclmdhceceacoaaDoorH25
import Derived.Test.YtclmdhceceacoaaDoorH20
namespace Go.Proofs.YtclmdhceceacoaaDoor
open Go Go.E2 CW CH C44
set_option linter.unusedSimpArgs false
set_option maxHeartbeats 8000000
theorem Lot_ok (l:List Int) (h1:l.length≤60) (h2:∀ n ∈ l,i64 n):CallP Tryd.prog f_zz23 [.list (l.map eI)] (·=.d (eD (lotOf (0::l)))):=by
 refine callP_of_W fol zz23_cp ?_
 have h2':∀ n ∈ (0:Int)::l,i64 n:=fun n hn=>by
  rcases List.mem_cons.1 hn with rfl|h
  · exact ⟨by decide,by decide⟩
  · exact h2 n h
 have hn:=numbers_ok (0::l) (by simp; omega) h2'
 have ho:=rOf_ok 194 (by decide) ((0::l).map intB) (by simp; omega) (nums_len h2')
 have hlo:CallP Tryd.prog f_zz26 [.int .i64 194,.list (((0::l).map intB).map D.str)] (·=.d (eD (lotOf (0::l)))):=ho
 generalize hd:lotOf (0::l)=d at *
 obtain ⟨d1,d2,d3,d4⟩:=dgOk d.2
 rw [eD_mk] at hlo ⊢
 generalize d.1.map eB=c at *
 generalize ((0::l).map intB).map D.str=ns at hn hlo
 have hm:=mostBytes_eq
 obtain ⟨ls,hls⟩:∃ ls,ls=((0:Int)::l).map eI:=⟨_,rfl⟩
 rw [← hls] at hn
 have hel:[D.int IntKind.i64 0] ++ l.map eI=ls:=hls.symm
 have hel2:D.int IntKind.i64 0::l.map eI=ls:=hls.symm
 obtain ⟨z16,hz16⟩:∃ z,z=zr 16 (D.int .u8 0):=⟨_,rfl⟩
 have z16l:z16.length=16:=by rw [hz16]; rfl
 have z16d:List.drop 16 z16=[]:=by rw [hz16]; rfl
 have z16e:zr 16 (D.int .u8 0)=z16:=hz16.symm
 have hl0:l.length≤60:=h1
 refine goS z16e ?_
 (refine goX2 (nn z16e (nn z16l (nn z16d (nn d1 (nn d3 (nn hel hel2)))))) (hn) (hlo) ?_; (repeat' (with_reducible apply Br.mk<;>intro _)))
 exact Fin.eq (r:=.d (.agg c)) (by simp -dsimp (disch:=first|omega|(simp only [go_sem]; omega)) only [go_sem,seval,Nat.reduceEqDiff,Nat.reduceLeDiff,d1,d2,d3]) ⟨rfl,rfl,rfl⟩
theorem lot_len (l:List Int):(lotOf l).1.length=16:=(lotOf l).2
theorem chal4 (lot:Dg):∃ b0 b1 b2 b3:Nat,chal lot 4 4=[(0,b0),(1,b1),(2,b2),(3,b3)]∧(1≤b0∧b0 < 2147483647)∧(1≤b1∧b1 < 2147483647)∧(1≤b2∧b2 < 2147483647)∧1≤b3∧b3 < 2147483647:=by
 have hs:sortN ((ordO lot 4).take 4)=[0,1,2,3]:=by
  have h1:(ordO lot 4).take 4=ordO lot 4:=List.take_of_length_le (by rw [ordO_len]; exact Nat.le_refl 4)
  rw [h1]
  have hp:(sortN (ordO lot 4)).Perm [0,1,2,3]:=(List.mergeSort_perm _ _).trans (ordL_perm _ _)
  have hso:(sortN (ordO lot 4)).Pairwise (fun x y=>x≤y):=by
   have:=List.pairwise_mergeSort (le:=fun x y:Nat=>decide (x≤y)) (fun a b c h1 h2=>by simp at *; omega) (fun a b=>by simp; omega) (ordO lot 4)
   exact this.imp fun h=>by simpa using h
  have hs2:[0,1,2,3].Pairwise (fun x y:Nat=>x≤y):=by decide
  exact hp.eq_of_pairwise (fun a b _ _ h1 h2=>Nat.le_antisymm h1 h2) hso hs2
 have hb:∀ k,1≤(askOf lot k).2∧(askOf lot k).2 < 2147483647:=fun k=>by
  have:red (undr lot.1 2 k) % 2147483646 < 2147483646:=Nat.mod_lt _ (by decide)
  simp only [askOf]; omega
 exact ⟨_,_,_,_,by rw [chal,hs]; rfl,hb 0,hb 1,hb 2,hb 3⟩
theorem chal4' (lot:Dg):∃ asks:List (Nat × Nat),chal lot 4 4=asks∧asks.length=4∧∀ k (h:k < asks.length),asks[k].1=k∧1≤asks[k].2∧asks[k].2 < 2147483647:=by
 obtain ⟨b0,b1,b2,b3,hch,hb0,hb1,hb2,hb3⟩:=chal4 lot
 refine ⟨_,hch,rfl,fun k h=>?_⟩
 have h4:k < 4:=h
 match k,h,h4 with
 | 0,_,_=>exact ⟨rfl,hb0⟩
 | 1,_,_=>exact ⟨rfl,hb1⟩
 | 2,_,_=>exact ⟨rfl,hb2⟩
 | 3,_,_=>exact ⟨rfl,hb3⟩
theorem sanity_ok:CallP Tryd.prog f_zz10 [] (·=.d (.bool true)):=by
 refine callP_of_W fol zz10_cp ?_
 have hP:P=2147483647:=rfl
 have hdA:=Deal_ok 1 5 1 2 (by decide) (by decide) (by decide) (by decide)
 have hdB:=Deal_ok 2 7 2 3 (by decide) (by decide) (by decide) (by decide)
 rw [shA,mkA] at hdA
 rw [shB,mkB] at hdB
 have r1:=Recover_ok tA [⟨2,5⟩] (by decide)
 have r2:=Recover_ok tA [⟨2,6⟩] (by decide)
 have r3:=Recover_ok tO [⟨2,5⟩] (by decide)
 have r4:=Recover_ok tB [⟨3,sB 3⟩,⟨1,sB 1⟩] (by decide)
 have hdr:=Draw_ok [tA,tB] [[⟨1,5⟩],[⟨1,sB 1⟩,⟨2,sB 2⟩]] (by decide) (by decide) (by decide)
 have hv:=Valid_ok tA
 have hf:=Fits_ok tA ⟨2,5⟩
 rw [sa1] at r1
 rw [sa2] at r2
 rw [sa3] at r3
 rw [sa4] at r4
 rw [saD] at hdr
 rw [sa8] at hv
 rw [sa9] at hf
 have hlot:=Lot_ok [1,5,2,7] (by decide) (by simp only [List.mem_cons,List.not_mem_nil,or_false,forall_eq_or_imp,forall_eq]; exact ⟨⟨by decide,by decide⟩,⟨by decide,by decide⟩,⟨by decide,by decide⟩,⟨by decide,by decide⟩⟩)
 have hc4:=Challenge_ok (lotOf [0,1,5,2,7]) 4 4 (by decide) (by decide)
 have hc5:=Challenge_bad (lotOf [0,1,5,2,7]) 4 5 (.inr (.inr (by decide)))
 obtain ⟨asks,hch,hal,hap⟩:=chal4' (lotOf [0,1,5,2,7])
 rw [hch] at hc4
 clear hch
 have hal':((asks.length:Nat):Int)=4:=by rw [hal]; rfl
 have hcl:=cellsEq_dg (lotOf [0,1,5,2,7]) (lotOf [0,1,5,2,7])
 rw [decide_eq_true rfl] at hcl
 obtain ⟨d1,d2,d3,d4⟩:=dgOk (lot_len [0,1,5,2,7])
 have hlv:eD (lotOf [0,1,5,2,7])=.agg ((lotOf [0,1,5,2,7]).1.map eB):=rfl
 unfold eDr at hdr
 rw [hlv] at hlot hc4 hc5
 generalize (lotOf [0,1,5,2,7]).1.map eB=lc at *
 have hTA:eT tA=.agg [eI 1,eI 1,.list [eD (mk3 1 1 5),eD (mk3 1 2 5)]]:=by unfold eT tA; rw [mkA]; rfl
 have hTB:eT tB=.agg [eI 2,eI 2,.list [eD (mk3 2 1 (sB 1)),eD (mk3 2 2 (sB 2)),eD (mk3 2 3 (sB 3))]]:=by unfold eT tB; rw [mkB]; rfl
 have hTO:eT tO=.agg [eI 1,eI 1,.list [eD oddD,eD (mk3 1 2 5)]]:=rfl
 rw [hTA] at r1 r2 hv hf
 rw [hTB] at r4
 rw [hTO] at r3
 clear hP
 simp only [List.map_cons,List.map_nil,hTA,hTB,eP,eL,show eN 0=eI 0 from rfl,show eN 1=eI 1 from rfl,show eN 2=eI 2 from rfl,show eN 3=eI 3 from rfl,show eN 4=eI 4 from rfl,show eN 5=eI 5 from rfl,show eN 7=eI 7 from rfl,show eN 8=eI 8 from rfl,show eN 23=eI 23 from rfl] at hdA hdB r1 r2 r3 r4 hdr hv hf hlot hc4 hc5
 generalize sB 1=s1 at *
 generalize sB 2=s2 at *
 generalize sB 3=s3 at *
 have m1s:=(mk3 1 1 5).2
 have m2s:=(mk3 1 2 5).2
 have m1t:=dg_take (mk3 1 1 5)
 have m2t:=dg_take (mk3 1 2 5)
 generalize mk3 1 1 5=m1 at *
 generalize mk3 1 2 5=m2 at *
 generalize mk3 2 1 (s1:Int)=n1 at *
 generalize mk3 2 2 (s2:Int)=n2 at *
 generalize mk3 2 3 (s3:Int)=n3 at *
 obtain ⟨z16,hz16⟩:∃ z,z=zr 16 (D.int .u8 0):=⟨_,rfl⟩
 have z16l:z16.length=16:=by rw [hz16]; rfl
 have z16d:List.drop 16 z16=[]:=by rw [hz16]; rfl
 have z16e:zr 16 (D.int .u8 0)=z16:=hz16.symm
 refine goS z16e ?_
 (refine goX2 (nn z16e z16l) (hdA) (hdB) ?_; (repeat' (with_reducible apply Br.mk<;>intro _)))
 have tk18:∀ x y:D,List.take 18 (lc ++ [x,y])=lc ++ [x,y]:=fun x y=>List.take_of_length_le (by rw [List.length_append,d1]; exact Nat.le_refl 18)
 have dr16:∀ x y:D,List.drop 16 (lc ++ [x,y])=[x,y]:=fun x y=>by rw [List.drop_append_of_le_length (by omega),List.drop_of_length_le (by omega)]; rfl
 have dr17:∀ x y:D,List.drop 17 (lc ++ [x,y])=[y]:=fun x y=>by rw [List.drop_append,List.drop_of_length_le (by omega),d1]; rfl
 have dr18:∀ x y:D,List.drop 18 (lc ++ [x,y])=[]:=fun x y=>List.drop_of_length_le (by rw [List.length_append,d1]; exact Nat.le_refl 18)
 have tk16:∀ x y:D,List.take 16 (lc ++ [x,y])=lc:=fun x y=>by rw [List.take_append_of_le_length (by omega),List.take_of_length_le (by omega)]
 have zl:∀ x y:D,(z16 ++ [x,y]).length=18:=fun x y=>by rw [List.length_append,z16l]; rfl
 have ll:∀ x y:D,(lc ++ [x,y]).length=18:=fun x y=>by rw [List.length_append,d1]; rfl
 have la:(lc ++ [D.list [eI 1,eI 2],D.list []]).all D.one=true:=by rw [List.all_append,d3]; rfl
 have zd:∀ x y:D,List.drop 18 (z16 ++ [x,y])=[]:=fun x y=>List.drop_of_length_le (by rw [zl]; exact Nat.le_refl 18)
 have zo:(List.drop 1 z16).all D.one=true:=by rw [hz16]; rfl
 have ze:D.agg (D.int .u8 1::List.drop 1 z16)=eD oddD:=by rw [hz16]; rfl
 have zs:(D.int .u8 1::List.drop 1 z16).length=16:=by rw [hz16]; rfl
 have m2e:D.agg (m2.1.map eB)=eD m2:=rfl
 have i1:vIaddr 16 (some (.list [eD m1,eD m2])) (.d (.int .i64 1))=some (.cptr (m2.1.map eB)):=by
  have:=eD_size m1
  have:=eD_size m2
  simp [vIaddr, *]
  rfl
 have za:z16.all D.one=true:=by rw [hz16]; rfl
 have j0:vIaddr 1 (some (.list [eN s1,eN s2,eN s3])) (.d (.int .i64 0))=some (.cptr [eN s1]):=rfl
 have j1:vIaddr 1 (some (.list [eN s1,eN s2,eN s3])) (.d (.int .i64 1))=some (.cptr [eN s2]):=rfl
 have j2:vIaddr 1 (some (.list [eN s1,eN s2,eN s3])) (.d (.int .i64 2))=some (.cptr [eN s3]):=rfl
 have k0:vIaddr 1 (some (.list [eI 5,eI 5])) (.d (.int .i64 0))=some (.cptr [eI 5]):=rfl
 have k1:vIaddr 1 (some (.list [eI 5,eI 5])) (.d (.int .i64 1))=some (.cptr [eI 5]):=rfl
 have l0:vIaddr 1 (some (.list [eI 1,eI 2])) (.d (.int .i64 0))=some (.cptr [eI 1]):=rfl
 have l1:vIaddr 1 (some (.list [eI 1,eI 2])) (.d (.int .i64 1))=some (.cptr [eI 2]):=rfl
 have z1:(z16 ++ [D.nilS,D.nilS]).all D.one=true:=by rw [hz16]; rfl
 have la':=la
 have hcl1:(lc ++ [D.list [eI 1,eI 2],D.list []]).length=18:=ll _ _
 (repeat' (first|(with_reducible first|refine W.seq ?_|refine W.block ?_|refine W.scope ?_)|((first|(with_reducible first|refine W.reg ?_|refine W.skip ?_|refine W.exit ?_|refine W.ret ?_|refine W.ifc ?_)|(apply wC_P (r1); (focus (simp -dsimp (disch:=first|omega|(simp only [go_sem]; omega)) only [go_sem,seval,Nat.reduceEqDiff,Nat.reduceLeDiff]<;>rfl)); rintro _ rfl)|(apply wC_P (r2); (focus (simp -dsimp (disch:=first|omega|(simp only [go_sem]; omega)) only [go_sem,seval,Nat.reduceEqDiff,Nat.reduceLeDiff]<;>rfl)); rintro _ rfl)|(apply wC_P (r3); (focus (simp -dsimp (disch:=first|omega|(simp only [go_sem]; omega)) only [go_sem,seval,Nat.reduceEqDiff,Nat.reduceLeDiff]<;>rfl)); rintro _ rfl)|(apply wC_P (r4); (focus (simp -dsimp (disch:=first|omega|(simp only [go_sem]; omega)) only [go_sem,seval,Nat.reduceEqDiff,Nat.reduceLeDiff]<;>rfl)); rintro _ rfl)|(apply wC_P (hdr); (focus (simp -dsimp (disch:=first|omega|(simp only [go_sem]; omega)) only [go_sem,seval,Nat.reduceEqDiff,Nat.reduceLeDiff]<;>rfl)); rintro _ rfl)|(apply wC_P (hc4); (focus (simp -dsimp (disch:=first|omega|(simp only [go_sem]; omega)) only [go_sem,seval,Nat.reduceEqDiff,Nat.reduceLeDiff]<;>rfl)); rintro _ rfl)|(apply wC_P (hc5); (focus (simp -dsimp (disch:=first|omega|(simp only [go_sem]; omega)) only [go_sem,seval,Nat.reduceEqDiff,Nat.reduceLeDiff]<;>rfl)); rintro _ rfl)|(apply wC_P (hlot); (focus (simp -dsimp (disch:=first|omega|(simp only [go_sem]; omega)) only [go_sem,seval,Nat.reduceEqDiff,Nat.reduceLeDiff]<;>rfl)); rintro _ rfl)|((with_reducible first|refine wG_decE (fun _ hG=>?_) (fun _ hG=>?_)|refine wG_decFE (fun _ hG=>?_) (fun _ hG=>?_))<;>(try simp -dsimp only [hG,decide_true,decide_false,not_true_eq_false,not_false_eq_true])<;>clear hG))<;>(try simp -dsimp (disch:=first|omega|(simp only [go_sem]; omega)) only [go_sem,seval,Nat.reduceEqDiff,Nat.reduceLeDiff,z16e,z16l,m1s,m2s,m1t,m2t,zo,ze,m2e,i1,za,j0,j1,j2,k0,k1,l0,l1,tk18,dr16,dr17,dr18,tk16,zl,ll,la,zd,z1,d1,d2,d3,hcl,hal,hal']))|simp -dsimp (disch:=first|omega|(simp only [go_sem]; omega)) only [go_sem,seval,Nat.reduceEqDiff,Nat.reduceLeDiff,z16e,z16l,m1s,m2s,m1t,m2t,zo,ze,m2e,i1,za,j0,j1,j2,k0,k1,l0,l1,tk18,dr16,dr17,dr18,tk16,zl,ll,la,zd,z1,d1,d2,d3,hcl,hal,hal']))
 refine W.loop (fun q st=>∃ (k:Nat) (b23:Blk),k≤4∧q=4 - k ∧
  st=(E [(162,.d (eN k)),(161,.d (.int .i64 4)),(160,.d (.list (asks.map eQ))),(1,.d (.list [eI 5,eI 5])),(7,.d (eI 5)),(8,.d (eI 0)),(10,.d (eI 8)),(13,.d (eI 23)),(14,.d (eI 7)),(15,.d (eI 0)),(17,.d (eI 0)),(2,.ptr 0 2 1 0),(16,.ptr 0 16 1 0)],
   HB [(2,⟨1,some [eI 1,eI 1,.list [eD m1,eD m2]]⟩),(5,⟨1,some [eI 2,eI 2,.list [eD n1,eD n2,eD n3]]⟩),(11,⟨1,some [.int .i64 1,.int .i64 1,.list [eD oddD,eD m2]]⟩),(16,⟨1,some (lc ++ [.list [eI 1,eI 2],.list []])⟩),(23,b23)],[],noGh))
  ⟨_,_,stleB (HB_pad [(2,_),(5,_),(11,_),(16,_)] [23] rfl).symm,0,_,by omega,rfl,rfl⟩ ?_
 rintro q st ⟨k,b23,hk,rfl,rfl⟩
 by_cases g1:(k:Int) < 4
 case pos =>
  have hk':k < asks.length:=by omega
  obtain ⟨a1,a2,a3⟩:=hap k hk'
  obtain ⟨av,hav⟩:∃ av,asks[k].2=av:=⟨_,rfl⟩
  rw [hav] at a2 a3
  have p1:¬ (av:Int) < 1:=by omega
  have p2:¬ (av:Int) ≥ 2147483647:=by omega
  (refine goX (nn g1 (nn hk' (nn a1 (nn hav (nn p1 (nn p2 hal)))))) ?_; (repeat' (with_reducible apply Br.mk<;>intro _)))
  refine ⟨_,_,?_,stleB (by rfl),k + 1,_,by omega,rfl,rfl⟩
  omega
 (refine goX2 (nn g1 (nn k0 (nn k1 (nn l0 (nn l1 (nn dr16 (nn dr17 d1))))))) (hv) (hf) ?_; (repeat' (with_reducible apply Br.mk<;>intro _)))
 exact Fin.p rfl rfl
end Go.Proofs.YtclmdhceceacoaaDoor
/-
 Layer 44: what is recovered from pieces of one dealing.
 Conditions: of each theorem as it says.
-/
namespace Go.Proofs.YtclmdhceceacoaaDoor
open Go Go.E2 CW CH C44
set_option linter.unusedSimpArgs false
set_option maxHeartbeats 4000000
theorem sm_map {α β:Type} (g:α→β) (f:β→F):∀ l:List α,sm f (l.map g)=sm (fun x=>f (g x)) l
 | []=>rfl
 | x::l=>by rw [List.map_cons,sm,sm,sm_map g f l]
abbrev tkOf (h s need n:Nat):Tk:=⟨h,need,marksL h s need n⟩
abbrev gp (h s need i:Nat):Pc:=⟨(i:Int),(shr h s i need:Int)⟩
theorem tk_valid {h s need n:Nat} (h1:h < 12) (h3:1≤n∧n≤12) (h4:1≤need∧need≤n):(tkOf h s need n).valid=true:=by
 rw [Tk.valid_iff]
 show 0≤(h:Int)∧(h:Int)≤11∧1≤(need:Int)∧(need:Int)≤(marksL h s need n).length∧(marksL h s need n).length≤12
 rw [marksL_len]; omega
theorem fits_good {h s need n:Nat} (h1:h < 12) (h3:1≤n∧n≤12) (h4:1≤need∧need≤n) {i:Nat} (hi:1≤i∧i≤n):fits (tkOf h s need n) (gp h s need i)=true:=by
 rw [fits_iff]
 have hl:=shr_lt h s i need
 have hP:P=2147483647:=rfl
 refine ⟨tk_valid h1 h3 h4,⟨by show 1≤(i:Int); omega,?_,by show 0≤(shr h s i need:Int); omega,by show (shr h s i need:Int) < 2147483647; omega⟩,?_⟩
 · show (i:Int)≤(marksL h s need n).length
   rw [marksL_len]; omega
 · show (marksL h s need n)[((i:Int) - 1).toNat]?=some (mk3 h i (shr h s i need))
   rw [show ((i:Int) - 1).toNat=i - 1 by omega,marksL,List.getElem?_map,List.getElem?_range (by omega)]
   show some (mk3 (h:Int) (((i - 1 + 1:Nat)):Int) (shr h s (i - 1 + 1) need))=_
   rw [show i - 1 + 1=i by omega]
structure Mix (h s need n:Nat) (b:Nat→Bool) (l:List Pc):Prop where
 good:∀ p ∈ l,fits (tkOf h s need n) p=true→∃ i,p=gp h s need i∧1≤i∧i≤n∧b (i - 1)=true
 all:∀ i,1≤i→i≤n→b (i - 1)=true→gp h s need i ∈ l
theorem Mix.fst {h s need n:Nat} {b:Nat→Bool} {l:List Pc} (hm:Mix h s need n b l) (h1:h < 12) (h3:1≤n∧n≤12) (h4:1≤need∧need≤n) {k:Nat} (hk:k < n) :
 (fst1 (tkOf h s need n) l ((k + 1:Nat):Int)).toList=if b k=true then [gp h s need (k + 1)] else []:=by
 cases e:fst1 (tkOf h s need n) l ((k + 1:Nat):Int) with
 | some p =>
  obtain ⟨e1,e2,e3⟩:=fst1_some e
  obtain ⟨i,rfl,i1,i2,i3⟩:=hm.good p e3 e2
  have:i=k + 1:=by have e2:(i:Int)=((k + 1:Nat):Int):=e1; omega
  subst this
  rw [if_pos (by simpa using i3)]; rfl
 | none =>
  split
  · next hb =>
    have hmem:=hm.all (k + 1) (by omega) (by omega) (by simpa using hb)
    have:=List.find?_eq_none.1 e _ hmem
    exact absurd (by unfold pOk; rw [fits_good h1 h3 h4 (by omega)]; simp) this
  · rfl
theorem Mix.ul {h s need n:Nat} {b:Nat→Bool} {l:List Pc} (hm:Mix h s need n b l) (h1:h < 12) (h3:1≤n∧n≤12) (h4:1≤need∧need≤n) :
 ∀ k,k≤n→ul (tkOf h s need n) l k=((List.range k).filter b).map fun i=>gp h s need (i + 1)
 | 0,_=>rfl
 | k + 1,hk=>by
   rw [YtclmdhceceacoaaDoor.ul,hm.ul h1 h3 h4 k (by omega),hm.fst h1 h3 h4 (by omega),List.range_succ,List.filter_append,List.map_append]
   congr 1
   cases hb:b k<;>simp [List.filter,hb]
theorem zer_pts {h s need:Nat} (hs:s < P) (hn:0 < need) (S:List Nat) (hS:S.Nodup) (hb:∀ i ∈ S,i < 12) (hl:need≤S.length) :
 zer (S.map fun i=>(i + 1,shr h s (i + 1) need))=s:=by
 unfold zer
 have ha:Apart (S.map fun i=>toF (i + 1)):=by
  unfold Apart
  rw [List.pairwise_map]
  refine (List.nodup_iff_pairwise_ne.1 hS).imp_of_mem fun {x y} hx hy hne=>?_
  have:=hb x hx
  have:=hb y hy
  have hP:P=2147483647:=rfl
  refine ⟨fun e=>hne ?_,place_inv ⟨by omega,by omega⟩ ⟨by omega,by omega⟩ (by omega),place_inv ⟨by omega,by omega⟩ ⟨by omega,by omega⟩ (by omega)⟩
  have:=toF_lt e (by omega) (by omega)
  omega
 have hz:=zero_of ha (n:=need) (by rw [List.length_map]; exact hl) hn (fun k=>toF (cf h s k))
 rw [sm_map] at hz
 rw [sm_map,List.map_map]
 have hc:(sm (fun i:Nat=>toF (shr h s (i + 1) need) * pr (toF (i + 1)) (S.map fun i=>toF (i + 1))) S)=toF (cf h s 0):=by
  rw [← hz]
  exact sm_congr fun x _=>by rw [shr_ev]
 have e0:toF (cf h s 0)=toF s:=rfl
 rw [e0] at hc
 have:(sm (fun i:Nat=>toF (shr h s (i + 1) need) * pr (toF (i + 1)) (S.map ((fun q:Nat × Nat=>toF q.1) ∘ fun i=>(i + 1,shr h s (i + 1) need)))) S).val=s:=by
  show (sm (fun i:Nat=>toF (shr h s (i + 1) need) * pr (toF (i + 1)) (S.map fun i=>toF (i + 1))) S).val=s
  rw [hc,toF_val,Nat.mod_eq_of_lt hs]
 exact this
theorem Mix.reco {h s need n:Nat} {b:Nat→Bool} {l:List Pc} (hm:Mix h s need n b l) (h1:h < 12) (h2:s < P) (h3:1≤n∧n≤12) (h4:1≤need∧need≤n) :
 reco (tkOf h s need n) l=if ((List.range n).filter b).length < need then (0,8) else (s,0):=by
 have hu:us (tkOf h s need n) l=(((List.range n).filter b).take need).map fun i=>gp h s need (i + 1):=by
  show (YtclmdhceceacoaaDoor.ul (tkOf h s need n) l (marksL h s need n).length).take (need:Int).toNat=_
  rw [marksL_len,hm.ul h1 h3 h4 n (Nat.le_refl _),Int.toNat_natCast,List.map_take]
 have hul:(us (tkOf h s need n) l).length=min need ((List.range n).filter b).length:=by rw [hu,List.length_map,List.length_take]
 unfold YtclmdhceceacoaaDoor.reco
 rw [if_neg (by rw [tk_valid h1 h3 h4]; decide),hul]
 by_cases g:((List.range n).filter b).length < need
 · rw [if_pos g,if_pos (by show ((min need ((List.range n).filter b).length:Nat):Int) < (need:Int); omega)]
 rw [if_neg g,if_neg (by show ¬ ((min need ((List.range n).filter b).length:Nat):Int) < (need:Int); omega)]
 have hq:uQ (tkOf h s need n) l=(((List.range n).filter b).take need).map fun i=>(i + 1,shr h s (i + 1) need):=by
  show (us (tkOf h s need n) l).map toQ=_
  rw [hu,List.map_map]
  exact List.map_congr_left fun i _=>by
   show ((((i + 1:Nat):Int)).toNat,((shr h s (i + 1) need:Nat):Int).toNat)=_
   rw [Int.toNat_natCast,Int.toNat_natCast]
 have hz:seedOf (tkOf h s need n) l=s:=by
  unfold seedOf
  rw [hq]
  refine zer_pts h2 (by omega) _ ?_ ?_ ?_
  · exact ((List.nodup_range (n:=n)).sublist List.filter_sublist).sublist (List.take_sublist _ _)
  · intro i hi
    have:=List.mem_range.1 (List.mem_filter.1 (List.mem_of_mem_take hi)).1
    omega
  · rw [List.length_take]; omega
 have hmk:mks (tkOf h s need n) s=(tkOf h s need n).marks:=by
  show marksL (h:Int).toNat s (need:Int).toNat (marksL h s need n).length=marksL h s need n
  rw [marksL_len,Int.toNat_natCast,Int.toNat_natCast]
 rw [hz,if_pos hmk]
end Go.Proofs.YtclmdhceceacoaaDoor
/-
 Layer 44: the law DrawRecoversFromAny.
 Conditions: of each contract as it says.
-/
namespace Go.Proofs.YtclmdhceceacoaaDoor
open Go Go.E2 CW CH C44
set_option linter.unusedSimpArgs false
set_option maxHeartbeats 8000000
theorem tmod_nat (a b:Nat):(a:Int).tmod (b:Int)=((a % b:Nat):Int):=by rw [Int.tmod_eq_emod_of_nonneg (Int.natCast_nonneg _)]; rfl
def bt (m k:Nat):Bool:=decide (m / 2 ^ k % 2=1)
def stA (T:Tk) (l:List Pc) (k:Nat) (L:List Pc):List Pc:=match l[k]? with|some p=>if fits T p=true then L else L ++ [p]|none=>L
def bl (T:Tk) (g:Nat→Pc) (m:Nat) (l:List Pc):Nat→List Pc
 | 0=>[]
 | k + 1=>if bt m k=true then g (k + 1)::stA T l k (bl T g m l k) else stA T l k (bl T g m l k)
end Go.Proofs.YtclmdhceceacoaaDoor
/-
 Layer 44,plain: a rising list within a rising list.
-/
namespace C44
def mt:List Nat→List Nat→Nat
 | _,[]=>0
 | [],_::_=>0
 | f::F,k::K=>if f=k then mt F K + 1 else mt (f::F) K
theorem mt_nil (K:List Nat):mt [] K=0:=by cases K<;>rfl
theorem mt_all:∀ (K F:List Nat),K.Pairwise (· < ·)→F.Pairwise (· < ·)→(∀ x ∈ F,x ∈ K)→mt F K=F.length
 | [],F,_,_,h=>by
   cases F with
   | nil=>rfl
   | cons f F=>exact absurd (h f List.mem_cons_self) (by simp)
 | k::K,F,hK,hF,h=>by
   cases F with
   | nil=>rfl
   | cons f F =>
    rw [List.pairwise_cons] at hK hF
    rw [mt]
    split
    · next e =>
      subst e
      rw [mt_all K F hK.2 hF.2 fun x hx=>?_,List.length_cons]
      have:=hF.1 x hx
      rcases List.mem_cons.1 (h x (List.mem_cons_of_mem _ hx)) with e|e
      · omega
      · exact e
    · next e =>
      have hf:f ∈ K:=by
       rcases List.mem_cons.1 (h f List.mem_cons_self) with e'|e'
       · exact absurd e' e
       · exact e'
      have hkf:=hK.1 f hf
      refine mt_all K (f::F) hK.2 (List.pairwise_cons.2 hF) fun x hx=>?_
      rcases List.mem_cons.1 (h x hx) with e'|e'
      · rcases List.mem_cons.1 hx with rfl|hx
        · exact absurd e' e
        · have:=hF.1 x hx; omega
      · exact e'
theorem mt_hit {F K:List Nat} {t j:Nat} (ht:t < F.length) (hj:j < K.length) (h:F[t]=K[j]):mt (F.drop t) (K.drop j)=mt (F.drop (t + 1)) (K.drop (j + 1)) + 1:=by
 rw [List.drop_eq_getElem_cons ht,List.drop_eq_getElem_cons hj,mt,if_pos h]
theorem mt_miss {F K:List Nat} {t j:Nat} (ht:t < F.length) (hj:j < K.length) (h:F[t] ≠ K[j]):mt (F.drop t) (K.drop j)=mt (F.drop t) (K.drop (j + 1)):=by
 rw [List.drop_eq_getElem_cons hj,List.drop_eq_getElem_cons ht,mt,if_neg h]
end C44
/-
 Layer 44: the law DrawChallengesMore.
 Conditions: of each contract as it says.
-/
namespace Go.Proofs.YtclmdhceceacoaaDoor
open Go Go.E2 CW CH C44
set_option linter.unusedSimpArgs false
set_option maxHeartbeats 8000000
theorem ordO_nodup (lot:Dg) (n:Nat):(ordO lot n).Nodup:=(ordL_perm _ _).nodup_iff.2 List.nodup_range
theorem sortN_up {l:List Nat} (h:l.Nodup):(sortN l).Pairwise (· < ·):=by
 have h1:(sortN l).Pairwise fun x y=>decide (x≤y)=true:=List.pairwise_mergeSort (fun a b c h1 h2=>by simp only [decide_eq_true_eq] at *; omega) (fun a b=>by simp only [Bool.or_eq_true,decide_eq_true_eq]; omega) l
 have h2:(sortN l).Nodup:=(List.mergeSort_perm _ _).nodup_iff.2 h
 exact (h1.and (List.nodup_iff_pairwise_ne.1 h2)).imp fun {a b} h=>by
  have:=of_decide_eq_true h.1
  have:=h.2
  omega
def plc (lot:Dg) (n c:Nat):List Nat:=sortN ((ordO lot n).take c)
theorem plc_len {lot:Dg} {n c:Nat} (h:c≤n):(plc lot n c).length=c:=by rw [plc,sortN_len,List.length_take,ordO_len]; omega
theorem plc_up (lot:Dg) (n c:Nat):(plc lot n c).Pairwise (· < ·):=sortN_up ((ordO_nodup lot n).sublist (List.take_sublist _ _))
theorem plc_lt {lot:Dg} {n c k:Nat} (h:k ∈ plc lot n c):k < n:=ordO_lt (List.mem_of_mem_take (sortN_mem.1 h))
theorem plc_sub {lot:Dg} {n a b:Nat} (h:a≤b):∀ x ∈ plc lot n a,x ∈ plc lot n b:=fun x hx=>sortN_mem.2 (by
 have:=sortN_mem.1 hx
 have e:(ordO lot n).take a=((ordO lot n).take b).take a:=by rw [List.take_take,Nat.min_eq_left h]
 rw [e] at this
 exact List.mem_of_mem_take this)
theorem plc_mt {lot:Dg} {n a b:Nat} (h:a≤b) (hn:a≤n):mt (plc lot n a) (plc lot n b)=a:=by
 rw [mt_all _ _ (plc_up lot n b) (plc_up lot n a) (plc_sub h),plc_len hn]
theorem chal_plc (lot:Dg) (n c:Nat):chal lot n c=(plc lot n c).map (askOf lot):=rfl
theorem tmodN (a b:Nat):(a:Int).tmod ((b:Int) + 1)=((a % (b + 1):Nat):Int):=by
 rw [Int.tmod_eq_emod_of_nonneg (Int.natCast_nonneg _)]; rfl
def seenL (O:List Nat) (m:Nat):List D:=(List.range 201).map fun i=>D.bool (decide (i ∈ O.take m))
theorem seenL_len (O:List Nat) (m:Nat):(seenL O m).length=201:=by simp [seenL]
theorem seenL_zero (O:List Nat):seenL O 0=zr 201 (D.bool false):=by
 rw [seenL,zr,List.map_congr_left (g:=fun _=>D.bool false) (fun i _=>by rw [List.take_zero]; simp),List.map_const',List.length_range]
theorem seenL_get {O:List Nat} {m:Nat} (hm:m < O.length) (hd:O.Nodup) (h2:O[m] < 201):(seenL O m)[O[m]]?=some (D.bool false):=by
 have hn:O[m] ∉ O.take m:=fun h=>by
  obtain ⟨j,hj,e⟩:=List.mem_iff_getElem.1 h
  rw [List.length_take] at hj
  rw [List.getElem_take] at e
  have:=(List.getElem_inj hd).1 e
  omega
 rw [seenL,List.getElem?_map,List.getElem?_range h2]
 simp [hn]
theorem seenL_set {O:List Nat} {m:Nat} (hm:m < O.length):(seenL O m).set O[m] (D.bool true)=seenL O (m + 1):=by
 refine List.ext_getElem? fun i=>?_
 rw [List.getElem?_set,seenL_len]
 have ht:O.take (m + 1)=O.take m ++ [O[m]]:=List.take_succ_eq_append_getElem hm
 have hmem:∀ i,i ∈ O.take (m + 1)↔i ∈ O.take m∨i=O[m]:=fun i=>by rw [ht,List.mem_append,List.mem_singleton]
 by_cases e:O[m]=i
 · subst e
   by_cases h2:O[m] < 201
   · rw [if_pos rfl,if_pos h2,seenL,List.getElem?_map,List.getElem?_range h2,Option.map_some,decide_eq_true ((hmem _).2 (.inr rfl))]
   · rw [if_pos rfl,if_neg h2,List.getElem?_eq_none (by rw [seenL_len]; omega)]
 · rw [if_neg e]
   by_cases h2:i < 201
   · rw [seenL,seenL,List.getElem?_map,List.getElem?_map,List.getElem?_range h2,Option.map_some,Option.map_some,show decide (i ∈ O.take (m + 1))=decide (i ∈ O.take m) from decide_eq_decide.2 ⟨fun h=>((hmem i).1 h).resolve_right (fun h=>e h.symm),fun h=>(hmem i).2 (.inl h)⟩]
   · rw [List.getElem?_eq_none (by rw [seenL_len]; omega),List.getElem?_eq_none (by rw [seenL_len]; omega)]
theorem more_ok (lot:Dg) (nb c0 c1:Nat) (hn:nb < 256) (h0:c0 < 256) (h1:c1 < 256):CallP Tryd.prog f_zz1 [eD lot,.int .u8 nb,.agg [.int .u8 c0,.int .u8 c1]] (·=.d (.bool true)):=by
 refine callP_of_W fol zz1_cp ?_
 have hs:=sanity_ok
 obtain ⟨d1,d2,d3,d4⟩:=dgOk lot.2
 have d5:=lot.2
 have m1:min (c0:Int) (c1:Int)=((min c0 c1:Nat):Int):=by omega
 have m2:max (c0:Int) (c1:Int)=((max c0 c1:Nat):Int):=by omega
 have q1:(nb:Int).tmod 201=((nb % 201:Nat):Int):=tmod_nat nb 201
 have p1:nb % 201 < 201:=Nat.mod_lt _ (by decide)
 generalize nb % 201=n at *
 have q2:=tmodN (min c0 c1) n
 have q3:=tmodN (max c0 c1) n
 have p2:min c0 c1 % (n + 1) < n + 1:=Nat.mod_lt _ (by omega)
 have p3:max c0 c1 % (n + 1) < n + 1:=Nat.mod_lt _ (by omega)
 have u1:min c0 c1 < 256:=by omega
 have u2:max c0 c1 < 256:=by omega
 generalize min c0 c1=u at *
 generalize max c0 c1=v at *
 generalize u % (n + 1)=a0 at *
 generalize v % (n + 1)=b0 at *
 have m3:min (a0:Int) (b0:Int)=((min a0 b0:Nat):Int):=by omega
 have m4:max (a0:Int) (b0:Int)=((max a0 b0:Nat):Int):=by omega
 have hab:min a0 b0≤max a0 b0:=by omega
 have hbn:max a0 b0≤n:=by omega
 generalize min a0 b0=a at *
 generalize max a0 b0=b at *
 have ho:=Order_ok lot n (by omega)
 have hca:=Challenge_ok lot n a (by omega) (by omega)
 have hcb:=Challenge_ok lot n b (by omega) hbn
 rw [chal_plc] at hca hcb
 have hfl:=plc_len (lot:=lot) (n:=n) (c:=a) (by omega)
 have hkl:=plc_len (lot:=lot) (n:=n) hbn
 have hol:=ordO_len lot n
 have hod:=ordO_nodup lot n
 have holt:∀ k ∈ ordO lot n,k < n:=fun k hk=>ordO_lt hk
 have hmt:=plc_mt (lot:=lot) hab (by omega:a≤n)
 have hup:=plc_up lot n b
 have hlt:∀ k ∈ plc lot n b,k < n:=fun k hk=>plc_lt hk
 generalize plc lot n a=F at *
 generalize plc lot n b=K at *
 generalize ordO lot n=O at *
 have hoi:(O.length:Int)=(n:Int):=by rw [hol]
 have hfi:(F.length:Int)=(a:Int):=by rw [hfl]
 have hki:(K.length:Int)=(b:Int):=by rw [hkl]
 obtain ⟨z,hz⟩:∃ z,z=zr 201 (D.bool false):=⟨_,rfl⟩
 have ze:zr 201 (D.bool false)=z:=hz.symm
 have zl:z.length=201:=by rw [hz,zr,List.length_replicate]
 rw [eD_mk] at ho hca hcb
 refine goS (nn eD_mk (nn d1 (nn d2 (nn d3 ze)))) ?_
 (refine goX3 (nn d1 (nn d2 (nn d3 (nn d5 (nn m1 (nn m2 (nn m3 (nn m4 (nn q1 (nn q2 (nn q3 (nn hol (nn hfl (nn hkl (nn ze zl))))))))))))))) (ho) (hca) (hcb) ?_; (repeat' (with_reducible apply Br.mk<;>intro _)))
 have hs0:z=seenL O 0:=by rw [seenL_zero,hz]
 refine W.loop (fun q st=>∃ (m:Nat) (c:List D),m≤n∧q=n - m∧c=seenL O m ∧
  st=(E [(99,.d (eN m)),(98,.d (eI n)),(97,.d (.list (O.map eN))),(16,.ptr 0 16 1 0),(7,.d (eI n)),(12,.d (.list ((F.map (askOf lot)).map eQ))),(14,.d (.list ((K.map (askOf lot)).map eQ)))],
   HB [(3,⟨1,some (lot.val.map eB)⟩),(5,⟨1,some [D.int .u8 c0,D.int .u8 c1]⟩),(16,⟨1,some c⟩)],[],noGh))
  ⟨_,_,stleB (by rfl),0,z,by omega,rfl,hs0,rfl⟩ ?_
 rintro q st ⟨m,c,hm,rfl,hc,rfl⟩
 have hcl:c.length=201:=by rw [hc,seenL_len]
 by_cases g1:(m:Int) < (n:Int)
 case pos =>
  have hmo:m < O.length:=by omega
  have hx:=holt _ (List.getElem_mem hmo)
  have hget:=seenL_get hmo hod (by omega)
  have hset:=seenL_set hmo
  rw [← hc] at hget hset
  generalize hy:O[m]=y at *
  have hdr:(List.drop (y * 1) c).head?=some (D.bool false):=by rw [Nat.mul_one,List.head?_drop,hget]
  have hy1:¬ (y:Int) < 0:=by omega
  have hy2:¬ (y:Int) ≥ (n:Int):=by omega
  have hy3:y * 1≤200:=by omega
  have hy4:y < 201:=by omega
  rw [List.set_eq_take_append_cons_drop,if_pos (by omega)] at hset
  have hset':List.take (y * 1) c ++ [D.bool true] ++ List.drop (y * 1 + 1) c=seenL O (m + 1):=by rw [Nat.mul_one,List.append_assoc]; exact hset
  (refine goX (nn g1 (nn hmo (nn hy (nn hy1 (nn hy2 (nn hy3 (nn hy4 (nn hcl hdr)))))))) ?_; (repeat' (with_reducible apply Br.mk<;>intro _)))
  refine ⟨_,_,?_,stleB (by rfl),m + 1,_,by omega,rfl,hset',rfl⟩
  omega
 obtain rfl:m=n:=by omega
 have hFm:(F.map (askOf lot)).length=a:=by rw [List.length_map,hfl]
 have hKm:(K.map (askOf lot)).length=b:=by rw [List.length_map,hkl]
 have hLK:∀ (i:Nat) (h1:i < K.length) (h2:i < (K.map (askOf lot)).length),(K.map (askOf lot))[i]=askOf lot K[i]:=fun i h1 h2=>List.getElem_map ..
 have hLF:∀ (i:Nat) (h1:i < F.length) (h2:i < (F.map (askOf lot)).length),(F.map (askOf lot))[i]=askOf lot F[i]:=fun i h1 h2=>List.getElem_map ..
 generalize K.map (askOf lot)=LK at *
 generalize F.map (askOf lot)=LF at *
 (refine goX g1 ?_; (repeat' (with_reducible apply Br.mk<;>intro _)))
 refine W.loop (fun q st=>∃ (k t:Nat) (b21:Blk),k≤b∧q=b - k∧t≤a∧mt (F.drop t) (K.drop k) + t=a ∧
  st=(E [(120,.d (eN k)),(119,.d (eI b)),(118,.d (.list (LK.map eQ))),(19,.d (eN t)),(7,.d (eI m)),(12,.d (.list (LF.map eQ))),(14,.d (.list (LK.map eQ)))],
   HB [(3,⟨1,some (lot.val.map eB)⟩),(5,⟨1,some [D.int .u8 c0,D.int .u8 c1]⟩),(16,⟨1,some c⟩),(21,b21)],[],noGh))
  ⟨_,_,stleB (HB_pad [(3,_),(5,_),(16,_)] [21] rfl).symm,0,0,_,by omega,rfl,by omega,by rw [List.drop_zero,List.drop_zero]; exact hmt,rfl⟩ ?_
 rintro q st ⟨k,t,b21,hk,rfl,ht,hm1,rfl⟩
 by_cases g2:(k:Int) < (b:Int)
 case pos =>
  have hkK:k < K.length:=by omega
  obtain ⟨kx,hx0⟩:∃ x,K[k]=x:=⟨_,rfl⟩
  have hxl:kx < m:=by rw [← hx0]; exact hlt _ (List.getElem_mem hkK)
  obtain ⟨ky,hy0⟩:∃ y,(askOf lot kx).2=y:=⟨_,rfl⟩
  have hyl:1≤ky∧ky < 2147483647:=by
   have:ky=1 + red (undr lot.1 2 kx) % 2147483646:=hy0.symm
   have:=Nat.mod_lt (red (undr lot.1 2 kx)) (show 2147483646 > 0 by decide)
   omega
  have hk2:k < LK.length:=by omega
  have hq0:askOf lot kx=(kx,ky):=by rw [← hy0]; rfl
  have b1:¬ (kx:Int) < 0:=by omega
  have b2:¬ (kx:Int) ≥ (m:Int):=by omega
  have b3:¬ (ky:Int) < 1:=by omega
  have b4:¬ (ky:Int) ≥ 2147483647:=by omega
  have hq1:LK[k]=(kx,ky):=by rw [hLK k hkK hk2,hx0]; exact hq0
  by_cases k00:(k:Int) > 0
  case neg =>
   have k01:¬ (0:Int) < (k:Int):=k00
   by_cases g3:(t:Int) < (a:Int)
   case neg =>
    have hnx:mt (F.drop t) (K.drop (k + 1)) + t=a:=by
     have:F.drop t=[]:=List.drop_of_length_le (by omega)
     rw [this,mt_nil]; omega
    (refine goX (nn g2 (nn hkK (nn hk2 (nn hq1 (nn b1 (nn b2 (nn b3 (nn b4 (nn k00 (nn g3 (nn hFm hKm))))))))))) ?_; (repeat' (with_reducible apply Br.mk<;>intro _)))
    refine ⟨_,_,?_,stleB (by rfl),k + 1,t,_,by omega,rfl,ht,hnx,rfl⟩
    omega
   have htF:t < F.length:=by omega
   have ht2:t < LF.length:=by omega
   have hq2:LF[t]=(F[t],(askOf lot F[t]).2):=by rw [hLF t htF ht2]; rfl
   by_cases g4:F[t]=kx
   · have hnx:mt (F.drop (t + 1)) (K.drop (k + 1)) + (t + 1)=a:=by have:=mt_hit htF hkK (g4.trans hx0.symm); omega
     have hq3:LF[t]=(kx,ky):=by rw [hLF t htF ht2,g4]; exact hq0
     (refine goX (nn g2 (nn hkK (nn hk2 (nn hq1 (nn b1 (nn b2 (nn b3 (nn b4 (nn k00 (nn g3 (nn hFm (nn hKm (nn htF (nn ht2 hq3)))))))))))))) ?_; (repeat' (with_reducible apply Br.mk<;>intro _)))
     refine ⟨_,_,?_,stleB (by rfl),k + 1,t + 1,_,by omega,rfl,by omega,hnx,rfl⟩
     omega
   · have hnx:mt (F.drop t) (K.drop (k + 1)) + t=a:=by have:=mt_miss htF hkK (fun e=>g4 (e.trans hx0)); omega
     generalize F[t]=f at *
     generalize (askOf lot f).2=fy at *
     have g5:¬ (f:Int)=(kx:Int):=by omega
     (refine goX (nn g2 (nn hkK (nn hk2 (nn hq1 (nn b1 (nn b2 (nn b3 (nn b4 (nn k00 (nn g3 (nn g5 (nn hFm (nn hKm (nn htF (nn ht2 hq2))))))))))))))) ?_; (repeat' (with_reducible apply Br.mk<;>intro _)))
     refine ⟨_,_,?_,stleB (by rfl),k + 1,t,_,by omega,rfl,ht,hnx,rfl⟩
     omega
  · obtain ⟨j,hkj⟩:∃ j,k=j + 1:=⟨k - 1,by omega⟩
    have hjK:j < K.length:=by omega
    have hju:K[j] < kx:=by rw [← hx0]; exact List.pairwise_iff_getElem.1 hup j k hjK hkK (by omega)
    have hj2:j < LK.length:=by omega
    have hq5:LK[j]=(K[j],(askOf lot K[j]).2):=by rw [hLK j hjK hj2]; rfl
    obtain ⟨jx,hjx⟩:∃ x,K[j]=x:=⟨_,rfl⟩
    rw [hjx] at hju hq5
    generalize (askOf lot jx).2=jy at hq5
    have b5:¬ (kx:Int)≤(jx:Int):=by omega
    have b7:(k:Int) - 1=(j:Int):=by omega
    by_cases g3:(t:Int) < (a:Int)
    case neg =>
     have hnx:mt (F.drop t) (K.drop (k + 1)) + t=a:=by
      have:F.drop t=[]:=List.drop_of_length_le (by omega)
      rw [this,mt_nil]; omega
     (refine goX (nn g2 (nn hkK (nn hj2 (nn hk2 (nn hq1 (nn hq5 (nn b1 (nn b2 (nn b3 (nn b4 (nn b5 (nn k00 (nn b7 (nn g3 (nn hFm hKm))))))))))))))) ?_; (repeat' (with_reducible apply Br.mk<;>intro _)))
     refine ⟨_,_,?_,stleB (by rfl),k + 1,t,_,by omega,rfl,ht,hnx,rfl⟩
     omega
    have htF:t < F.length:=by omega
    have ht2:t < LF.length:=by omega
    have hq2:LF[t]=(F[t],(askOf lot F[t]).2):=by rw [hLF t htF ht2]; rfl
    by_cases g4:F[t]=kx
    · have hnx:mt (F.drop (t + 1)) (K.drop (k + 1)) + (t + 1)=a:=by have:=mt_hit htF hkK (g4.trans hx0.symm); omega
      have hq3:LF[t]=(kx,ky):=by rw [hLF t htF ht2,g4]; exact hq0
      (refine goX (nn g2 (nn hkK (nn hj2 (nn hk2 (nn hq1 (nn hq5 (nn b1 (nn b2 (nn b3 (nn b4 (nn b5 (nn k00 (nn b7 (nn g3 (nn hFm (nn hKm (nn htF (nn ht2 hq3)))))))))))))))))) ?_; (repeat' (with_reducible apply Br.mk<;>intro _)))
      refine ⟨_,_,?_,stleB (by rfl),k + 1,t + 1,_,by omega,rfl,by omega,hnx,rfl⟩
      omega
    · have hnx:mt (F.drop t) (K.drop (k + 1)) + t=a:=by have:=mt_miss htF hkK (fun e=>g4 (e.trans hx0)); omega
      generalize F[t]=f at *
      generalize (askOf lot f).2=fy at *
      have g5:¬ (f:Int)=(kx:Int):=by omega
      (refine goX (nn g2 (nn hkK (nn hj2 (nn hk2 (nn hq1 (nn hq5 (nn b1 (nn b2 (nn b3 (nn b4 (nn b5 (nn k00 (nn b7 (nn g3 (nn g5 (nn hFm (nn hKm (nn htF (nn ht2 hq2))))))))))))))))))) ?_; (repeat' (with_reducible apply Br.mk<;>intro _)))
      refine ⟨_,_,?_,stleB (by rfl),k + 1,t,_,by omega,rfl,ht,hnx,rfl⟩
      omega
 obtain rfl:k=b:=by omega
 have hta:t=a:=by
  rw [List.drop_of_length_le (l:=K) (by omega)] at hm1
  have:mt (F.drop t) []=0:=by cases F.drop t<;>rfl
  omega
 subst hta
 (refine goX1 (nn g2 hFm) (hs) ?_; (repeat' (with_reducible apply Br.mk<;>intro _)))
 exact Fin.p rfl rfl
end Go.Proofs.YtclmdhceceacoaaDoor
