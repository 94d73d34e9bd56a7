/-
 Layer 44: numbers collected and sorted.
 Conditions: of each contract as it says.
-/
import Derived.Test.YtclmdhceceacoaaGreatDoorH22
namespace Go.Proofs.YtclmdhceceacoaaGreatDoor
open Go Go.E2 CW CH C44 Go.RowKit
set_option linter.unusedSimpArgs false
set_option maxHeartbeats 4000000
theorem Values_ok (l:List D) (R:List As) (G:Gh) (hs:Sep R G) (σ:List Hp):CallT Tryz.prog f_zz10 ([.list l].map .d) σ G fun r σ' G'=>σ'=σ∧∃ b,r=.d (.clo f_zz8 [.gp b 0])∧Sep (CellA b [.list l]::R) G':=by
 refine callT_of_W fol zz10_cp ?_
 refine goS trivial ?_
 refine goR trivial ?_
 refine wNew_mk fun b hb=>?_
 refine goS trivial ?_
 refine goR trivial ?_
 exact Fin.eq rfl ⟨rfl,b,rfl,Sep.new hb hs⟩
theorem values1_ok (l:List Nat) (hl:l.length≤100000) (b lo:Nat) (J:Nat→Gh→Prop) (hJ:∀ k G,J k G→G.c b=some [.list (l.map eN)])
 (hstep:∀ i (h:i < l.length) G σ,J i G→CallY Tryz.prog lo [eN l[i]] σ G fun r σ' G'=>σ'=σ∧r=.d (.bool true)∧J (i + 1) G')
 (σ:List Hp) (G:Gh) (h0:J 0 G):CallT Tryz.prog f_zz8 ([.yld lo,.gp b 0].map .d) σ G fun _ σ' G'=>σ'=σ∧J l.length G':=by
 refine callT_of_W fol zz8_cp ?_
 have hb:=hJ _ _ h0
 refine goS trivial ?_
 (refine goX hb ?_; (repeat' (with_reducible apply Br.mk<;>intro _)))
 refine W.loop (fun m st=>∃ k G,k≤l.length∧m=l.length - k∧J k G∧st=(E [(7,.d (eN k)),(6,.d (eN l.length)),(5,.d (.list (l.map eN))),(0,.d (.yld lo))],HB [],σ,G))
  ⟨_,_,stle,0,G,Nat.zero_le _,rfl,h0,rfl⟩ ?_
 clear hb h0 G
 rintro m st ⟨k,G,hk,rfl,hj,rfl⟩
 refine goR trivial ?_
 refine wG_dec (fun h1=>?_) (fun h1=>?_)
 · have hi:k < l.length:=by omega
   (repeat (first|(with_reducible first|refine W.seq ?_|refine W.block ?_|refine W.scope ?_)|((with_reducible first|refine W.reg ?_|refine W.skip ?_|refine W.exit ?_|refine W.ret ?_|refine W.ifc ?_); simp -dsimp (disch:=first|omega|(simp only [go_sem]; omega)) only [go_sem,seval,Nat.reduceEqDiff,Nat.reduceLeDiff,Int.toNat_natCast])))
   apply wC_y (hstep k hi G _ hj)
   focus (simp -dsimp (disch:=first|omega|(simp only [go_sem]; omega)) only [go_sem,seval,Nat.reduceEqDiff,Nat.reduceLeDiff]<;>fail)
   focus (simp -dsimp (disch:=first|omega|(simp only [go_sem]; omega)) only [go_sem,seval,Nat.reduceEqDiff,Nat.reduceLeDiff]<;>rfl)
   rintro r G' ⟨rfl,hj'⟩
   refine goS trivial ?_
   refine goR trivial ?_
   refine ⟨_,_,?_,stle,k + 1,G',by omega,rfl,hj',rfl⟩
   omega
 · obtain rfl:k=l.length:=by omega
   refine goR trivial ?_
   exact Fin.eq rfl ⟨rfl,hj⟩
theorem argEnv1_le (l:List (Nat × AV)) (l':List (Nat × D)) (p:Nat) (x:D) (h:∀ p ∈ l',E l p.1=.d p.2):∀ i,VLe (argEnv (dataEnv (E l)) [p] [x] i) (E ((p,.d x)::l'.map fun p=>(p.1,.d p.2)) i):=by
 intro i
 have:=dataEnv_le l l' h i
 simp only [argEnv,upd,E]
 split
 · exact .refl _
 · exact this
abbrev lpAp (v:D) (b2:Nat):List (Nat × AV):=[(6,.d v),(2,.d (.gp b2 0))]
theorem AppendSeq_ok (l:List Nat) (hl:l.length≤1000) (b:Nat) (R:List As) (G:Gh) (hs:Sep (CellA b [.list (l.map eN)]::R) G) (σ:List Hp) :
 CallT Tryz.prog f_zz4 ([.nilS,.clo f_zz8 [.gp b 0]].map .d) σ G fun r σ' G'=>σ'=σ∧∃ x,r=.d x∧Sep (SlA 1 x (l.map eN)::R) G':=by
 refine callT_of_W fol zz4_cp ?_
 have hm:=mostBytes_eq
 refine goS trivial ?_
 refine goR trivial ?_
 refine wNew_mk fun b2 hb2=>?_
 have q2:=Sep.new (cs:=[.nilS]) hb2 hs
 revert q2
 refine goS trivial ?_
 generalize G.set b2 _=G0
 intro q2
 refine goR trivial ?_
 refine W.weaken (st_le (l':=lpAp (.clo f_zz8 [.gp b 0]) b2) (by (simp -dsimp (disch:=first|omega|(simp only [go_sem]; omega)) only [go_sem,seval,Nat.reduceEqDiff,Nat.reduceLeDiff]<;>((repeat' apply And.intro)<;>first|exact VLe.refl _|(apply vle_int; omega)|(apply vle_int; simp; done)|exact VLe.own _ _|exact VLe.nilown _|exact VLe.norm _)))) ?_
 refine W.rangeF (caps:=[.gp b 0]) (called_of_compile zz8_cp) (by simp -dsimp (disch:=first|omega|(simp only [go_sem]; omega)) only [go_sem,seval,Nat.reduceEqDiff,Nat.reduceLeDiff]) fun lo hlo=>?_
 have q3:Sep (CellA b2 [.nilS]::SlA 1 .nilS []::CellA b [.list (l.map eN)]::R) G0:=q2.cons fun _ h=>h.slNil
 have q0:=Sep.newM (o:=.loop Tryz.prog (E (lpAp (.clo f_zz8 [.gp b 0]) b2)) [7] slices_AppendSeq_int_int_y0a slices_AppendSeq_int_int_y0b) hlo q3
 refine (values1_ok l (by omega) b lo (fun k G=>∃ x,k≤l.length ∧
  Sep (ObjA lo (.loop Tryz.prog (E (lpAp (.clo f_zz8 [.gp b 0]) b2)) [7] slices_AppendSeq_int_int_y0a slices_AppendSeq_int_int_y0b)::CellA b2 [x]::SlA 1 x ((l.take k).map eN)::CellA b [.list (l.map eN)]::R) G)
  (fun k G ⟨x,_,h⟩=>h.tail.tail.tail.get) ?_ _ _ ⟨.nilS,Nat.zero_le _,q0⟩).mono ?_
 · rintro k hk G σ ⟨x,hk2,hq⟩
   have htk:(l.take (k + 1)).map eN=(l.take k).map eN ++ [eN l[k]]:=by rw [List.take_succ_eq_append_getElem hk,List.map_append]; rfl
   have hlk:(l.take k).length≤1000:=by rw [List.length_take]; omega
   have hm2:=hq.getM
   refine callY_of_W fol hm2 rfl (argEnv1_le _ [(2,.gp b2 0)] 7 (eN l[k]) (by simp [E])) ?_
   generalize l[k]=lk at htk
   have hd:=sep_dropM hq
   revert hd
   have hml:(G.setM lo none).m lo=none:=by simp
   revert hml
   generalize G.setM lo none=G3
   intro hml hd
   have c2:=hd.get
   have hv:=hd.tail.gv
   rcases hv.shape with rfl|⟨b0,n0,c0,rfl⟩
   all_goals
    refine goS trivial ?_
    (refine goX c2 ?_; (repeat' (with_reducible apply Br.mk<;>intro _)))
    refine appV_GV2 hv (viewC_list (es:=[eN lk]) rfl) rfl rfl rfl (by rw [List.length_map,hm]; show (_ + 1) * 8≤_; omega) fun x' G5 hg hto=>?_
    obtain ⟨b9,c9,cs9,hxe,_,_⟩:=hg.inv (by simp)
    generalize (List.map eN (List.take k l) ++ [eN lk]).length=n9 at hxe
    subst hxe
    have hd2:=(hd.swap.grow hto (es':=(l.take (k + 1)).map eN) (by rw [htk]; exact hg)).swap
    have hml5:G5.m lo=none:=by rw [hto.m]; exact hml
    have c25:=hd2.get
    refine goS trivial ?_
    (refine goX c25 ?_; (repeat' (with_reducible apply Br.mk<;>intro _)))
    exact ⟨rfl,rfl,_,by omega,Sep.newM hml5 (Sep.set hd2)⟩
 · rintro r lv G' ⟨rfl,x,hx,hq⟩
   refine ⟨rfl,.inl ⟨hq.getM,?_⟩⟩
   have hd:=sep_dropM hq
   revert hd
   generalize G'.setM lo none=G3
   intro hd
   have c2:=hd.get
   refine goS trivial ?_
   refine goR c2 ?_
   rw [List.take_length] at hd
   exact Fin.eq (r:=.d x) (by simp -dsimp (disch:=first|omega|(simp only [go_sem]; omega)) only [go_sem,seval,Nat.reduceEqDiff,Nat.reduceLeDiff]) ⟨rfl,x,rfl,hd.tail.swap.tail⟩
theorem Collect_ok (l:List Nat) (hl:l.length≤1000) (b:Nat) (R:List As) (G:Gh) (hs:Sep (CellA b [.list (l.map eN)]::R) G) (σ:List Hp) :
 CallT Tryz.prog f_zz20 ([.clo f_zz8 [.gp b 0]].map .d) σ G fun r σ' G'=>σ'=σ∧∃ x,r=.d x∧Sep (SlA 1 x (l.map eN)::R) G':=by
 refine callT_of_W fol zz20_cp ?_
 refine goS trivial ?_
 refine goR trivial ?_
 apply wC_g (AppendSeq_ok l hl b R G hs _)
 focus (simp -dsimp (disch:=first|omega|(simp only [go_sem]; omega)) only [go_sem,seval,Nat.reduceEqDiff,Nat.reduceLeDiff]<;>fail)
 focus (simp -dsimp (disch:=first|omega|(simp only [go_sem]; omega)) only [go_sem,seval,Nat.reduceEqDiff,Nat.reduceLeDiff]<;>rfl)
 rintro _ G2 ⟨x,rfl,q⟩
 refine goS trivial ?_
 refine goR trivial ?_
 exact Fin.eq (r:=.d x) (by simp -dsimp (disch:=first|omega|(simp only [go_sem]; omega)) only [go_sem,seval,Nat.reduceEqDiff,Nat.reduceLeDiff]) ⟨rfl,x,rfl,q⟩
theorem Sorted_ok (l:List Nat) (hl:l.length≤1000) (b:Nat) (R:List As) (G:Gh) (hs:Sep (CellA b [.list (l.map eN)]::R) G) (σ:List Hp) :
 CallT Tryz.prog f_zz23 ([.clo f_zz8 [.gp b 0]].map .d) σ G fun r σ' G'=>σ'=σ∧∃ x,r=.d x∧Sep (SlA 1 x ((sorted (l.map fun k:Nat=>(k:Int))).map eI)::R) G':=by
 refine callT_of_W fol zz23_cp ?_
 refine goS trivial ?_
 refine goR trivial ?_
 apply wC_g (Collect_ok l hl b R G hs _)
 focus (simp -dsimp (disch:=first|omega|(simp only [go_sem]; omega)) only [go_sem,seval,Nat.reduceEqDiff,Nat.reduceLeDiff]<;>fail)
 focus (simp -dsimp (disch:=first|omega|(simp only [go_sem]; omega)) only [go_sem,seval,Nat.reduceEqDiff,Nat.reduceLeDiff]<;>rfl)
 rintro _ G2 ⟨x,rfl,q⟩
 have e:l.map eN=(l.map fun k:Nat=>(k:Int)).map eI:=by rw [List.map_map]; rfl
 rw [e] at q
 refine goS trivial ?_
 refine goR trivial ?_
 (refine goM (Sort_ok x (l.map fun k:Nat=>(k:Int)) (by rw [List.length_map]; omega)) (q) ?_)
 rintro _ _ G3 rfl q3
 refine goS trivial ?_
 refine goR trivial ?_
 exact Fin.eq (r:=.d x) (by simp -dsimp (disch:=first|omega|(simp only [go_sem]; omega)) only [go_sem,seval,Nat.reduceEqDiff,Nat.reduceLeDiff]) ⟨rfl,x,rfl,q3⟩
end Go.Proofs.YtclmdhceceacoaaGreatDoor
/-
 Layer 44: Challenge of the program.
 Conditions: of each contract as it says.
-/
namespace Go.Proofs.YtclmdhceceacoaaGreatDoor
open Go Go.E2 CW CH C44 Go.RowKit
set_option linter.unusedSimpArgs false
set_option maxHeartbeats 4000000
def sortN (l:List Nat):List Nat:=l.mergeSort fun x y=>decide (x≤y)
theorem sorted_N (l:List Nat):(sorted (l.map fun k:Nat=>(k:Int))).map eI=(sortN l).map eN:=by
 have:(sortN l).map (fun k:Nat=>(k:Int))=sorted (l.map fun k:Nat=>(k:Int)):=by
  unfold sortN sorted
  exact List.map_mergeSort fun a _ b _=>by simp
 rw [← this,List.map_map]; rfl
def askOf (lot:Dg) (k:Nat):Nat × Nat:=(k,1 + red (undr lot.1 2 k) % 2147483646)
def chal (lot:Dg) (n c:Nat):List (Nat × Nat):=(sortN ((ordO lot n).take c)).map (askOf lot)
theorem ordO_len (lot:Dg) (n:Nat):(ordO lot n).length=n:=by rw [ordO,(ordL_perm _ _).length_eq,List.length_range]
theorem ordO_lt {lot:Dg} {n k:Nat} (h:k ∈ ordO lot n):k < n:=List.mem_range.1 ((ordL_perm _ _).mem_iff.1 h)
theorem sortN_mem {l:List Nat} {k:Nat}:k ∈ sortN l↔k ∈ l:=(List.mergeSort_perm _ _).mem_iff
theorem sortN_len (l:List Nat):(sortN l).length=l.length:=(List.mergeSort_perm _ _).length_eq
def cBad (n c:Int):Prop:=(n < 0∨1000 < n)∨c < 0∨n < c
theorem Challenge_bad (lot:Dg) (n c:Int) (h:cBad n c):CallP Tryz.prog f_zz31 [eD lot,eI n,eI c] (·=.tup [.nilS,eI 3]):=by
 refine callP_of_W fol zz31_cp ?_
 obtain ⟨d1,d2,d3,d4⟩:=dgOk lot.2
 have d5:=lot.2
 by_cases h0:n < 0∨1000 < n
 · have ho:=Order_bad lot n h0
   rw [eD_mk] at ho ⊢
   refine goS (nn d1 (nn d2 d3)) ?_
   (refine goX1 (nn d1 (nn d2 (nn d3 d5))) (ho) ?_; (repeat' (with_reducible apply Br.mk<;>intro _)))
   exact Fin.p rfl rfl
 obtain ⟨m,rfl⟩:∃ m:Nat,n=(m:Int):=⟨n.toNat,by omega⟩
 have ho:=Order_ok lot m (by omega)
 rw [eD_mk] at ho ⊢
 by_cases h1:c < 0
 · refine goS (nn d1 (nn d2 d3)) ?_
   (refine goX1 (nn d1 (nn d2 (nn d3 (nn d5 h1)))) (ho) ?_; (repeat' (with_reducible apply Br.mk<;>intro _)))
   exact Fin.p rfl rfl
 · have h2:c > (m:Int):=by unfold cBad at h; omega
   refine goS (nn d1 (nn d2 d3)) ?_
   (refine goX1 (nn d1 (nn d2 (nn d3 (nn d5 (nn h1 h2))))) (ho) ?_; (repeat' (with_reducible apply Br.mk<;>intro _)))
   exact Fin.p rfl rfl
theorem Challenge_ok (lot:Dg) (n c:Nat) (hn:n≤1000) (hc:c≤n):CallP Tryz.prog f_zz31 [eD lot,eN n,eN c] (·=.tup [.list ((chal lot n c).map eQ),eI 0]):=by
 refine CallP.of_deep (callT_of_W fol zz31_cp ?_)
 have hm:=mostBytes_eq
 obtain ⟨d1,d2,d3,d4⟩:=dgOk lot.2
 have d5:=lot.2
 have h1:¬ (c:Int) < 0:=by omega
 have h2:¬ (c:Int) > (n:Int):=by omega
 have h3:c≤n:=hc
 have ho:=Order_ok lot n hn
 have hol:=ordO_len lot n
 rw [eD_mk] at ho ⊢
 generalize hoo:ordO lot n=oo at *
 refine goS (nn d1 (nn d2 d3)) ?_
 have htk:List.take c (List.map eN oo)=(oo.take c).map eN:=by rw [List.map_take]
 have htl:(oo.take c).length=c:=by rw [List.length_take]; omega
 (refine goX1 (nn d1 (nn d2 (nn d3 (nn d5 (nn h1 (nn h2 (nn hol (nn h3 htk)))))))) (ho) ?_; (repeat' (with_reducible apply Br.mk<;>intro _)))
 apply wC_g (Values_ok ((oo.take c).map eN) [] noGh Sep.nil _)
 focus (simp -dsimp (disch:=first|omega|(simp only [go_sem]; omega)) only [go_sem,seval,Nat.reduceEqDiff,Nat.reduceLeDiff]<;>fail)
 focus (simp -dsimp (disch:=first|omega|(simp only [go_sem]; omega)) only [go_sem,seval,Nat.reduceEqDiff,Nat.reduceLeDiff]<;>rfl)
 rintro _ G2 ⟨b,rfl,q⟩
 refine goS trivial ?_
 refine goR trivial ?_
 apply wC_g (Sorted_ok (oo.take c) (by omega) b [] G2 q _)
 focus (simp -dsimp (disch:=first|omega|(simp only [go_sem]; omega)) only [go_sem,seval,Nat.reduceEqDiff,Nat.reduceLeDiff]<;>fail)
 focus (simp -dsimp (disch:=first|omega|(simp only [go_sem]; omega)) only [go_sem,seval,Nat.reduceEqDiff,Nat.reduceLeDiff]<;>rfl)
 rintro _ G3 ⟨x,rfl,q3⟩
 rw [sorted_N] at q3
 have hv:=q3.gv
 have hsl:(sortN (oo.take c)).length=c:=by rw [sortN_len,htl]
 have hlt:∀ k ∈ sortN (oo.take c),k < n:=fun k hk=>by
  have:=List.mem_of_mem_take (sortN_mem.1 hk)
  rw [← hoo] at this
  exact ordO_lt this
 have hch:chal lot n c=(sortN (oo.take c)).map (askOf lot):=by rw [chal,hoo]
 rw [hch]
 generalize sortN (oo.take c)=l at *
 have hls:vLen false (some x)=some (.d (.int .i64 (l.length:Int))):=by have:=hv.len; rwa [List.length_map] at this
 clear q3 q htk htl ho
 refine goS hls ?_
 (refine goX hls ?_; (repeat' (with_reducible apply Br.mk<;>intro _)))
 refine W.loop (fun q st=>∃ (k:Nat) (out:List (Nat × Nat)),k≤l.length∧q=l.length - k∧out=(l.take k).map (askOf lot) ∧
  st=(E [(38,.d (eN k)),(37,.d (eN l.length)),(36,.d x),(10,.own 2 (out.map eQ)),(3,.ptr 0 3 1 0)],HB [(3,⟨1,some (lot.1.map eB)⟩)],[],G3))
  ⟨_,_,stleB (by rfl),0,[],by omega,rfl,rfl,rfl⟩ ?_
 rintro q st ⟨k,out,hk,rfl,hout,rfl⟩
 have hol2:out.length=k:=by rw [hout,List.length_map,List.length_take]; omega
 by_cases g1:(k:Int) < (l.length:Int)
 case neg =>
  obtain rfl:k=l.length:=by omega
  rw [List.take_length] at hout
  (refine goX g1 ?_; (repeat' (with_reducible apply Br.mk<;>intro _)))
  exact Fin.eq (r:=.tup [.list (out.map eQ),eI 0]) (by simp -dsimp (disch:=first|omega|(simp only [go_sem]; omega)) only [go_sem,seval,Nat.reduceEqDiff,Nat.reduceLeDiff]; try rfl) ⟨rfl,_,.refl _,by rw [hout]⟩
 have hk':k < l.length:=by omega
 obtain ⟨b0,c0,cs,rfl,hb0,hr⟩:=hv.inv (by intro e; rw [List.map_eq_nil_iff] at e; rw [e] at hk'; simp at hk')
 rw [List.length_map] at hls hr
 have hget:vCells false 1 (some cs) (k * 1)=some (.d (eN l[k])):=by
  have:=hr.fld (i:=k) (j:=0) (by simpa using hk') (by omega)
  rw [Nat.add_zero] at this
  rw [this,List.getElem_map]; rfl
 have hlk:=hlt _ (List.getElem_mem hk')
 have htk:l.take (k + 1)=l.take k ++ [l[k]]:=List.take_succ_eq_append_getElem hk'
 have hu:=under_ok lot.1 lot.2 2 (l[k]:Int) (i64_nat (n:=2) (by omega)) (i64_nat (by omega))
 have hrd:=reduce_ok (undr lot.1 2 (l[k]:Int)) (undr_len _ _ _)
 have hak:askOf lot l[k]=(l[k],1 + red (undr lot.1 2 l[k]) % 2147483646):=rfl
 generalize l[k]=lk at *
 generalize undr lot.1 2 (lk:Int)=ud at hu hrd hak
 have hrl:red ud < 2147483647:=Nat.mod_lt _ (by decide)
 generalize red ud=rd at hrd hak hrl
 unfold eDg at hu hrd
 have hmod:((rd:Nat):Int).tmod 2147483646=((rd % 2147483646:Nat):Int):=by
  rw [Int.tmod_eq_emod_of_nonneg (Int.natCast_nonneg _)]; rfl
 have hml:rd % 2147483646 < 2147483646:=Nat.mod_lt _ (by decide)
 generalize rd % 2147483646=rm at hmod hak hml
 have hadd:(1:Int) + ((rm:Nat):Int)=((1 + rm:Nat):Int):=rfl
 have hel:out.map eQ ++ [.agg [eN lk,eN (1 + rm)]]=((l.take (k + 1)).map (askOf lot)).map eQ:=by
  rw [htk,List.map_append,List.map_append,← hout,List.map_cons,List.map_nil,hak]; rfl
 generalize hout2:(l.take (k + 1)).map (askOf lot)=out2 at hel
 (refine goX2 (nn g1 (nn d1 (nn d2 (nn d3 (nn d5 (nn hk' (nn hb0 (nn hget (nn hmod (nn hadd (nn hel hol2))))))))))) (hu) (hrd) ?_; (repeat' (with_reducible apply Br.mk<;>intro _)))
 refine ⟨_,_,?_,stleB (by rfl),k + 1,out2,by omega,rfl,hout2.symm,rfl⟩
 omega
end Go.Proofs.YtclmdhceceacoaaGreatDoor
/-
 Layer 44: the examples,counted by the kernel.
 Conditions: none.
-/
namespace Go.Proofs.YtclmdhceceacoaaGreatDoor
open Go Go.E2 CW CH C44
set_option linter.unusedSimpArgs false
set_option maxHeartbeats 4000000
def tA:Tk:=⟨1,1,marksL 1 5 1 2⟩
def tB:Tk:=⟨2,2,marksL 2 7 2 3⟩
def oddD:Dg:=⟨1::List.replicate 15 0,by simp⟩
def tO:Tk:=⟨1,1,[oddD,mk3 1 2 5]⟩
def sB (i:Nat):Nat:=shr 2 7 i 2
theorem shA:shares 1 5 1 2=[5,5]:=by decide +kernel
theorem mkA:marksL 1 5 1 2=[mk3 1 1 5,mk3 1 2 5]:=by decide +kernel
theorem shB:shares 2 7 2 3=[sB 1,sB 2,sB 3]:=rfl
theorem mkB:marksL 2 7 2 3=[mk3 2 1 (sB 1),mk3 2 2 (sB 2),mk3 2 3 (sB 3)]:=rfl
theorem sa1:reco tA [⟨2,5⟩]=(5,0):=by decide +kernel
theorem sa2:reco tA [⟨2,6⟩]=(0,8):=by decide +kernel
theorem sa3:reco tO [⟨2,5⟩]=(0,23):=by decide +kernel
theorem sa4:reco tB [⟨3,sB 3⟩,⟨1,sB 1⟩]=(7,0):=by decide +kernel
theorem sa5:reco tA [⟨1,5⟩]=(5,0):=by decide +kernel
theorem sa6:reco tB [⟨1,sB 1⟩,⟨2,sB 2⟩]=(7,0):=by decide +kernel
theorem sa7:okT [tA,tB]=true:=by decide +kernel
theorem sa8:tA.valid=true:=by decide +kernel
theorem sa9:fits tA ⟨2,5⟩=true:=by decide +kernel
theorem saD:draw [tA,tB] [[⟨1,5⟩],[⟨1,sB 1⟩,⟨2,sB 2⟩]]=⟨lotOf [0,1,5,2,7],[1,2],[],0⟩:=by
 have z1:rc (tA,[⟨1,5⟩])=(5,0):=sa5
 have z2:rc (tB,[⟨1,sB 1⟩,⟨2,sB 2⟩])=(7,0):=sa6
 unfold draw
 rw [if_neg (by rw [sa7]; decide)]
 simp only [List.zip_cons_cons,List.zip_nil_right,List.any_cons,List.any_nil,z1,z2,dNm,dIn,dEx,List.flatMap_cons,List.flatMap_nil]
 rfl
end Go.Proofs.YtclmdhceceacoaaGreatDoor
