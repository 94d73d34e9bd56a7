/-
 Layer 21 (disk),continued: the sectors with open writes.
 Conditions: of each contract as it says.
-/
import Derived.Test.YtioojmlhmhgeeaaF22s
import Derived.Test.YtioojmlhmhgeeaaS22
namespace Go.Proofs.Ytioojmlhmhgeeaa
open Go Go.E2 C22
set_option linter.unusedSimpArgs false
set_option maxHeartbeats 1000000
theorem sorted_keys {d:Dk} {m:List (Int × D)} (hop:OpOk d m) (hnd:(m.map (·.1)).Nodup) {l:List Int} (hp:l.Perm (m.map (·.1))):sorted l=opened d:=by
 have s1:(sorted l).Pairwise (·≤·):=by
  have:=List.pairwise_mergeSort (le:=fun x y:Int=>decide (x≤y)) (by intro a b c; simp; omega) (by intro a b; simp; omega) l
  exact this.imp (by simp)
 have p1:(sorted l).Perm l:=List.mergeSort_perm _ _
 have s2:(opened d).Pairwise (· < ·):=by
  unfold opened
  rw [List.pairwise_map]
  exact (List.pairwise_lt_range.filter _).imp (by omega)
 have n2:(opened d).Nodup:=s2.imp (by omega)
 have n1:(sorted l).Nodup:=((p1.trans hp).nodup_iff).2 hnd
 have mem:∀ i,i ∈ sorted l↔i ∈ opened d:=by
  intro i
  rw [(p1.trans hp).mem_iff]
  have hk:i ∈ m.map (·.1)↔opAt d i ≠ []:=by
   rw [← hop.has i]
   cases hg:mget m i with
   | none=>simp [mget_none.1 hg]
   | some v=>simp [List.mem_map.2 ⟨_,mget_mem hg,rfl⟩]
  rw [hk]
  unfold opened
  simp only [List.mem_map,List.mem_filter,List.mem_range,decide_eq_true_eq]
  constructor
  · intro h
    have:=opAt_in h
    exact ⟨i.toNat,⟨by omega,by rw [show ((i.toNat:Nat):Int)=i from by omega]; exact h⟩,by omega⟩
  · rintro ⟨k,⟨_,h⟩,rfl⟩; exact h
 have pm:(sorted l).Perm (opened d):=(List.perm_ext_iff_of_nodup n1 n2).2 mem
 exact pm.eq_of_pairwise (le:=(·≤·)) (fun a b _ _ h1 h2=>by omega) s1 (s2.imp (by omega))
theorem nodup_sub_len:∀ {l l':List Int},l.Nodup→l ⊆ l'→l.length≤l'.length
 | [],_,_,_=>by simp
 | a::l,l',hn,hs=>by
   rw [List.nodup_cons] at hn
   have ha:a ∈ l':=hs List.mem_cons_self
   have ih:=nodup_sub_len (l':=l'.erase a) hn.2 fun x hx=>(List.mem_erase_of_ne (fun (e:x=a)=>hn.1 (by rw [← e]; exact hx))).2 (hs (List.mem_cons_of_mem _ hx))
   rw [List.length_erase_of_mem ha] at ih
   have:=List.length_pos_of_mem ha
   simp only [List.length_cons]
   omega
theorem perm_of_all {l l':List Int} (h1:l.Nodup) (h2:l'.Nodup) (h3:∀ i ∈ l,i ∈ l') (h4:∀ i ∈ l',i ∈ l):l.Perm l':=(List.perm_ext_iff_of_nodup h1 h2).2 fun i=>⟨h3 i,h4 i⟩
theorem sectors_ok (p:Nat) (d:Dk):CallS Try.prog f_zz15 [.gp p 0] [DiskA p d] (fun r post=>∃ x,r=.d x∧post=[SlA 1 x ((opened d).map eI),DiskA p d]):=by
 refine callS_of_W fol zz15_cp fun R G σ hs=>?_
 obtain ⟨cb,r,cap,m,hd⟩:=DiskP.open hs
 have hc:=hd.cell
 have hmost:=hd.ok.most
 refine goS trivial ?_
 refine goR hc ?_
 refine wGn_rng hd.map fun it X hit hr=>?_
 have hq:=hd.walk hit hr
 refine goS trivial ?_
 refine goR trivial ?_
 have hml:m.length≤65536:=by
  have h1:(m.map (·.1)).Nodup:=hd.map.nodup
  have h2:(m.map (·.1)) ⊆ (List.range d.cs.length).map fun (i:Nat)=>(i:Int):=by
   intro i hi
   obtain ⟨q,hq,rfl⟩:=List.mem_map.1 hi
   have:=(hd.op.has q.1).1 (by rw [mget_of_mem h1 (v:=q.2) hq]; rfl)
   have:=opAt_in this
   exact List.mem_map.2 ⟨q.1.toNat,List.mem_range.2 (by omega),by omega⟩
  have:=nodup_sub_len h1 h2
  simp at this
  omega
 refine W.loop (fun n st=>∃ (sn:List Int) (x:D) (G:Gh),n=m.length - sn.length∧sn.length≤m.length∧sn.Nodup∧(∀ i ∈ sn,i ∈ m.map (·.1))∧DiskQ p d (SlA 1 x (sn.map eI)::R) G cb r cap m it sn ∧
  st=(E [(3,.d x),(9,.d (.gp it 0))],HB [],σ,G))
  ⟨_,_,stle,[],.nilS,_,rfl,by simp,by simp,by simp,?_,rfl⟩ ?_
 · exact ⟨hq.ok,hq.op,hq.sep.cons fun _ hh=>hh.cons fun _ hh=>hh.cons fun _ hh=>hh.cons fun _=>Sep.slNil⟩
 rintro n st ⟨sn,x,G3,rfl,hsl,hsn,hsk,hq,rfl⟩
 refine goR trivial ?_
 have hv:=(Sep.f5 hq.sep).gv
 refine wGn_nxt hq.rng (fun hall=>?_) (fun a v X hav hns hr hent=>?_)
 · refine goS trivial ?_
   refine goR trivial ?_
   have hperm:sn.Perm (m.map (·.1)):=perm_of_all hsn hq.rng.nodup hsk fun i hi=>by
    obtain ⟨q,hq',rfl⟩:=List.mem_map.1 hi
    exact hall q hq'
   have hso:=sorted_keys hd.op hq.rng.nodup hperm
   have h5:Sep ([SlA 1 x (sn.map eI)] ++ (DiskA p d::R)) G3:=(hq.done.sep.f5).cons fun G h=>(DiskP.close ⟨hq.ok,hq.op,h⟩)
   (refine goM (Sort_ok x sn (by omega)) (h5) ?_)
   rintro _ _ G4 rfl hs4
   refine goS trivial ?_
   (repeat' (first|(with_reducible first|refine W.seq ?_|refine W.block ?_)|((first|(with_reducible first|refine W.reg ?_|refine W.skip ?_|refine W.exit ?_|refine W.ret ?_|refine W.ifc ?_)|((with_reducible first|refine wG_decE (fun _ hG=>?_) (fun _ hG=>?_)|refine wG_decFE (fun _ hG=>?_) (fun _ hG=>?_))<;>(try simp -dsimp only [hG,decide_true,decide_false,not_true_eq_false,not_false_eq_true])<;>clear hG))<;>(try simp -dsimp (disch:=first|omega|(simp only [go_sem]; omega)) only [go_sem,seval,Nat.reduceEqDiff,Nat.reduceLeDiff]))|simp -dsimp (disch:=first|omega|(simp only [go_sem]; omega)) only [go_sem,seval,Nat.reduceEqDiff,Nat.reduceLeDiff]))
   rw [hso] at hs4
   exact Fin.eq rfl ⟨rfl,_,⟨x,rfl,rfl⟩,hs4⟩
 · have hq2:=hq.turn hr
   have hv2:GV 1 (G3.setM it (some X)) x (sn.map eI):=hv.of fun b c o n k _ e=>e
   have hal:a ∈ m.map (·.1):=List.mem_map.2 ⟨_,hav,rfl⟩
   have hsn':(sn ++ [a]).Nodup:=by
    rw [List.nodup_append]
    exact ⟨hsn,by simp,fun x hx y hy=>by rw [List.mem_singleton] at hy; subst hy; exact fun e=>hns (e ▸ hx)⟩
   have hlen':=nodup_sub_len hsn' (l':=m.map (·.1)) (fun i hi=>by
    rcases List.mem_append.1 hi with hi|hi
    · exact hsk i hi
    · rw [List.mem_singleton] at hi; subst hi; exact hal)
   rw [List.length_append,List.length_map] at hlen'
   simp only [List.length_cons,List.length_nil] at hlen'
   refine goS trivial ?_
   refine goR hent ?_
   refine appV_GV2 (es2:=[eI a]) (m:=1) hv2 (viewC_list (es:=[eI a]) rfl) rfl rfl rfl (by rw [List.length_map,mostBytes_eq]; omega) fun x' G4 hv3 hto=>?_
   refine goS trivial ?_
   refine goR trivial ?_
   have hs5:=(Sep.f5 hq2.sep).grow hto (by rw [← List.map_singleton (f:=eI),← List.map_append] at hv3; exact hv3)
   refine ⟨_,_,?_,stle,sn ++ [a],x',G4,rfl,by rw [List.length_append]; simpa using hlen',hsn',fun i hi=>?_,⟨hq.ok,hq.op,hs5.b5⟩,rfl⟩
   · rw [List.length_append]; simp; omega
   · rcases List.mem_append.1 hi with hi|hi
     · exact hsk i hi
     · rw [List.mem_singleton] at hi; subst hi; exact hal
end Go.Proofs.Ytioojmlhmhgeeaa
/-
 Layer 21 (disk),continued: Crash.
 Conditions: of each contract as it says.
-/
namespace Go.Proofs.Ytioojmlhmhgeeaa
open Go Go.E2 C22
set_option linter.unusedSimpArgs false
set_option maxHeartbeats 1000000
theorem flat_eC (c:Cel):flatA (.d (eC c))=true:=by
 have h:∀ l:List UInt8,flatVs (l.map eB)=true:=by
  intro l
  induction l with
  | nil=>rfl
  | cons a l ih=>simp only [List.map_cons,flatVs,eB,flatV,Bool.true_and]; exact ih
 simp only [flatA,eC,flatV,flatVs_all,List.all_append]
 have:=h c.s.1
 rw [flatVs_all] at this
 rw [this]; rfl
theorem Crash_ok (p:Nat) (d:Dk) (keep:List Int) (hk:keep.length≤9223372036854775807):CallS Try.prog f_zz20 [.gp p 0,.list (keep.map eI)] [DiskA p d] (fun r post=>∃ q,r=.d (.gp q 0)∧post=[DiskA q (crash d keep),DiskA p d]):=by
 refine callS_of_W fol zz20_cp fun R G σ hs=>?_
 have hok:Okd d:=by obtain ⟨_,_,_,_,h⟩:=DiskP.open hs; exact h.ok
 have hpos:=hok.pos
 have hmost:=hok.most
 obtain ⟨cb0,r0,cap0,m0,hd0⟩:=DiskP.open hs
 have hc0:=hd0.cell
 refine goS trivial ?_
 refine goR hc0 ?_
 (refine goM (New_ok d.cs.length (by omega) (by omega)) ((show Sep ([] ++ (DiskA p d::R)) G from hs)) ?_)
 rintro _ _ G2 ⟨q,rfl,rfl⟩ hs2
 simp only [Int.toNat_natCast] at hs2
 obtain ⟨cb,r,cap,m,hd⟩:=DiskP.open (Sep.swap hs2)
 have hc:=hd.cell
 obtain ⟨cells,hcb,hrow⟩:=hd.row
 obtain ⟨cbq,rq,capq,mq,hdq⟩:=DiskP.open hs2
 have hcq:=hdq.cell
 obtain ⟨cellsq,hcbq,hrowq⟩:=hdq.row
 have hlq:(fresh d.cs.length).cs.length=d.cs.length:=by simp [fresh]
 rw [hlq] at hcq hrowq
 refine goS trivial ?_
 refine goR (nn hc hcq) ?_
 have hfl:(flat (d.cs.map eC)).length=d.cs.length * 65:=by rw [flat_length (eC_all _),List.length_map]
 refine wCp_mk (m:=d.cs.length) hcbq (hrow.view0 hcb) (by have:=hrowq.ncs; omega) ?_
 have hrow2:=hrowq.copyv (i:=0) (m:=d.cs.length) (len:=d.cs.length) (ys:=d.cs.map eC) (eC_all _) (by simp) (by omega) (by omega)
 simp only [List.take_zero,List.nil_append,Nat.zero_add,Nat.zero_mul] at hrow2
 rw [List.drop_of_length_le (by rw [List.length_map]; omega),List.append_nil] at hrow2
 obtain ⟨hokj,hopj⟩:=resL_ok hok keep 0
 have e0:(resL d keep 0).map eC=d.cs.map eC:=by rw [resL_zero,List.map_map]; rfl
 have hq0:=hdq.setC (d':=⟨resL d keep 0,0,-1,false⟩) hokj rfl rfl rfl (by rw [resL_len,hlq]) (fun i=>by rw [hopj,opAt_fresh]) (by rw [hlq,e0]; exact hrow2)
 have hs3:=hq0.close
 generalize hG3:G2.set cbq (some (over cellsq ((flat (d.cs.map eC)).take (min d.cs.length d.cs.length * 65)) 0))=G3 at hs3 ⊢
 clear hG3 hq0 hrow2 hd hdq hrow hrowq hcb hcbq hc hcq hs2
 refine goS trivial ?_
 refine goR trivial ?_
 (refine goM (sectors_ok p d) ((show Sep ([DiskA p d] ++ (DiskA q ⟨resL d keep 0,0,-1,false⟩::R)) G3 from Sep.swap hs3)) ?_)
 rintro _ _ G4 ⟨x,rfl,rfl⟩ hs4
 have hs4:Sep (SlA 1 x ((opened d).map eI)::DiskA p d::DiskA q ⟨resL d keep 0,0,-1,false⟩::R) G4:=hs4
 have hol:(opened d).length≤65536:=by
  unfold opened
  rw [List.length_map]
  have:=List.length_filter_le (fun (i:Nat)=>decide (opAt d (i:Int) ≠ [])) (List.range d.cs.length)
  rw [List.length_range] at this
  omega
 have hxl:=hs4.gv.len
 rw [List.length_map] at hxl
 refine goS hxl ?_
 refine goR trivial ?_
 refine W.loop (fun n st=>∃ (j:Nat) (G:Gh),j≤(opened d).length∧n=(opened d).length - j∧Sep (DiskA q ⟨resL d keep j,0,-1,false⟩::SlA 1 x ((opened d).map eI)::DiskA p d::R) G ∧
  st=(E [(0,.d (.gp p 0)),(1,.d (.list (keep.map eI))),(5,.d (.gp q 0)),(25,.d x),(26,.d (.int .i64 (opened d).length)),(27,.d (.int .i64 j))],HB [],σ,G))
  ⟨_,_,stle,0,G4,by omega,rfl,hs4.f3,rfl⟩ ?_
 rintro n st ⟨j,G5,hj,rfl,hs5,rfl⟩
 refine goR trivial ?_
 refine wG_dec (fun h1=>?_) (fun h1=>?_)
 · have hj':j < (opened d).length:=by omega
   obtain ⟨k,hk1,hk2,hk3,hk4⟩:=opened_get (List.getElem?_eq_getElem hj')
   have hv:=(Sep.swap hs5).gv
   have hgx:=hv.inv (by intro e; rw [List.map_eq_nil_iff] at e; rw [e] at hj'; simp at hj')
   obtain ⟨bx,capx,csx,hx,hbx,hrx⟩:=hgx
   rw [List.length_map] at hx hrx
   have hldx:=hrx.fld (i:=j) (j:=0) (by simpa using hj') (by omega)
   rw [List.getElem_map,hk1] at hldx
   simp only [D.cells,List.getElem?_cons_zero,Option.map_some,Nat.mul_one,Nat.add_zero] at hldx
   obtain ⟨cb,r,cap,m,hd⟩:=DiskP.open (Sep.f3 hs5)
   have hc:=hd.cell
   obtain ⟨cells,hcb,hrow⟩:=hd.row
   obtain ⟨cbq,rq,capq,mq,hdq⟩:=DiskP.open hs5
   have hcq:=hdq.cell
   obtain ⟨cellsq,hcbq,hrowq⟩:=hdq.row
   have hlq:(⟨resL d keep j,0,-1,false⟩:Dk).cs.length=d.cs.length:=resL_len d keep j
   rw [hlq] at hcq hrowq
   obtain ⟨c,hcc⟩:∃ c,c=d.cs[k]:=⟨_,rfl⟩
   have hsu:=Row.sub hrow (i:=k) (j:=0) (k:=65) (by simpa using hk2) (by omega)
   rw [List.getElem_map,← hcc] at hsu
   have e2:((eC c).cells.drop 0).take 65=c.s.1.map eB ++ [.bool c.bad]:=by rw [List.drop_zero,eC_cells,List.take_of_length_le (by simp [s_len])]
   rw [e2,Nat.add_zero] at hsu
   have hop:opAt d k=c.op:=by rw [opAt_get hk2,hcc]
   obtain ⟨y,hl,hvy,_,_⟩:=hd.look k
   rw [hop] at hvy hk3
   have hfew:=hok.few c (by rw [hcc]; exact List.getElem_mem hk2)
   have hst:=hok.st
   have hfit:=hrowq.fits (i:=k) (by rw [List.length_map,resL_len]; exact hk2)
   have hcel:celAt d k=c:=by rw [celAt_get hk2,hcc]
   have hfound:=fun z=>found_ok c z hk3 (by omega)
   subst hx
   by_cases hke:keep=[]
   · have hka:keepAt keep j=0:=by simp [keepAt,hke]
     have hkl0:(0 < (keep.length:Int))=False:=eq_false (by rw [hke]; simp)
     (repeat' (first|(with_reducible first|refine W.seq ?_|refine W.block ?_)|((first|(with_reducible first|refine W.reg ?_|refine W.skip ?_|refine W.exit ?_|refine W.ret ?_|refine W.ifc ?_)|((with_reducible first|refine wG_decE (fun _ hG=>?_) (fun _ hG=>?_)|refine wG_decFE (fun _ hG=>?_) (fun _ hG=>?_))<;>(try simp -dsimp only [hG,decide_true,decide_false,not_true_eq_false,not_false_eq_true])<;>clear hG))<;>(try simp -dsimp (disch:=first|omega|(simp only [go_sem]; omega)) only [go_sem,seval,Nat.reduceEqDiff,Nat.reduceLeDiff,hldx,hbx,Nat.mul_one,hc,hcb,hcq,hcbq,hsu,hl,hkl0,Int.toNat_natCast]))|simp -dsimp (disch:=first|omega|(simp only [go_sem]; omega)) only [go_sem,seval,Nat.reduceEqDiff,Nat.reduceLeDiff,hldx,hbx,Nat.mul_one,hc,hcb,hcq,hcbq,hsu,hl,hkl0,Int.toNat_natCast]))
     refine wC_lend (xs:=[eC c,y,.int .i64 (0)]) (hfound (0)) (by simp -dsimp (disch:=first|omega|(simp only [go_sem]; omega)) only [go_sem,seval,Nat.reduceEqDiff,Nat.reduceLeDiff]) (by simp -dsimp (disch:=first|omega|(simp only [go_sem]; omega)) only [go_sem,seval,Nat.reduceEqDiff,Nat.reduceLeDiff]) (Lends.cons (.refl _) (.cons hvy.lend (.cons (.refl _) .nil))) (by rintro _ rfl; exact flat_eC _) ?_
     rintro _ rfl
     have hrow3:=row_cel (cs:=resL d keep j) (by rw [resL_len]; exact hrowq) (k:=k) (by rw [resL_len]; exact hk2) (fun _=>kept c (keepAt keep j))
     rw [modify_set (by rw [resL_len]; exact hk2),← hcel,← resL_succ (by rw [List.getElem?_eq_getElem hj',hk1]),hcel] at hrow3
     obtain ⟨hokj,hopj⟩:=resL_ok hok keep (j + 1)
     obtain ⟨_,hopj0⟩:=resL_ok hok keep j
     have hq3:=hdq.setC (d':=⟨resL d keep (j + 1),0,-1,false⟩) hokj rfl rfl rfl (by rw [resL_len,hlq]) (fun i=>by rw [hopj,hopj0]) (by rw [hlq]; rw [resL_len] at hrow3; exact hrow3)
     rw [hka] at hq3
     refine goS (nn hcbq hfit) ?_
     refine goR trivial ?_
     refine ⟨_,_,?_,stle,j + 1,_,by omega,rfl,hq3.close,rfl⟩
     omega
   · have hkl1:0 < keep.length:=List.length_pos_iff.2 hke
     have hkl0:(0 < (keep.length:Int))=True:=eq_true (by omega)
     have hmod:j % keep.length < keep.length:=Nat.mod_lt _ hkl1
     have hm:(j:Int).tmod keep.length=((j % keep.length:Nat):Int):=by rw [Int.tmod_eq_emod_of_nonneg (by omega)]; rfl
     have hka:keepAt keep j=keep[j % keep.length]:=by simp [keepAt,hke,hmod]
     (repeat' (first|(with_reducible first|refine W.seq ?_|refine W.block ?_)|((first|(with_reducible first|refine W.reg ?_|refine W.skip ?_|refine W.exit ?_|refine W.ret ?_|refine W.ifc ?_)|((with_reducible first|refine wG_decE (fun _ hG=>?_) (fun _ hG=>?_)|refine wG_decFE (fun _ hG=>?_) (fun _ hG=>?_))<;>(try simp -dsimp only [hG,decide_true,decide_false,not_true_eq_false,not_false_eq_true])<;>clear hG))<;>(try simp -dsimp (disch:=first|omega|(simp only [go_sem]; omega)) only [go_sem,seval,Nat.reduceEqDiff,Nat.reduceLeDiff,hldx,hbx,Nat.mul_one,hc,hcb,hcq,hcbq,hsu,hl,hkl0,hm,eI_all,Int.toNat_natCast]))|simp -dsimp (disch:=first|omega|(simp only [go_sem]; omega)) only [go_sem,seval,Nat.reduceEqDiff,Nat.reduceLeDiff,hldx,hbx,Nat.mul_one,hc,hcb,hcq,hcbq,hsu,hl,hkl0,hm,eI_all,Int.toNat_natCast]))
     refine wC_lend (xs:=[eC c,y,.int .i64 (keep[j % keep.length])]) (hfound (keep[j % keep.length])) (by simp -dsimp (disch:=first|omega|(simp only [go_sem]; omega)) only [go_sem,seval,Nat.reduceEqDiff,Nat.reduceLeDiff]) (by simp -dsimp (disch:=first|omega|(simp only [go_sem]; omega)) only [go_sem,seval,Nat.reduceEqDiff,Nat.reduceLeDiff]) (Lends.cons (.refl _) (.cons hvy.lend (.cons (.refl _) .nil))) (by rintro _ rfl; exact flat_eC _) ?_
     rintro _ rfl
     have hrow3:=row_cel (cs:=resL d keep j) (by rw [resL_len]; exact hrowq) (k:=k) (by rw [resL_len]; exact hk2) (fun _=>kept c (keepAt keep j))
     rw [modify_set (by rw [resL_len]; exact hk2),← hcel,← resL_succ (by rw [List.getElem?_eq_getElem hj',hk1]),hcel] at hrow3
     obtain ⟨hokj,hopj⟩:=resL_ok hok keep (j + 1)
     obtain ⟨_,hopj0⟩:=resL_ok hok keep j
     have hq3:=hdq.setC (d':=⟨resL d keep (j + 1),0,-1,false⟩) hokj rfl rfl rfl (by rw [resL_len,hlq]) (fun i=>by rw [hopj,hopj0]) (by rw [hlq]; rw [resL_len] at hrow3; exact hrow3)
     rw [hka] at hq3
     refine goS (nn hcbq hfit) ?_
     refine goR trivial ?_
     refine ⟨_,_,?_,stle,j + 1,_,by omega,rfl,hq3.close,rfl⟩
     omega
 · obtain rfl:j=(opened d).length:=by omega
   rw [resL_end] at hs5
   refine goR trivial ?_
   exact Fin.eq rfl ⟨rfl,_,⟨q,rfl,rfl⟩,(hs5.cons fun _=>Sep.tail)⟩
end Go.Proofs.Ytioojmlhmhgeeaa
/-
 Layer 21 (disk),continued: slices.Repeat,Open; the reference's Filled and Same.
 Conditions: of each contract as it says.
-/
namespace Go.Proofs.Ytioojmlhmhgeeaa
open Go Go.E2 C22
set_option linter.unusedSimpArgs false
set_option maxHeartbeats 1000000
theorem and_mask {b:Int} (h0:0≤b) (h1:b < 4294967296):binD .and (.int .u64 b) (.int .u64 4294967295)=some (.int .u64 b):=by
 have h:=bv_and 64 (a:=b) (b:=4294967295) h0 (by omega) (by omega) (by omega)
 have e:b.toNat &&& (4294967295:Int).toNat=b.toNat:=by
  have:(4294967295:Int).toNat=2 ^ 32 - 1:=rfl
  rw [this,Nat.and_two_pow_sub_one_eq_mod]
  exact Nat.mod_eq_of_lt (by omega)
 simp only [binD,if_true]
 have hb:IntKind.u64.bits=64:=rfl
 rw [hb,h,e]
 congr 2
 have:((b.toNat:Nat):Int)=b:=by omega
 rw [this]
 exact wrap_u64 h0 (by omega)
theorem shr_32 {b:Int} (h0:0≤b) (h1:b < 4294967296):binD .shr (.int .u64 b) (.int .u64 32)=some (.int .u64 0):=by
 have:b.fdiv (2 ^ (min (32:Int).toNat IntKind.u64.bits))=0:=by
  have e:((2:Int) ^ (min (32:Int).toNat IntKind.u64.bits))=4294967296:=rfl
  rw [e,Int.fdiv_eq_ediv_of_nonneg _ (by omega)]
  omega
 simp only [binD,this]
 rfl
theorem Mul64_ok (b:Int) (h0:0≤b) (h1:b < 4294967296):CallP Try.prog f_zz25 [.int .u64 1,.int .u64 b] (·=.tup [.int .u64 0,.int .u64 b]):=by
 refine callP_of_W fol zz25_cp ?_
 have e1:=and_mask (b:=1) (by omega) (by omega)
 have e2:=and_mask h0 h1
 have e3:=shr_32 (b:=1) (by omega) (by omega)
 have e4:=shr_32 h0 h1
 have e5:=and_mask (b:=0) (by omega) (by omega)
 have e6:=shr_32 (b:=0) (by omega) (by omega)
 refine goS trivial ?_
 (repeat (first|(with_reducible first|refine W.seq ?_|refine W.block ?_)|((with_reducible first|refine W.reg ?_|refine W.skip ?_|refine W.exit ?_|refine W.ret ?_|refine W.ifc ?_); simp -dsimp (disch:=first|omega|(simp only [go_sem]; omega)) only [go_sem,seval,Nat.reduceEqDiff,Nat.reduceLeDiff,e1,e2,e3,e4,e5,e6,Int.one_mul,Int.zero_mul,Int.mul_zero,Int.zero_add,Int.add_zero])))
 exact Fin.p rfl rfl
theorem Mul_ok (b:Int) (h0:0≤b) (h1:b < 4294967296):CallP Try.prog f_zz35 [.int .u64 1,.int .u64 b] (·=.tup [.int .u64 0,.int .u64 b]):=by
 refine callP_of_W fol zz35_cp ?_
 refine goS trivial ?_
 (repeat' (first|(with_reducible first|refine W.seq ?_|refine W.block ?_)|((first|(with_reducible first|refine W.reg ?_|refine W.skip ?_|refine W.exit ?_|refine W.ret ?_|refine W.ifc ?_)|(apply wC_P (Mul64_ok b h0 h1); (focus (simp -dsimp (disch:=first|omega|(simp only [go_sem]; omega)) only [go_sem,seval,Nat.reduceEqDiff,Nat.reduceLeDiff]<;>rfl)); rintro _ rfl)|((with_reducible first|refine wG_decE (fun _ hG=>?_) (fun _ hG=>?_)|refine wG_decFE (fun _ hG=>?_) (fun _ hG=>?_))<;>(try simp -dsimp only [hG,decide_true,decide_false,not_true_eq_false,not_false_eq_true])<;>clear hG))<;>(try simp -dsimp (disch:=first|omega|(simp only [go_sem]; omega)) only [go_sem,seval,Nat.reduceEqDiff,Nat.reduceLeDiff]))|simp -dsimp (disch:=first|omega|(simp only [go_sem]; omega)) only [go_sem,seval,Nat.reduceEqDiff,Nat.reduceLeDiff]))
 exact Fin.p rfl rfl
theorem rep_eI (n:Nat) (x:D):rep n [x]=List.replicate n x:=by
 induction n with
 | zero=>rfl
 | succ n ih =>
  have:rep (n + 1) [x]=x::rep n [x]:=by simp [rep,List.replicate_succ]
  rw [this,ih,List.replicate_succ]
theorem over_rep (i z:D) {n t m:Nat} (hm:m=min (n - t) t) (ht:t≤n) :
 over (List.replicate t i ++ List.replicate (n - t) z) ((List.replicate t i).take m) t=List.replicate (t + m) i ++ List.replicate (n - (t + m)) z:=by
 unfold over
 rw [List.take_append_of_le_length (by simp),List.take_of_length_le (by simp),List.take_replicate,List.length_replicate,List.drop_append,List.drop_of_length_le (by simp),List.nil_append,List.length_replicate,List.drop_replicate,List.replicate_append_replicate]
 congr 1
 · congr 1; omega
 · congr 1; omega
theorem Repeat_ok (i:Int) (n:Nat) (h1:1≤n) (h2:n≤1000000000):CallP Try.prog f_zz11 [.list [eI i],.int .i64 n] (·=.d (.list (List.replicate n (eI i)))):=by
 refine CallP.of_deep (callT_of_W fol zz11_cp ?_)
 have q1:((n:Int) < 0)=False:=eq_false (by omega)
 have q2:(9223372036854775807 < (n:Int))=False:=eq_false (by omega)
 refine goS trivial ?_
 (repeat' (first|(with_reducible first|refine W.seq ?_|refine W.block ?_)|((first|(with_reducible first|refine W.reg ?_|refine W.skip ?_|refine W.exit ?_|refine W.ret ?_|refine W.ifc ?_)|(apply wC_P (Mul_ok n (by omega) (by omega)); (focus (simp -dsimp (disch:=first|omega|(simp only [go_sem]; omega)) only [go_sem,seval,Nat.reduceEqDiff,Nat.reduceLeDiff]<;>rfl)); rintro _ rfl)|((with_reducible first|refine wG_decE (fun _ hG=>?_) (fun _ hG=>?_)|refine wG_decFE (fun _ hG=>?_) (fun _ hG=>?_))<;>(try simp -dsimp only [hG,decide_true,decide_false,not_true_eq_false,not_false_eq_true])<;>clear hG))<;>(try simp -dsimp (disch:=first|omega|(simp only [go_sem]; omega)) only [go_sem,seval,Nat.reduceEqDiff,Nat.reduceLeDiff,q1,q2]))|simp -dsimp (disch:=first|omega|(simp only [go_sem]; omega)) only [go_sem,seval,Nat.reduceEqDiff,Nat.reduceLeDiff,q1,q2]))
 refine wP_mk (by omega) ?_
 refine wNew_mk fun b hb=>?_
 refine goS rep_eI ?_
 refine goR trivial ?_
 have ev:viewC (noGh.set b (some (List.replicate n (eI 0)))) 1 (.list [eI i])=some (1,[eI i]):=viewC_list rfl
 refine wCp_mk (b:=b) (off:=0) (len:=n) (m:=1) (cs:=List.replicate n (eI 0)) (by simp [upd]) ev (by simp) ?_
 have e0:over (List.replicate n (eI 0)) ([eI i].take (min n 1 * 1)) 0=List.replicate 1 (eI i) ++ List.replicate (n - 1) (eI 0):=by
  have:min n 1 * 1=1:=by omega
  rw [this]
  simp [over]
 rw [e0]
 have e1:min (n:Int) ((1:Nat):Int)=1:=by omega
 rw [e1]
 refine goS trivial ?_
 refine goR trivial ?_
 refine W.loop (fun q st=>∃ (t:Nat) (G:Gh),1≤t∧t≤n∧q=n - t∧G.c b=some (List.replicate t (eI i) ++ List.replicate (n - t) (eI 0)) ∧
  st=(E [(7,.d (.gs b 0 n n)),(8,.d (.int .i64 t))],HB [],[],G))
  ⟨_,_,stle,1,_,by omega,h1,rfl,by simp [upd],rfl⟩ ?_
 rintro q st ⟨t,G,ht1,ht2,rfl,hG,rfl⟩
 refine goR trivial ?_
 refine wG_dec (fun h1=>?_) (fun h1=>?_)
 · have htn:t < n:=by omega
   (repeat' (first|(with_reducible first|refine W.seq ?_|refine W.block ?_)|((first|(with_reducible first|refine W.reg ?_|refine W.skip ?_|refine W.exit ?_|refine W.ret ?_|refine W.ifc ?_)|((with_reducible first|refine wG_decE (fun _ hG=>?_) (fun _ hG=>?_)|refine wG_decFE (fun _ hG=>?_) (fun _ hG=>?_))<;>(try simp -dsimp only [hG,decide_true,decide_false,not_true_eq_false,not_false_eq_true])<;>clear hG))<;>(try simp -dsimp (disch:=first|omega|(simp only [go_sem]; omega)) only [go_sem,seval,Nat.reduceEqDiff,Nat.reduceLeDiff]))|simp -dsimp (disch:=first|omega|(simp only [go_sem]; omega)) only [go_sem,seval,Nat.reduceEqDiff,Nat.reduceLeDiff]))
   rw [if_neg (by omega:¬ n=t),ite_self,Nat.mul_one,Nat.sub_zero,Nat.sub_zero]
   have ev:viewC G 1 (.gs b 0 t n)=some (t,List.replicate t (eI i)):=by
    simp only [viewC,hG]
    rw [if_pos (by simp),List.drop_zero,Nat.mul_one,List.take_append_of_le_length (by simp),List.take_of_length_le (by simp)]
   refine wCp_mk (b:=b) (off:=t) (len:=n - t) (m:=t) (cs:=List.replicate t (eI i) ++ List.replicate (n - t) (eI 0)) hG ev (by simp) ?_
   rw [Nat.mul_one,over_rep _ _ rfl ht2]
   refine goS trivial ?_
   refine goR trivial ?_
   refine ⟨_,_,?_,st_le (l':=[(7,.d (.gs b 0 n n)),(8,.d (.int .i64 (t + min (n - t) t:Nat)))]) (by (simp -dsimp (disch:=first|omega|(simp only [go_sem]; omega)) only [go_sem,seval,Nat.reduceEqDiff,Nat.reduceLeDiff]<;>((repeat' apply And.intro)<;>first|exact VLe.refl _|(apply vle_int; omega)|(apply vle_int; simp; done)|exact VLe.own _ _|exact VLe.nilown _|exact VLe.norm _))),t + min (n - t) t,_,by omega,by omega,rfl,by simp [upd],rfl⟩
   omega
 · obtain rfl:t=n:=by omega
   refine goR trivial ?_
   refine Fin.eq rfl ⟨rfl,_,.d _ _ (.gs b 0 t t 1 _ (List.replicate t (eI i)) hG (by simp) (by simp) ?_ ?_),rfl⟩
   · rw [← List.map_replicate]; exact eI_all _
   · intro j x y hx hy
     simp only [Nat.sub_self,List.replicate_zero,List.append_nil,List.drop_zero,Nat.mul_one] at hx
     rw [List.take_of_length_le (by simp)] at hx
     rw [← List.map_replicate,flat_int,List.map_replicate,hx] at hy
     cases hy
     exact .refl _
theorem open_flat (d:Dk):((opened d).map fun i=>List.replicate (opAt d i).length i).flatten=openL d:=by
 unfold opened openL
 rw [List.map_map,List.flatMap_def]
 generalize List.range d.cs.length=l
 induction l with
 | nil=>rfl
 | cons a l ih =>
  by_cases h:opAt d (a:Int)=[]
  · rw [List.filter_cons_of_neg (by simp [h]),ih,List.map_cons,List.flatten_cons,h]; rfl
  · rw [List.filter_cons_of_pos (by simp [h]),List.map_cons,List.flatten_cons,List.map_cons,List.flatten_cons,ih]; rfl
theorem flat_len_le {d:Dk} (j:Nat):(((opened d).take j).map fun i=>List.replicate (opAt d i).length i).flatten.length≤(openL d).length:=by
 rw [← open_flat]
 conv=>rhs; rw [← List.take_append_drop j (opened d)]
 rw [List.map_append,List.flatten_append,List.length_append]
 omega
theorem Open_ok (p:Nat) (d:Dk) (hl:(openL d).length≤1000000000):CallS Try.prog f_zz28 [.gp p 0] [DiskA p d] (fun r post=>r=.d (.list ((openL d).map eI))∧post=[DiskA p d]):=by
 refine callS_of_W fol zz28_cp fun R G σ hs=>?_
 have hok:Okd d:=by obtain ⟨_,_,_,_,h⟩:=DiskP.open hs; exact h.ok
 have hst:=hok.st
 have hmost:=hok.most
 refine goS trivial ?_
 refine goR trivial ?_
 (refine goM (sectors_ok p d) (hs) ?_)
 rintro _ _ G4 ⟨x,rfl,rfl⟩ hs4
 have hs4:Sep (SlA 1 x ((opened d).map eI)::DiskA p d::R) G4:=hs4
 have hol:(opened d).length≤65536:=by
  unfold opened
  rw [List.length_map]
  have:=List.length_filter_le (fun (i:Nat)=>decide (opAt d (i:Int) ≠ [])) (List.range d.cs.length)
  rw [List.length_range] at this
  omega
 have hv:=hs4.gv
 have hxl:=hv.len
 rw [List.length_map] at hxl
 obtain ⟨cb,r,cap,m,hd⟩:=DiskP.open (Sep.swap hs4)
 have hc:=hd.cell
 refine goS hxl ?_
 refine goR trivial ?_
 refine W.loop (fun n st=>∃ (j:Nat) (es:List D),j≤(opened d).length∧n=(opened d).length - j∧es=(((opened d).take j).map fun i=>List.replicate (opAt d i).length i).flatten.map eI ∧
  st=(E [(0,.d (.gp p 0)),(3,.own 1 es),(7,.d x),(8,.d (.int .i64 (opened d).length)),(9,.d (.int .i64 j))],HB [],σ,G4))
  ⟨_,_,stle,0,[],by omega,rfl,rfl,rfl⟩ ?_
 rintro n st ⟨j,es,hj,rfl,hes,rfl⟩
 refine goR trivial ?_
 refine wG_dec (fun h1=>?_) (fun h1=>?_)
 · have hj':j < (opened d).length:=by omega
   obtain ⟨k,hk1,hk2,hk3,hk4⟩:=opened_get (List.getElem?_eq_getElem hj')
   have hgx:=hv.inv (by intro e; rw [List.map_eq_nil_iff] at e; rw [e] at hj'; simp at hj')
   obtain ⟨bx,capx,csx,hx,hbx,hrx⟩:=hgx
   rw [List.length_map] at hx hrx
   subst hx
   have hldx:=hrx.fld (i:=j) (j:=0) (by simpa using hj') (by omega)
   rw [List.getElem_map,hk1] at hldx
   simp only [D.cells,List.getElem?_cons_zero,Option.map_some,Nat.mul_one,Nat.add_zero] at hldx
   obtain ⟨y,hl,hvy,_,_⟩:=hd.look k
   have hlen:=hvy.len
   rw [List.length_map] at hlen
   have hop:opAt d k=d.cs[k].op:=opAt_get hk2
   have hfew:=hok.few d.cs[k] (List.getElem_mem hk2)
   rw [← hop] at hfew
   have hpos:0 < (opAt d k).length:=List.length_pos_iff.2 hk3
   have hle:=flat_len_le (d:=d) (j + 1)
   rw [List.take_succ_eq_append_getElem hj',List.map_append,List.flatten_append,List.length_append,hk1] at hle
   have hel:es.length=(((opened d).take j).map fun i=>List.replicate (opAt d i).length i).flatten.length:=by rw [hes,List.length_map]
   simp only [List.map_cons,List.map_nil,List.flatten_cons,List.flatten_nil,List.append_nil,List.length_replicate] at hle
   have hall:(List.replicate (opAt d k).length (eI k)).all (sizeOk 1)=true:=by rw [← List.map_replicate]; exact eI_all _
   have hb:(es.length + (List.replicate (opAt d k).length (eI (k:Int))).length) * 8≤140737488355328:=by rw [List.length_replicate]; omega
   (repeat' (first|(with_reducible first|refine W.seq ?_|refine W.block ?_)|((first|(with_reducible first|refine W.reg ?_|refine W.skip ?_|refine W.exit ?_|refine W.ret ?_|refine W.ifc ?_)|(apply wC_P (Repeat_ok k (opAt d k).length hpos (by omega)); (focus (simp -dsimp (disch:=first|omega|(simp only [go_sem]; omega)) only [go_sem,seval,Nat.reduceEqDiff,Nat.reduceLeDiff]<;>rfl)); rintro _ rfl)|((with_reducible first|refine wG_decE (fun _ hG=>?_) (fun _ hG=>?_)|refine wG_decFE (fun _ hG=>?_) (fun _ hG=>?_))<;>(try simp -dsimp only [hG,decide_true,decide_false,not_true_eq_false,not_false_eq_true])<;>clear hG))<;>(try simp -dsimp (disch:=first|omega|(simp only [go_sem]; omega)) only [go_sem,seval,Nat.reduceEqDiff,Nat.reduceLeDiff,hldx,hbx,Nat.mul_one,hc,hl,hlen,hall]))|simp -dsimp (disch:=first|omega|(simp only [go_sem]; omega)) only [go_sem,seval,Nat.reduceEqDiff,Nat.reduceLeDiff,hldx,hbx,Nat.mul_one,hc,hl,hlen,hall]))
   refine ⟨_,_,?_,stle,j + 1,_,by omega,rfl,?_,rfl⟩
   · omega
   · rw [hes,List.take_succ_eq_append_getElem hj',List.map_append,List.flatten_append,List.map_append,hk1]
     simp only [List.map_cons,List.map_nil,List.flatten_cons,List.flatten_nil,List.append_nil,List.map_replicate]
 · obtain rfl:j=(opened d).length:=by omega
   rw [List.take_length,open_flat] at hes
   subst hes
   refine goR trivial ?_
   exact Fin.eq rfl ⟨rfl,_,⟨rfl,rfl⟩,hs4.tail⟩
end Go.Proofs.Ytioojmlhmhgeeaa
