/-
 Layer 21 (disk): the open writes of the disk,where the disk is only looked at.
 Conditions: of each contract as it says.
-/
import Derived.Test.YtioojmlhmhgeeaaF22f
import Derived.Test.YtioojmlhmhgeeaaF22sa
namespace Go.Proofs.Ytioojmlhmhgeeaa
open Go Go.E2 C22
set_option linter.unusedSimpArgs false
set_option maxHeartbeats 1000000
theorem sectorsX_ok (p:Nat) (d:Dk) (X:As) (hX:∀ R G,Sep (X::R) G→Sep (DiskA p d::R) G):CallS Try.prog f_zz15 [.gp p 0] [X] (fun r post=>∃ x,r=.d x∧post=[SlA 1 x ((opened d).map eI),X]):=by
 refine callS_of_W fol zz15_cp fun R G σ hs=>?_
 obtain ⟨cb,r,cap,m,hd⟩:=DiskP.open (hX _ _ hs)
 have hc:=hd.cell
 have hmost:=hd.ok.most
 refine goS trivial ?_
 refine goR hc ?_
 refine wGn_rng hd.map fun it X0 hit hr=>?_
 have hs1:Sep (ObjA it X0::X::R) (G.setM it (some X0)):=Sep.newM hit hs
 refine goS trivial ?_
 refine goR trivial ?_
 have hml:m.length≤65536:=by
  have h1:(m.map (·.1)).Nodup:=hd.map.nodup
  have h2:(m.map (·.1)) ⊆ (List.range d.cs.length).map fun (i:Nat)=>(i:Int):=by
   intro i hi
   obtain ⟨q,hq,rfl⟩:=List.mem_map.1 hi
   have:=(hd.op.has q.1).1 (by rw [mget_of_mem h1 (v:=q.2) hq]; rfl)
   have:=opAt_in this
   exact List.mem_map.2 ⟨q.1.toNat,List.mem_range.2 (by omega),by omega⟩
  have:=nodup_sub_len h1 h2
  simp at this
  omega
 refine W.loop (fun n st=>∃ (sn:List Int) (x:D) (o:MO) (G:Gh),n=m.length - sn.length∧sn.length≤m.length∧sn.Nodup∧(∀ i ∈ sn,i ∈ m.map (·.1))∧RngL [.i] eI id G r it m sn∧Sep (ObjA it o::SlA 1 x (sn.map eI)::X::R) G ∧
  st=(E [(3,.d x),(9,.d (.gp it 0))],HB [],σ,G))
  ⟨_,_,stle,[],.nilS,X0,_,rfl,by simp,by simp,by simp,hr,hs1.cons fun _=>Sep.slNil,rfl⟩ ?_
 rintro n st ⟨sn,x,o,G3,rfl,hsl,hsn,hsk,hrg,hs2,rfl⟩
 refine goR trivial ?_
 have hv:=hs2.tail.gv
 refine wGn_nxt hrg (fun hall=>?_) (fun a v Y hav hns hr hent=>?_)
 · refine goS trivial ?_
   refine goR trivial ?_
   have hperm:sn.Perm (m.map (·.1)):=perm_of_all hsn hrg.nodup hsk fun i hi=>by
    obtain ⟨q,hq',rfl⟩:=List.mem_map.1 hi
    exact hall q hq'
   have hso:=sorted_keys hd.op hrg.nodup hperm
   have h5:Sep ([SlA 1 x (sn.map eI)] ++ (X::R)) G3:=hs2.tail
   (refine goM (Sort_ok x sn (by omega)) (h5) ?_)
   rintro _ _ G4 rfl hs4
   refine goS trivial ?_
   (repeat' (first|(with_reducible first|refine W.seq ?_|refine W.block ?_)|((first|(with_reducible first|refine W.reg ?_|refine W.skip ?_|refine W.exit ?_|refine W.ret ?_|refine W.ifc ?_)|((with_reducible first|refine wG_decE (fun _ hG=>?_) (fun _ hG=>?_)|refine wG_decFE (fun _ hG=>?_) (fun _ hG=>?_))<;>(try simp -dsimp only [hG,decide_true,decide_false,not_true_eq_false,not_false_eq_true])<;>clear hG))<;>(try simp -dsimp (disch:=first|omega|(simp only [go_sem]; omega)) only [go_sem,seval,Nat.reduceEqDiff,Nat.reduceLeDiff]))|simp -dsimp (disch:=first|omega|(simp only [go_sem]; omega)) only [go_sem,seval,Nat.reduceEqDiff,Nat.reduceLeDiff]))
   rw [hso] at hs4
   exact Fin.eq rfl ⟨rfl,_,⟨x,rfl,rfl⟩,hs4⟩
 · have hs3:Sep (ObjA it Y::SlA 1 x (sn.map eI)::X::R) (G3.setM it (some Y)):=hs2.setM
   have hv2:GV 1 (G3.setM it (some Y)) x (sn.map eI):=hv.of fun b c o n k _ e=>e
   have hal:a ∈ m.map (·.1):=List.mem_map.2 ⟨_,hav,rfl⟩
   have hsn':(sn ++ [a]).Nodup:=by
    rw [List.nodup_append]
    exact ⟨hsn,by simp,fun x hx y hy=>by rw [List.mem_singleton] at hy; subst hy; exact fun e=>hns (e ▸ hx)⟩
   have hlen':=nodup_sub_len hsn' (l':=m.map (·.1)) (fun i hi=>by
    rcases List.mem_append.1 hi with hi|hi
    · exact hsk i hi
    · rw [List.mem_singleton] at hi; subst hi; exact hal)
   rw [List.length_append,List.length_map] at hlen'
   simp only [List.length_cons,List.length_nil] at hlen'
   refine goS trivial ?_
   refine goR hent ?_
   refine appV_GV2 (es2:=[eI a]) (m:=1) hv2 (viewC_list (es:=[eI a]) rfl) rfl rfl rfl (by rw [List.length_map,mostBytes_eq]; omega) fun x' G4 hv3 hto=>?_
   refine goS trivial ?_
   refine goR trivial ?_
   have hs5:=(Sep.swap hs3).grow hto (by rw [← List.map_singleton (f:=eI),← List.map_append] at hv3; exact hv3)
   refine ⟨_,_,?_,stle,sn ++ [a],x',Y,G4,rfl,by rw [List.length_append]; simpa using hlen',hsn',fun i hi=>?_,hr.of (by rw [hto.m]) (by rw [hto.m]),hs5.swap,rfl⟩
   · rw [List.length_append]; simp; omega
   · rcases List.mem_append.1 hi with hi|hi
     · exact hsk i hi
     · rw [List.mem_singleton] at hi; subst hi; exact hal
theorem OpenX_ok (p:Nat) (d:Dk) (X:As) (hX:∀ R G,Sep (X::R) G→Sep (DiskA p d::R) G) (hl:(openL d).length≤1000000000):CallS Try.prog f_zz28 [.gp p 0] [X] (fun r post=>r=.d (.list ((openL d).map eI))∧post=[X]):=by
 refine callS_of_W fol zz28_cp fun R G σ hs=>?_
 have hok:Okd d:=by obtain ⟨_,_,_,_,h⟩:=DiskP.open (hX _ _ hs); exact h.ok
 have hst:=hok.st
 have hmost:=hok.most
 refine goS trivial ?_
 refine goR trivial ?_
 (refine goM (sectorsX_ok p d X hX) (hs) ?_)
 rintro _ _ G4 ⟨x,rfl,rfl⟩ hs4
 have hs4:Sep (SlA 1 x ((opened d).map eI)::X::R) G4:=hs4
 have hol:(opened d).length≤65536:=by
  unfold opened
  rw [List.length_map]
  have:=List.length_filter_le (fun (i:Nat)=>decide (opAt d (i:Int) ≠ [])) (List.range d.cs.length)
  rw [List.length_range] at this
  omega
 have hv:=hs4.gv
 have hxl:=hv.len
 rw [List.length_map] at hxl
 obtain ⟨cb,r,cap,m,hd⟩:=DiskP.open (hX _ _ (Sep.swap hs4))
 have hc:=hd.cell
 refine goS hxl ?_
 refine goR trivial ?_
 refine W.loop (fun n st=>∃ (j:Nat) (es:List D),j≤(opened d).length∧n=(opened d).length - j∧es=(((opened d).take j).map fun i=>List.replicate (opAt d i).length i).flatten.map eI ∧
  st=(E [(0,.d (.gp p 0)),(3,.own 1 es),(7,.d x),(8,.d (.int .i64 (opened d).length)),(9,.d (.int .i64 j))],HB [],σ,G4))
  ⟨_,_,stle,0,[],by omega,rfl,rfl,rfl⟩ ?_
 rintro n st ⟨j,es,hj,rfl,hes,rfl⟩
 refine goR trivial ?_
 refine wG_dec (fun h1=>?_) (fun h1=>?_)
 · have hj':j < (opened d).length:=by omega
   obtain ⟨k,hk1,hk2,hk3,hk4⟩:=opened_get (List.getElem?_eq_getElem hj')
   have hgx:=hv.inv (by intro e; rw [List.map_eq_nil_iff] at e; rw [e] at hj'; simp at hj')
   obtain ⟨bx,capx,csx,hx,hbx,hrx⟩:=hgx
   rw [List.length_map] at hx hrx
   subst hx
   have hldx:=hrx.fld (i:=j) (j:=0) (by simpa using hj') (by omega)
   rw [List.getElem_map,hk1] at hldx
   simp only [D.cells,List.getElem?_cons_zero,Option.map_some,Nat.mul_one,Nat.add_zero] at hldx
   obtain ⟨y,hl,hvy,_,_⟩:=hd.look k
   have hlen:=hvy.len
   rw [List.length_map] at hlen
   have hop:opAt d k=d.cs[k].op:=opAt_get hk2
   have hfew:=hok.few d.cs[k] (List.getElem_mem hk2)
   rw [← hop] at hfew
   have hpos:0 < (opAt d k).length:=List.length_pos_iff.2 hk3
   have hle:=flat_len_le (d:=d) (j + 1)
   rw [List.take_succ_eq_append_getElem hj',List.map_append,List.flatten_append,List.length_append,hk1] at hle
   have hel:es.length=(((opened d).take j).map fun i=>List.replicate (opAt d i).length i).flatten.length:=by rw [hes,List.length_map]
   simp only [List.map_cons,List.map_nil,List.flatten_cons,List.flatten_nil,List.append_nil,List.length_replicate] at hle
   have hall:(List.replicate (opAt d k).length (eI k)).all (sizeOk 1)=true:=by rw [← List.map_replicate]; exact eI_all _
   have hb:(es.length + (List.replicate (opAt d k).length (eI (k:Int))).length) * 8≤140737488355328:=by rw [List.length_replicate]; omega
   (repeat' (first|(with_reducible first|refine W.seq ?_|refine W.block ?_)|((first|(with_reducible first|refine W.reg ?_|refine W.skip ?_|refine W.exit ?_|refine W.ret ?_|refine W.ifc ?_)|(apply wC_P (Repeat_ok k (opAt d k).length hpos (by omega)); (focus (simp -dsimp (disch:=first|omega|(simp only [go_sem]; omega)) only [go_sem,seval,Nat.reduceEqDiff,Nat.reduceLeDiff]<;>rfl)); rintro _ rfl)|((with_reducible first|refine wG_decE (fun _ hG=>?_) (fun _ hG=>?_)|refine wG_decFE (fun _ hG=>?_) (fun _ hG=>?_))<;>(try simp -dsimp only [hG,decide_true,decide_false,not_true_eq_false,not_false_eq_true])<;>clear hG))<;>(try simp -dsimp (disch:=first|omega|(simp only [go_sem]; omega)) only [go_sem,seval,Nat.reduceEqDiff,Nat.reduceLeDiff,hldx,hbx,Nat.mul_one,hc,hl,hlen,hall]))|simp -dsimp (disch:=first|omega|(simp only [go_sem]; omega)) only [go_sem,seval,Nat.reduceEqDiff,Nat.reduceLeDiff,hldx,hbx,Nat.mul_one,hc,hl,hlen,hall]))
   refine ⟨_,_,?_,stle,j + 1,_,by omega,rfl,?_,rfl⟩
   · omega
   · rw [hes,List.take_succ_eq_append_getElem hj',List.map_append,List.flatten_append,List.map_append,hk1]
     simp only [List.map_cons,List.map_nil,List.flatten_cons,List.flatten_nil,List.append_nil,List.map_replicate]
 · obtain rfl:j=(opened d).length:=by omega
   rw [List.take_length,open_flat] at hes
   subst hes
   refine goR trivial ?_
   exact Fin.eq rfl ⟨rfl,_,⟨rfl,rfl⟩,hs4.tail⟩
theorem sepG {A:As} {R:List As} {G:Gh} (hs:Sep (A::R) G):∀ R' G',Sep ((fun H=>H=G)::R') G'→Sep (A::R') G':=by
 rintro R' G' ⟨K1,K2,k1,k2,k3,rfl,k5⟩
 obtain ⟨G1,G2,h1,h2,h3,h4,h5⟩:=hs
 exact ⟨G1,K2,h1.trans k1,k2,k3.sub h1 (.refl _),h4,k5⟩
theorem sepG0 (G:Gh):Sep ([fun H=>H=G] ++ []) G :=
 ⟨G,noGh,.refl _,⟨fun _ _ e=>(by cases e),fun _ _ e=>(by cases e)⟩,⟨fun _=>.inr rfl,fun _=>.inr rfl⟩,rfl,trivial⟩
theorem openG_ok (p:Nat) (d:Dk) (hl:(openL d).length≤1000000000) {R:List As} {G:Gh} (hs:Sep (DiskA p d::R) G) (σ:List Hp) :
 CallT Try.prog f_zz28 ([.gp p 0].map .d) σ G fun r σ' G'=>σ'=σ∧(r=.d (.list ((openL d).map eI))∧GExt G G'):=by
 refine (OpenX_ok p d (fun H=>H=G) (sepG hs) hl [] G σ (sepG0 G)).mono ?_
 rintro r σ' G' ⟨h1,post,⟨h2,rfl⟩,h3⟩
 obtain ⟨K1,_,k1,_,_,rfl,_⟩:=h3
 exact ⟨h1,h2,⟨k1.c,k1.m⟩⟩
theorem openT_bound {d:Dk} (h:Okd d):∀ k,k≤d.cs.length→((openT d k).length:Int)≤k * d.steps
 | 0,_=>by simp [openT]
 | k + 1,hk=>by
   have h1:=openT_bound h k (by omega)
   have h2:=h.few d.cs[k] (List.getElem_mem hk)
   rw [openT_succ,List.length_append,List.length_replicate,opAt_get hk]
   push_cast
   rw [Int.add_mul]
   omega
theorem open_bound {d:Dk} (h:Okd d) (h1:d.cs.length≤200) (h2:d.steps≤1000):(openL d).length≤1000000:=by
 have:=openT_bound h d.cs.length (Nat.le_refl _)
 have hs:=h.st
 have e:openL d=openT d d.cs.length:=rfl
 rw [e]
 have h3:(d.cs.length:Int) * d.steps≤200 * 1000:=Int.mul_le_mul (by omega) h2 (by omega) (by omega)
 omega
end Go.Proofs.Ytioojmlhmhgeeaa
