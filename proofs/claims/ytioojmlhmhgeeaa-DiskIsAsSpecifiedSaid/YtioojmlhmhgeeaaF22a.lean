/-
 Layer 21 (disk): how a disk of the program lies in memory; New,and what only looks.
 Conditions: of each contract as it says.
-/
import Derived.Test.YtioojmlhmhgeeaaT22
import Derived.Test.YtioojmlhmhgeeaaEN13
import Derived.Test.YtioojmlhmhgeeaaS22
namespace Go.Proofs.Ytioojmlhmhgeeaa
open Go Go.E2 C22
set_option linter.unusedSimpArgs false
set_option maxHeartbeats 1000000
def eS (s:Sec):D:=.agg (s.1.map eB)
def eC (c:Cel):D:=.agg (c.s.1.map eB ++ [.bool c.bad])
abbrev eI (n:Int):D:=.int .i64 n
theorem eS_cells (s:Sec):(eS s).cells=s.1.map eB:=rfl
theorem eC_cells (c:Cel):(eC c).cells=c.s.1.map eB ++ [.bool c.bad]:=rfl
theorem eB_one (l:List UInt8):(l.map eB).all D.one=true:=by simp [List.all_map,Function.comp_def,eB,D.one]
theorem sec_len (s:Sec):(s.1.map eB).length=64:=by rw [List.length_map,s.2]
@[go_sem] theorem eS_size (s:Sec):sizeOk 64 (eS s)=true:=by simp only [sizeOk,eS_cells,sec_len,eB_one]; rfl
@[go_sem] theorem eC_size (c:Cel):sizeOk 65 (eC c)=true:=by simp only [sizeOk,eC_cells,List.length_append,sec_len,List.all_append,eB_one]; rfl
@[go_sem] theorem eS_all (l:List Sec):(l.map eS).all (sizeOk 64)=true:=by rw [List.all_eq_true]; intro x hx; obtain ⟨s,_,rfl⟩:=List.mem_map.1 hx; exact eS_size s
@[go_sem] theorem eC_all (l:List Cel):(l.map eC).all (sizeOk 65)=true:=by rw [List.all_eq_true]; intro x hx; obtain ⟨s,_,rfl⟩:=List.mem_map.1 hx; exact eC_size s
theorem zr_z0:zr 64 (.int .u8 0)=z0.1.map eB:=rfl
@[go_sem] theorem zr_one (n:Nat) (k:IntKind) (v:Int):(zr n (.int k v)).all D.one=true:=by simp [zr,D.one]
@[go_sem] theorem zr_len (n:Nat) (x:D):(zr n x).length=n:=by simp [zr]
@[go_sem] theorem eBs_one (l:List UInt8):(l.map eB).all D.one=true:=eB_one l
@[go_sem] theorem zr_drop (n k:Nat) (x:D):(zr n x).drop k=zr (n - k) x:=by simp [zr]
@[go_sem] theorem zr_take (n k:Nat) (x:D):(zr n x).take k=zr (min k n) x:=by simp [zr]
@[go_sem] theorem zr_0 (x:D):zr 0 x=[]:=rfl
@[go_sem] theorem s_len (s:Sec):s.1.length=64:=s.2
@[go_sem] theorem s_drop (s:Sec) (n:Nat) (h:64≤n):(s.1.map eB).drop n=[]:=List.drop_of_length_le (by rw [sec_len]; exact h)
@[go_sem] theorem s_take (s:Sec) (n:Nat) (h:64≤n):(s.1.map eB).take n=s.1.map eB:=List.take_of_length_le (by rw [sec_len]; exact h)
attribute [go_sem] eS eC
attribute [go_sem] List.append_nil List.nil_append List.take_zero List.drop_zero
attribute [go_sem] List.all_append List.all_cons List.all_nil Bool.and_true List.length_append
def OpA (d:Dk) (m:List (Int × D)):As:=Star (m.map fun q=>SlA 64 q.2 ((opAt d q.1).map eS))
structure OpOk (d:Dk) (m:List (Int × D)):Prop where
 has:∀ i,(mget m i).isSome=true↔opAt d i ≠ []
def DiskA (p:Nat) (d:Dk):As:=fun G=>Okd d∧∃ cb r cap m,OpOk d m ∧
 Star [CellA p [.gs cb 0 d.cs.length cap,.mref r,eI d.steps,eI d.after,.bool d.dead],SlA 65 (.gs cb 0 d.cs.length cap) (d.cs.map eC),MapA [.i] eI id r m,OpA d m] G
structure DiskP (p:Nat) (d:Dk) (R:List As) (G:Gh) (cb r cap:Nat) (m:List (Int × D)):Prop where
 ok:Okd d
 op:OpOk d m
 sep:Sep (CellA p [.gs cb 0 d.cs.length cap,.mref r,eI d.steps,eI d.after,.bool d.dead]::SlA 65 (.gs cb 0 d.cs.length cap) (d.cs.map eC)::MapA [.i] eI id r m::OpA d m::R) G
theorem DiskP.open {p:Nat} {d:Dk} {R:List As} {G:Gh} (h:Sep (DiskA p d::R) G):∃ cb r cap m,DiskP p d R G cb r cap m:=by
 obtain ⟨h1,h2⟩:=h.pure
 obtain ⟨cb,h2⟩:=h2.ex
 obtain ⟨r,h2⟩:=h2.ex
 obtain ⟨cap,h2⟩:=h2.ex
 obtain ⟨m,h2⟩:=h2.ex
 obtain ⟨h3,h2⟩:=h2.pure
 exact ⟨cb,r,cap,m,h1,h3,h2.app⟩
theorem DiskP.close {p:Nat} {d:Dk} {R:List As} {G:Gh} {cb r cap:Nat} {m:List (Int × D)} (h:DiskP p d R G cb r cap m):Sep (DiskA p d::R) G:=by
 have:=Sep.of_app (l:=[CellA p [.gs cb 0 d.cs.length cap,.mref r,eI d.steps,eI d.after,.bool d.dead],SlA 65 (.gs cb 0 d.cs.length cap) (d.cs.map eC),MapA [.i] eI id r m,OpA d m]) h.sep
 exact this.imp fun G hG=>⟨h.ok,cb,r,cap,m,h.op,hG⟩
section
variable {p:Nat} {d:Dk} {R:List As} {G:Gh} {cb r cap:Nat} {m:List (Int × D)}
theorem DiskP.cell (h:DiskP p d R G cb r cap m):G.c p=some [.gs cb 0 d.cs.length cap,.mref r,.int .i64 d.steps,.int .i64 d.after,.bool d.dead]:=h.sep.get
theorem DiskP.row (h:DiskP p d R G cb r cap m):∃ cs,G.c cb=some cs∧Row 65 d.cs.length cap (d.cs.map eC) cs:=by
 have:=h.sep.tail.gv
 obtain ⟨b,cap',cs,e,h1,h2⟩:=this.inv (by have:=h.ok.pos; intro e; rw [List.map_eq_nil_iff] at e; rw [e] at this; simp at this)
 simp only [D.gs.injEq,List.length_map] at e
 obtain ⟨rfl,_,_,rfl⟩:=e
 exact ⟨cs,h1,by simpa using h2⟩
theorem DiskP.map (h:DiskP p d R G cb r cap m):MapL [.i] eI id G r m:=h.sep.tail.tail.map
end
theorem Row.sub {sz n cap:Nat} {es cs:List D} (h:Row sz n cap es cs) {i j k:Nat} (hi:i < es.length) (hj:j + k≤sz):vCells true k (some cs) (i * sz + j)=some (.d (.agg ((es[i].cells.drop j).take k))):=by
 have hg:=h.get hi
 have hf:=h.fits hi
 have hl:es[i].cells.length=sz:=by rw [← hg,List.length_take,List.length_drop]; omega
 simp only [vCells,loadD,if_true]
 rw [if_pos (by rw [List.length_drop]; omega),← hg,Option.map_some]
 rw [List.drop_take,List.drop_drop,List.take_take,Nat.min_eq_left (by omega)]
theorem Size_ok (p:Nat) (d:Dk):CallR Try.prog f_zz30 [.gp p 0] [DiskA p d] (·=.d (.int .i64 d.cs.length)):=by
 refine callR_of_W fol zz30_cp fun R G σ hs=>?_
 obtain ⟨cb,r,cap,m,hd⟩:=DiskP.open hs
 have hc:=hd.cell
 refine goS trivial ?_
 refine goR hc ?_
 exact Fin.eq rfl ⟨rfl,rfl,rfl⟩
theorem Steps_ok (p:Nat) (d:Dk):CallR Try.prog f_zz21 [.gp p 0] [DiskA p d] (·=.d (.int .i64 d.steps)):=by
 refine callR_of_W fol zz21_cp fun R G σ hs=>?_
 obtain ⟨cb,r,cap,m,hd⟩:=DiskP.open hs
 have hc:=hd.cell
 refine goS trivial ?_
 refine goR hc ?_
 exact Fin.eq rfl ⟨rfl,rfl,rfl⟩
theorem Down_ok (p:Nat) (d:Dk):CallR Try.prog f_zz26 [.gp p 0] [DiskA p d] (·=.d (.bool d.dead)):=by
 refine callR_of_W fol zz26_cp fun R G σ hs=>?_
 obtain ⟨cb,r,cap,m,hd⟩:=DiskP.open hs
 have hc:=hd.cell
 refine goS trivial ?_
 refine goR hc ?_
 exact Fin.eq rfl ⟨rfl,rfl,rfl⟩
theorem check_ok (p:Nat) (d:Dk) (i:Int):CallR Try.prog f_zz23 [.gp p 0,.int .i64 i] [DiskA p d] (·=.d (.int .i64 (chk d i))):=by
 refine callR_of_W fol zz23_cp fun R G σ hs=>?_
 obtain ⟨cb,r,cap,m,hd⟩:=DiskP.open hs
 have hc:=hd.cell
 by_cases hdead:d.dead=true
 · refine goS trivial ?_
   (repeat' (first|(with_reducible first|refine W.seq ?_|refine W.block ?_)|((first|(with_reducible first|refine W.reg ?_|refine W.skip ?_|refine W.exit ?_|refine W.ret ?_|refine W.ifc ?_)|((with_reducible first|refine wG_decE (fun _ hG=>?_) (fun _ hG=>?_)|refine wG_decFE (fun _ hG=>?_) (fun _ hG=>?_))<;>(try simp -dsimp only [hG,decide_true,decide_false,not_true_eq_false,not_false_eq_true])<;>clear hG))<;>(try simp -dsimp (disch:=first|omega|(simp only [go_sem]; omega)) only [go_sem,seval,Nat.reduceEqDiff,Nat.reduceLeDiff,hc,hdead]))|simp -dsimp (disch:=first|omega|(simp only [go_sem]; omega)) only [go_sem,seval,Nat.reduceEqDiff,Nat.reduceLeDiff,hc,hdead]))
   all_goals exact Fin.eq rfl ⟨rfl,rfl,by unfold chk; rw [if_pos hdead]⟩
 · have hdead':d.dead=false:=by simpa using hdead
   refine goS trivial ?_
   (repeat' (first|(with_reducible first|refine W.seq ?_|refine W.block ?_)|((first|(with_reducible first|refine W.reg ?_|refine W.skip ?_|refine W.exit ?_|refine W.ret ?_|refine W.ifc ?_)|((with_reducible first|refine wG_decE (fun _ hG=>?_) (fun _ hG=>?_)|refine wG_decFE (fun _ hG=>?_) (fun _ hG=>?_))<;>(try simp -dsimp only [hG,decide_true,decide_false,not_true_eq_false,not_false_eq_true])<;>clear hG))<;>(try simp -dsimp (disch:=first|omega|(simp only [go_sem]; omega)) only [go_sem,seval,Nat.reduceEqDiff,Nat.reduceLeDiff,hc,hdead']))|simp -dsimp (disch:=first|omega|(simp only [go_sem]; omega)) only [go_sem,seval,Nat.reduceEqDiff,Nat.reduceLeDiff,hc,hdead']))
   all_goals first|exact Fin.eq rfl ⟨rfl,rfl,by unfold chk; rw [if_neg hdead,if_pos (by omega)]⟩|exact Fin.eq rfl ⟨rfl,rfl,by unfold chk; rw [if_neg hdead,if_neg (by omega)]⟩
theorem Sep.toSl {sz n cap b:Nat} {es cs:List D} {R:List As} {G:Gh} (h:Sep (CellA b cs::R) G) (hr:Row sz n cap es cs):Sep (SlA sz (.gs b 0 n cap) es::R) G:=h.imp fun _ e=>GV.mk e hr
theorem Sep.op0 {d:Dk} {R:List As} {G:Gh} (h:Sep R G):Sep (OpA d []::R) G:=Sep.of_app (l:=[]) h
theorem zr_d0 (n:Nat):rep n (zr 64 (.int .u8 0) ++ [.bool false])=flat ((List.replicate n freshC).map eC):=by
 rw [rep_flat,List.map_replicate]; rfl
theorem opAt_fresh (n:Nat) (i:Int):opAt (fresh n) i=[]:=by
 unfold opAt
 split
 · rfl
 · cases h:(fresh n).cs[i.toNat]? with
   | none=>rfl
   | some c =>
    have:=List.mem_of_getElem? h
    obtain rfl:=(List.mem_replicate.1 this).2
    rfl
theorem New_ok (n:Int) (h1:1≤n) (h2:n≤65536):CallS Try.prog f_zz37 [.int .i64 n] [] (fun r post=>∃ p,r=.d (.gp p 0)∧post=[DiskA p (fresh n.toNat)]):=by
 refine callS_of_W fol zz37_cp fun R G σ hs=>?_
 have q1:¬ n < 1:=by omega
 have q2:¬ 65536 < n:=by omega
 refine goS trivial ?_
 refine goR (nn q1 q2) ?_
 refine wP_mk ⟨by omega,by omega,by omega⟩ ?_
 refine wNew_mk fun cb hcb=>?_
 refine goS trivial ?_
 refine goR trivial ?_
 refine wNewM_mk fun r hr=>?_
 refine goS trivial ?_
 refine goR trivial ?_
 refine wNew_mk fun p hp=>?_
 refine goS trivial ?_
 refine goR trivial ?_
 refine Fin.eq rfl ⟨rfl,_,⟨p,rfl,rfl⟩,?_⟩
 refine DiskP.close (m:=[]) (cb:=cb) (r:=r) (cap:=n.toNat) ⟨okd_fresh (by omega) (by omega),⟨fun i=>by rw [opAt_fresh]; simp [mget]⟩,?_⟩
 have hl:(fresh n.toNat).cs.length=n.toNat:=by simp [fresh]
 have hrow:Row 65 n.toNat n.toNat ((fresh n.toNat).cs.map eC) (rep n.toNat (zr 64 (.int .u8 0) ++ [.bool false])):=by
  rw [zr_d0]
  have:=Row.mk' (sz:=65) (n:=n.toNat) (cap:=n.toNat) (es:=(fresh n.toNat).cs.map eC) (rest:=[]) (by simp [fresh]) (eC_all _) (Nat.le_refl _) (by rw [List.append_nil,flat_length (eC_all _),List.length_map,hl]; exact Nat.le_refl _)
  simpa [fresh] using this
 have h3:=(Sep.new (b:=p) (cs:=[.gs cb 0 n.toNat n.toNat,.mref r,.int .i64 0,.int .i64 (-1),.bool false]) hp (Sep.mapNew (vf:=id) (keyE_int .i64) hr (Sep.toSl (Sep.new hcb (Sep.op0 (d:=fresh n.toNat) hs)) hrow))).cons fun _=>Sep.swap
 rw [hl]
 exact h3
theorem DiskP.put {p:Nat} {d d':Dk} {R:List As} {G:Gh} {cb r cap:Nat} {m:List (Int × D)} (h:DiskP p d R G cb r cap m) (hok:Okd d') (hcs:d'.cs=d.cs) :
 DiskP p d' R (G.set p (some [.gs cb 0 d.cs.length cap,.mref r,.int .i64 d'.steps,.int .i64 d'.after,.bool d'.dead])) cb r cap m:=by
 have hop:∀ i,opAt d' i=opAt d i:=fun i=>by unfold opAt; rw [hcs]
 refine ⟨hok,⟨fun i=>by rw [hop]; exact h.op.has i⟩,?_⟩
 have e:OpA d' m=OpA d m:=by unfold OpA; simp only [hop]
 rw [hcs,e]
 exact h.sep.set
theorem Arm_ok (p:Nat) (d:Dk) (n:Int) (hn:n≤9223372036854775807):CallS Try.prog f_zz33 [.gp p 0,.int .i64 n] [DiskA p d] (fun _ post=>post=[DiskA p (arm d n)]):=by
 refine callS_of_W fol zz33_cp fun R G σ hs=>?_
 obtain ⟨cb,r,cap,m,hd⟩:=DiskP.open hs
 have hc:=hd.cell
 refine goS trivial ?_
 refine goR hc ?_
 exact Fin.eq rfl ⟨rfl,_,rfl,(hd.put (arm_ok hd.ok hn) rfl).close⟩
theorem step_ok (p:Nat) (d:Dk) (hn:d.steps≤1000000000):CallS Try.prog f_zz32 [.gp p 0] [DiskA p d] (fun r post=>r=.d (.int .i64 (stp d).2)∧post=[DiskA p (stp d).1]):=by
 refine callS_of_W fol zz32_cp fun R G σ hs=>?_
 obtain ⟨cb,r,cap,m,hd⟩:=DiskP.open hs
 have hc:=hd.cell
 have hst:=hd.ok.st
 have haf:=hd.ok.aft
 obtain ⟨hok,_,_,hcs⟩:=stp_ok hd.ok hn
 refine goS trivial ?_
 (repeat' (first|(with_reducible first|refine W.seq ?_|refine W.block ?_)|((first|(with_reducible first|refine W.reg ?_|refine W.skip ?_|refine W.exit ?_|refine W.ret ?_|refine W.ifc ?_)|((with_reducible first|refine wG_decE (fun _ hG=>?_) (fun _ hG=>?_)|refine wG_decFE (fun _ hG=>?_) (fun _ hG=>?_))<;>(try simp -dsimp only [hG,decide_true,decide_false,not_true_eq_false,not_false_eq_true])<;>clear hG))<;>(try simp -dsimp (disch:=first|omega|(simp only [go_sem]; omega)) only [go_sem,seval,Nat.reduceEqDiff,Nat.reduceLeDiff,hc]))|simp -dsimp (disch:=first|omega|(simp only [go_sem]; omega)) only [go_sem,seval,Nat.reduceEqDiff,Nat.reduceLeDiff,hc]))
 · rename_i ha
   have e:stp d=({ d with dead:=true },12):=by unfold stp; rw [if_pos ha]
   rw [e] at hok ⊢
   exact Fin.eq rfl ⟨rfl,_,⟨rfl,rfl⟩,(hd.put hok rfl).close⟩
 · rename_i ha hb
   have e:stp d=({ d with after:=d.after - 1,steps:=d.steps + 1 },0):=by unfold stp; rw [if_neg ha,if_pos hb]
   rw [e] at hok ⊢
   exact Fin.eq rfl ⟨rfl,_,⟨rfl,rfl⟩,(hd.put hok rfl).close⟩
 · rename_i ha hb
   have e:stp d=({ d with after:=d.after,steps:=d.steps + 1 },0):=by unfold stp; rw [if_neg ha,if_neg hb]
   rw [e] at hok ⊢
   exact Fin.eq rfl ⟨rfl,_,⟨rfl,rfl⟩,(hd.put hok rfl).close⟩
theorem list_nth {α:Type} {l:List α} {i:Nat} (h:i < l.length):l[i]?=some l[i]:=List.getElem?_eq_getElem h
theorem DiskP.look {p:Nat} {d:Dk} {R:List As} {G:Gh} {cb r cap:Nat} {m:List (Int × D)} (h:DiskP p d R G cb r cap m) (i:Int) :
 ∃ x,gdD (.mlook [.i] .nilS false) [.mref r,.int .i64 i] G=some (.d x,G)∧GV 64 G x ((opAt d i).map eS)∧(mget m i=none→x=.nilS∧opAt d i=[])∧∀ v,mget m i=some v→x=v:=by
 have hl:=h.map.look .nilS i
 cases hg:mget m i with
 | none =>
  have h0:opAt d i=[]:=by
   apply Classical.byContradiction
   intro e
   have:=(h.op.has i).2 e
   rw [hg] at this; cases this
  rw [hg] at hl
  exact ⟨_,hl,by rw [h0]; exact .nil,fun _=>⟨rfl,h0⟩,fun v e=>by cases e⟩
 | some v =>
  rw [hg] at hl
  refine ⟨_,hl,?_,fun e=>(by cases e),fun w e=>by cases e; rfl⟩
  have hs:Sep (OpA d m::R) G:=h.sep.tail.tail.tail
  have hm:=mget_mem hg
  obtain ⟨l1,l2,e⟩:=List.append_of_mem hm
  have hs2:=hs.app
  rw [e,List.map_append,List.map_cons,List.append_assoc] at hs2
  have hs3:=hs2.perm (l':=SlA 64 v ((opAt d i).map eS)::(l1.map (fun q=>SlA 64 q.2 ((opAt d q.1).map eS)) ++ (l2.map (fun q=>SlA 64 q.2 ((opAt d q.1).map eS)) ++ R))) List.perm_middle
  exact hs3.gv
theorem gv_last {G:Gh} {x:D} {l:List Sec} (h:GV 64 G x (l.map eS)) (hne:l ≠ []):∃ b cap cs,x=.gs b 0 l.length cap∧G.c b=some cs∧vCells true 64 (some cs) ((l.length - 1) * 64)=some (.d (eS (l.getLast hne))):=by
 obtain ⟨b,cap,cs,e,hb,hr⟩:=h.inv (by simpa using hne)
 rw [List.length_map] at e hr
 have hl:0 < l.length:=List.length_pos_iff.2 hne
 have:=hr.idx (i:=l.length - 1) (by rw [List.length_map]; omega)
 rw [List.getElem_map] at this
 refine ⟨b,cap,cs,e,hb,?_⟩
 rw [this,List.getLast_eq_getElem]; rfl
theorem Read_ok (p:Nat) (d:Dk) (i:Int):CallR Try.prog f_zz29 [.gp p 0,.int .i64 i] [DiskA p d] (·=.tup [eS (rd d i).1,.int .i64 (rd d i).2]):=by
 refine callR_of_W fol zz29_cp fun R G σ hs=>?_
 obtain ⟨cb,r,cap,m,hd⟩:=DiskP.open hs
 have hc:=hd.cell
 obtain ⟨cells,hcb,hrow⟩:=hd.row
 by_cases hk:chk d i=0
 · obtain ⟨hdead,h0,h1⟩:=chk_zero hk
   obtain ⟨k,rfl⟩:∃ k:Nat,i=k:=⟨i.toNat,by omega⟩
   have hkl:k < d.cs.length:=by omega
   obtain ⟨c,hcc⟩:∃ c,c=d.cs[k]:=⟨_,rfl⟩
   have hrd:rd d k=celRd c:=by unfold rd; rw [if_neg (by rw [hk]; simp),Int.toNat_natCast,list_nth hkl,hcc]
   have hop:opAt d k=c.op:=by rw [opAt_get hkl,hcc]
   obtain ⟨x,hl,hv,_,_⟩:=hd.look k
   rw [hop] at hv
   refine goS trivial ?_
   have hlen:=hv.len
   rw [List.length_map] at hlen
   by_cases hne:c.op=[]
   · rw [hne] at hlen
     have hrd2:celRd c=if c.bad=true then (z0,14) else (c.s,0):=by unfold celRd; rw [hne]; rfl
     have hfl:=hrow.fld (i:=k) (j:=64) (by simpa using hkl) (by omega)
     have hsu:=Row.sub hrow (i:=k) (j:=0) (k:=64) (by simpa using hkl) (by omega)
     rw [List.getElem_map,← hcc] at hfl hsu
     have e1:(eC c).cells[64]?=some (.bool c.bad):=by rw [eC_cells,List.getElem?_append_right (by simp [s_len]),sec_len]; rfl
     have e2:((eC c).cells.drop 0).take 64=c.s.1.map eB:=by rw [List.drop_zero,eC_cells,List.take_append_of_le_length (by simp [s_len]),List.take_of_length_le (by simp [s_len])]
     rw [e1] at hfl
     rw [e2,Nat.add_zero] at hsu
     cases hb:c.bad
     all_goals
      rw [hb] at hfl hrd2
      simp only [if_true,Bool.false_eq_true,if_false] at hrd2
      (repeat' (first|(with_reducible first|refine W.seq ?_|refine W.block ?_)|((first|(with_reducible first|refine W.reg ?_|refine W.skip ?_|refine W.exit ?_|refine W.ret ?_|refine W.ifc ?_)|(apply wC_Q ((check_ok p d k).q hs); (focus (simp -dsimp (disch:=first|omega|(simp only [go_sem]; omega)) only [go_sem,seval,Nat.reduceEqDiff,Nat.reduceLeDiff,hk]<;>rfl)); rintro _ rfl; try simp -dsimp (disch:=first|omega|(simp only [go_sem]; omega)) only [go_sem,seval,Nat.reduceEqDiff,Nat.reduceLeDiff,hk])|((with_reducible first|refine wG_decE (fun _ hG=>?_) (fun _ hG=>?_)|refine wG_decFE (fun _ hG=>?_) (fun _ hG=>?_))<;>(try simp -dsimp only [hG,decide_true,decide_false,not_true_eq_false,not_false_eq_true])<;>clear hG))<;>(try simp -dsimp (disch:=first|omega|(simp only [go_sem]; omega)) only [go_sem,seval,Nat.reduceEqDiff,Nat.reduceLeDiff,hk,hc,hl,hlen,hcb,hfl,hsu,Int.toNat_natCast]))|simp -dsimp (disch:=first|omega|(simp only [go_sem]; omega)) only [go_sem,seval,Nat.reduceEqDiff,Nat.reduceLeDiff,hk,hc,hl,hlen,hcb,hfl,hsu,Int.toNat_natCast]))
      (apply Fin.eq; (focus (simp -dsimp (disch:=first|omega|(simp only [go_sem]; omega)) only [go_sem,seval,Nat.reduceEqDiff,Nat.reduceLeDiff]<;>rfl)))
      refine ⟨rfl,rfl,?_⟩
      rw [hrd,hrd2]; rfl
   · obtain ⟨b,cap',cs,rfl,hb,hla⟩:=gv_last hv hne
     have hl0:0 < c.op.length:=List.length_pos_iff.2 hne
     have hrd2:celRd c=(c.op.getLast hne,0):=by unfold celRd; rw [List.getLast?_eq_some_getLast hne]
     have e3:((c.op.length:Int) - 1).toNat=c.op.length - 1:=by omega
     have hfew:=hd.ok.few c (by rw [hcc]; exact List.getElem_mem hkl)
     have hst:=hd.ok.st
     have hgt:(0 < (c.op.length:Int))=True:=eq_true (by omega)
     (repeat' (first|(with_reducible first|refine W.seq ?_|refine W.block ?_)|((first|(with_reducible first|refine W.reg ?_|refine W.skip ?_|refine W.exit ?_|refine W.ret ?_|refine W.ifc ?_)|(apply wC_Q ((check_ok p d k).q hs); (focus (simp -dsimp (disch:=first|omega|(simp only [go_sem]; omega)) only [go_sem,seval,Nat.reduceEqDiff,Nat.reduceLeDiff,hk]<;>rfl)); rintro _ rfl; try simp -dsimp (disch:=first|omega|(simp only [go_sem]; omega)) only [go_sem,seval,Nat.reduceEqDiff,Nat.reduceLeDiff,hk])|((with_reducible first|refine wG_decE (fun _ hG=>?_) (fun _ hG=>?_)|refine wG_decFE (fun _ hG=>?_) (fun _ hG=>?_))<;>(try simp -dsimp only [hG,decide_true,decide_false,not_true_eq_false,not_false_eq_true])<;>clear hG))<;>(try simp -dsimp (disch:=first|omega|(simp only [go_sem]; omega)) only [go_sem,seval,Nat.reduceEqDiff,Nat.reduceLeDiff,hk,hc,hl,hb,e3,hla,hgt]))|simp -dsimp (disch:=first|omega|(simp only [go_sem]; omega)) only [go_sem,seval,Nat.reduceEqDiff,Nat.reduceLeDiff,hk,hc,hl,hb,e3,hla,hgt]))
     (apply Fin.eq; (focus (simp -dsimp (disch:=first|omega|(simp only [go_sem]; omega)) only [go_sem,seval,Nat.reduceEqDiff,Nat.reduceLeDiff]<;>rfl)))
     refine ⟨rfl,rfl,?_⟩
     rw [hrd,hrd2]; rfl
 · have hrd:rd d i=(z0,chk d i):=by unfold rd; rw [if_pos hk]
   refine goS trivial ?_
   (repeat' (first|(with_reducible first|refine W.seq ?_|refine W.block ?_)|((first|(with_reducible first|refine W.reg ?_|refine W.skip ?_|refine W.exit ?_|refine W.ret ?_|refine W.ifc ?_)|(apply wC_Q ((check_ok p d i).q hs); (focus (simp -dsimp (disch:=first|omega|(simp only [go_sem]; omega)) only [go_sem,seval,Nat.reduceEqDiff,Nat.reduceLeDiff,hk]<;>rfl)); rintro _ rfl; try simp -dsimp (disch:=first|omega|(simp only [go_sem]; omega)) only [go_sem,seval,Nat.reduceEqDiff,Nat.reduceLeDiff,hk])|((with_reducible first|refine wG_decE (fun _ hG=>?_) (fun _ hG=>?_)|refine wG_decFE (fun _ hG=>?_) (fun _ hG=>?_))<;>(try simp -dsimp only [hG,decide_true,decide_false,not_true_eq_false,not_false_eq_true])<;>clear hG))<;>(try simp -dsimp (disch:=first|omega|(simp only [go_sem]; omega)) only [go_sem,seval,Nat.reduceEqDiff,Nat.reduceLeDiff,hk]))|simp -dsimp (disch:=first|omega|(simp only [go_sem]; omega)) only [go_sem,seval,Nat.reduceEqDiff,Nat.reduceLeDiff,hk]))
   (apply Fin.eq; (focus (simp -dsimp (disch:=first|omega|(simp only [go_sem]; omega)) only [go_sem,seval,Nat.reduceEqDiff,Nat.reduceLeDiff]<;>rfl)))
   refine ⟨rfl,rfl,?_⟩
   rw [hrd]; rfl
end Go.Proofs.Ytioojmlhmhgeeaa
/-
 Layer 21 (disk),continued: Write,Flip,Rot.
 Conditions: of each contract as it says.
-/
namespace Go.Proofs.Ytioojmlhmhgeeaa
open Go Go.E2 C22
set_option linter.unusedSimpArgs false
set_option maxHeartbeats 1000000
section
variable {p:Nat} {d:Dk} {R:List As} {G:Gh} {cb r cap:Nat} {m:List (Int × D)}
theorem OpA.out {i:Int} {v:D} (hm:mget m i=some v) (h:Sep (OpA d m::R) G):Sep (SlA 64 v ((opAt d i).map eS)::OpA d (mdel m i)::R) G:=by
 have h2:=(h.app).perm (((mget_perm hm).map fun q:Int × D=>SlA 64 q.2 ((opAt d q.1).map eS)).append_right R)
 exact h2.cons fun _=>Sep.of_app
theorem OpA.into {i:Int} {v:D} (h:Sep (SlA 64 v ((opAt d i).map eS)::OpA d (mdel m i)::R) G):Sep (OpA d (mput m i v)::R) G:=by
 have h2:=(h.cons fun _=>Sep.app).perm (((mput_perm (m:=m) i v).map fun q:Int × D=>SlA 64 q.2 ((opAt d q.1).map eS)).append_right R).symm
 exact Sep.of_app h2
theorem OpA.same {d':Dk} (h:∀ q ∈ m,opAt d' q.1=opAt d q.1):OpA d' m=OpA d m:=by
 unfold OpA
 congr 1
 exact List.map_congr_left fun q hq=>by rw [h q hq]
theorem DiskP.grown (h:DiskP p d R G cb r cap m) {i:Int} {x x':D} {es:List Sec} (hx:∀ v,mget m i=some v→x=v) (hx0:mget m i=none→x=.nilS∧opAt d i=[])
 {G3:Gh} (ht:GTo x x' G G3) (hv:GV 64 G3 x' (es.map eS)) :
 Sep (SlA 64 x' (es.map eS)::OpA d (mdel m i)::MapA [.i] eI id r m::CellA p [.gs cb 0 d.cs.length cap,.mref r,eI d.steps,eI d.after,.bool d.dead]::SlA 65 (.gs cb 0 d.cs.length cap) (d.cs.map eC)::R) G3:=by
 have h1:Sep (SlA 64 x ((opAt d i).map eS)::OpA d (mdel m i)::MapA [.i] eI id r m::CellA p [.gs cb 0 d.cs.length cap,.mref r,eI d.steps,eI d.after,.bool d.dead]::SlA 65 (.gs cb 0 d.cs.length cap) (d.cs.map eC)::R) G:=by
  have h0:Sep (OpA d m::MapA [.i] eI id r m::CellA p [.gs cb 0 d.cs.length cap,.mref r,eI d.steps,eI d.after,.bool d.dead]::SlA 65 (.gs cb 0 d.cs.length cap) (d.cs.map eC)::R) G:=h.sep.f4.cons fun _=>Sep.f3
  cases hg:mget m i with
  | some v=>rw [hx v hg]; exact OpA.out hg h0
  | none =>
   obtain ⟨e1,e2⟩:=hx0 hg
   rw [e1,e2,mdel_none hg]; exact h0.slNil
 exact h1.grow ht hv
theorem DiskP.regrow (h:DiskP p d R G cb r cap m) {d':Dk} (hok:Okd d') (hst:d'.steps=d.steps) (haf:d'.after=d.after) (hde:d'.dead=d.dead) (hcs:d'.cs.map eC=d.cs.map eC) {i:Int} {x':D} {es:List Sec}
 (hop:∀ j,opAt d' j=if j=i then es else opAt d j) (hne:es ≠ []) {G3:Gh}
 (h2:Sep (SlA 64 x' (es.map eS)::OpA d (mdel m i)::MapA [.i] eI id r m::CellA p [.gs cb 0 d.cs.length cap,.mref r,eI d.steps,eI d.after,.bool d.dead]::SlA 65 (.gs cb 0 d.cs.length cap) (d.cs.map eC)::R) G3)
 {M:MO} (hm:MapL [.i] eI id (G3.setM r (some M)) r (mput m i x')):DiskP p d' R (G3.setM r (some M)) cb r cap (mput m i x'):=by
 have hnd:=h.map.nodup
 have hlen:d'.cs.length=d.cs.length:=by have:=congrArg List.length hcs; simpa using this
 have h3:=(Sep.mapSet h2.f3 hm).b3
 have e1:opAt d' i=es:=by rw [hop,if_pos rfl]
 have e2:OpA d' (mdel m i)=OpA d (mdel m i):=OpA.same fun q hq=>by rw [hop,if_neg ((mem_mdel hnd).1 hq).2]
 rw [← e1,← e2] at h3
 have h4:=OpA.into h3
 refine ⟨hok,⟨fun j=>?_⟩,?_⟩
 · rw [mget_put,hop]
   split
   · rename_i e; subst e; simp [hne]
   · exact h.op.has j
 · rw [hlen,hst,haf,hde,hcs]
   exact (h4.f3.cons fun _=>Sep.f3).cons fun _ hh=>hh.cons fun _=>Sep.swap
end
theorem modify_map {α β:Type} {l:List α} {k:Nat} {f:α→α} {g:α→β} (h:∀ x,g (f x)=g x):(l.modify k f).map g=l.map g:=by
 apply List.ext_getElem?
 intro i
 rw [List.getElem?_map,List.getElem?_map,List.getElem?_modify]
 cases l[i]? with
 | none=>rfl
 | some x=>simp only [Option.map_some]; split<;>simp [h]
theorem opAt_modify {d d':Dk} {k:Nat} {f:Cel→Cel} (h:d'.cs=d.cs.modify k f) (hk:k < d.cs.length) (j:Int):opAt d' j=if j=k then (f d.cs[k]).op else opAt d j:=by
 unfold opAt
 rw [h,List.getElem?_modify]
 by_cases e:j=k
 · subst e
   rw [if_pos rfl,if_neg (by omega),Int.toNat_natCast,list_nth hk]
   simp
 · rw [if_neg e]
   by_cases hj:j < 0
   · rw [if_pos hj,if_pos hj]
   · rw [if_neg hj,if_neg hj]
     have:¬ k=j.toNat:=by omega
     cases d.cs[j.toNat]? <;> simp [this]
theorem Write_ok (p:Nat) (d:Dk) (i:Int) (s:Sec) (hn:d.steps≤1000000000):CallS Try.prog f_zz22 [.gp p 0,.int .i64 i,eS s] [DiskA p d] (fun r post=>r=.d (.int .i64 (wr d i s).2)∧post=[DiskA p (wr d i s).1]):=by
 refine callS_of_W fol zz22_cp fun R G σ hs=>?_
 by_cases hk:chk d i=0
 · obtain ⟨hdead,h0,h1⟩:=chk_zero hk
   obtain ⟨k,rfl⟩:∃ k:Nat,i=k:=⟨i.toNat,by omega⟩
   have hkl:k < d.cs.length:=by omega
   obtain ⟨hwok,_⟩:=wr_ok (d:=d) (by obtain ⟨_,_,_,_,h⟩:=DiskP.open hs; exact h.ok) hn k s
   refine goS trivial ?_
   (repeat' (first|(with_reducible first|refine W.seq ?_|refine W.block ?_)|((first|(with_reducible first|refine W.reg ?_|refine W.skip ?_|refine W.exit ?_|refine W.ret ?_|refine W.ifc ?_)|(apply wC_Q ((check_ok p d k).q hs); (focus (simp -dsimp (disch:=first|omega|(simp only [go_sem]; omega)) only [go_sem,seval,Nat.reduceEqDiff,Nat.reduceLeDiff,hk]<;>rfl)); rintro _ rfl; try simp -dsimp (disch:=first|omega|(simp only [go_sem]; omega)) only [go_sem,seval,Nat.reduceEqDiff,Nat.reduceLeDiff,hk])|((with_reducible first|refine wG_decE (fun _ hG=>?_) (fun _ hG=>?_)|refine wG_decFE (fun _ hG=>?_) (fun _ hG=>?_))<;>(try simp -dsimp only [hG,decide_true,decide_false,not_true_eq_false,not_false_eq_true])<;>clear hG))<;>(try simp -dsimp (disch:=first|omega|(simp only [go_sem]; omega)) only [go_sem,seval,Nat.reduceEqDiff,Nat.reduceLeDiff,hk]))|simp -dsimp (disch:=first|omega|(simp only [go_sem]; omega)) only [go_sem,seval,Nat.reduceEqDiff,Nat.reduceLeDiff,hk]))
   (refine goM (step_ok p d hn) (hs) ?_)
   rintro _ _ G2 ⟨rfl,rfl⟩ hs2
   by_cases hst:(stp d).2=0
   · have hw:wr d k s=({ (stp d).1 with cs:=d.cs.modify k fun c=>{ c with op:=c.op ++ [s] } },0):=by unfold wr; rw [if_neg (by rw [hk]; simp),if_neg (by rw [hst]; simp),Int.toNat_natCast]
     rw [hw] at hwok ⊢
     obtain ⟨cb,r,cap,m,hd⟩:=DiskP.open hs2
     have hc:=hd.cell
     obtain ⟨x,hl,hv,hx0,hx⟩:=hd.look k
     have hcs:(stp d).1.cs=d.cs:=by unfold stp; split<;>rfl
     have hfew:=hd.ok.few ((stp d).1.cs[k]'(by rw [hcs]; exact hkl)) (List.getElem_mem _)
     have hop:opAt (stp d).1 k=((stp d).1.cs[k]'(by rw [hcs]; exact hkl)).op:=opAt_get (by rw [hcs]; exact hkl)
     have hst2:=hd.ok.st
     refine goS hst ?_
     (repeat' (first|(with_reducible first|refine W.seq ?_|refine W.block ?_)|((first|(with_reducible first|refine W.reg ?_|refine W.skip ?_|refine W.exit ?_|refine W.ret ?_|refine W.ifc ?_)|((with_reducible first|refine wG_decE (fun _ hG=>?_) (fun _ hG=>?_)|refine wG_decFE (fun _ hG=>?_) (fun _ hG=>?_))<;>(try simp -dsimp only [hG,decide_true,decide_false,not_true_eq_false,not_false_eq_true])<;>clear hG))<;>(try simp -dsimp (disch:=first|omega|(simp only [go_sem]; omega)) only [go_sem,seval,Nat.reduceEqDiff,Nat.reduceLeDiff,hst,hc,hl]))|simp -dsimp (disch:=first|omega|(simp only [go_sem]; omega)) only [go_sem,seval,Nat.reduceEqDiff,Nat.reduceLeDiff,hst,hc,hl]))
     have hkl2:k < (stp d).1.cs.length:=by rw [hcs]; exact hkl
     refine appV_GV2 (es2:=[eS s]) (m:=1) hv (viewC_list (es:=[eS s]) (eS_all [s])) rfl (eS_all [s]) (zr_len _ _) (by rw [List.length_map,hop,mostBytes_eq]; omega) fun x' G3 hv3 hto=>?_
     have h2:=hd.grown (es:=opAt (stp d).1 k ++ [s]) hx hx0 hto (by rw [List.map_append]; exact hv3)
     have hc3:=h2.f4.get
     have hm3:=h2.f3.map
     (repeat' (first|(with_reducible first|refine W.seq ?_|refine W.block ?_)|((first|(with_reducible first|refine W.reg ?_|refine W.skip ?_|refine W.exit ?_|refine W.ret ?_|refine W.ifc ?_)|((with_reducible first|refine wG_decE (fun _ hG=>?_) (fun _ hG=>?_)|refine wG_decFE (fun _ hG=>?_) (fun _ hG=>?_))<;>(try simp -dsimp only [hG,decide_true,decide_false,not_true_eq_false,not_false_eq_true])<;>clear hG))<;>(try simp -dsimp (disch:=first|omega|(simp only [go_sem]; omega)) only [go_sem,seval,Nat.reduceEqDiff,Nat.reduceLeDiff,hc,hc3]))|simp -dsimp (disch:=first|omega|(simp only [go_sem]; omega)) only [go_sem,seval,Nat.reduceEqDiff,Nat.reduceLeDiff,hc,hc3]))
     refine wGd_put (emb:=eI) (vf:=id) hm3 k x' fun M hM=>?_
     (repeat' (first|(with_reducible first|refine W.seq ?_|refine W.block ?_)|((first|(with_reducible first|refine W.reg ?_|refine W.skip ?_|refine W.exit ?_|refine W.ret ?_|refine W.ifc ?_)|((with_reducible first|refine wG_decE (fun _ hG=>?_) (fun _ hG=>?_)|refine wG_decFE (fun _ hG=>?_) (fun _ hG=>?_))<;>(try simp -dsimp only [hG,decide_true,decide_false,not_true_eq_false,not_false_eq_true])<;>clear hG))<;>(try simp -dsimp (disch:=first|omega|(simp only [go_sem]; omega)) only [go_sem,seval,Nat.reduceEqDiff,Nat.reduceLeDiff]))|simp -dsimp (disch:=first|omega|(simp only [go_sem]; omega)) only [go_sem,seval,Nat.reduceEqDiff,Nat.reduceLeDiff]))
     refine Fin.eq rfl ⟨rfl,_,⟨rfl,rfl⟩,?_⟩
     refine (hd.regrow hwok rfl rfl rfl ?_ ?_ (by simp) h2 hM).close
     · rw [hcs]; exact modify_map fun c=>rfl
     · intro j
       have:=opAt_modify (d:=(stp d).1) (d':={ (stp d).1 with cs:=d.cs.modify k fun c=>{ c with op:=c.op ++ [s] } }) (k:=k) (f:=fun c=>{ c with op:=c.op ++ [s] }) (by rw [hcs]) hkl2 j
       rw [this,hop]
   · have hw:wr d k s=stp d:=by unfold wr; rw [if_neg (by rw [hk]; simp),if_pos hst]
     rw [hw]
     refine goS hst ?_
     (repeat' (first|(with_reducible first|refine W.seq ?_|refine W.block ?_)|((first|(with_reducible first|refine W.reg ?_|refine W.skip ?_|refine W.exit ?_|refine W.ret ?_|refine W.ifc ?_)|((with_reducible first|refine wG_decE (fun _ hG=>?_) (fun _ hG=>?_)|refine wG_decFE (fun _ hG=>?_) (fun _ hG=>?_))<;>(try simp -dsimp only [hG,decide_true,decide_false,not_true_eq_false,not_false_eq_true])<;>clear hG))<;>(try simp -dsimp (disch:=first|omega|(simp only [go_sem]; omega)) only [go_sem,seval,Nat.reduceEqDiff,Nat.reduceLeDiff,hst]))|simp -dsimp (disch:=first|omega|(simp only [go_sem]; omega)) only [go_sem,seval,Nat.reduceEqDiff,Nat.reduceLeDiff,hst]))
     exact Fin.eq rfl ⟨rfl,_,⟨rfl,rfl⟩,hs2⟩
 · have hw:wr d i s=(d,chk d i):=by unfold wr; rw [if_pos hk]
   refine goS trivial ?_
   (repeat' (first|(with_reducible first|refine W.seq ?_|refine W.block ?_)|((first|(with_reducible first|refine W.reg ?_|refine W.skip ?_|refine W.exit ?_|refine W.ret ?_|refine W.ifc ?_)|(apply wC_Q ((check_ok p d i).q hs); (focus (simp -dsimp (disch:=first|omega|(simp only [go_sem]; omega)) only [go_sem,seval,Nat.reduceEqDiff,Nat.reduceLeDiff,hk]<;>rfl)); rintro _ rfl; try simp -dsimp (disch:=first|omega|(simp only [go_sem]; omega)) only [go_sem,seval,Nat.reduceEqDiff,Nat.reduceLeDiff,hk])|((with_reducible first|refine wG_decE (fun _ hG=>?_) (fun _ hG=>?_)|refine wG_decFE (fun _ hG=>?_) (fun _ hG=>?_))<;>(try simp -dsimp only [hG,decide_true,decide_false,not_true_eq_false,not_false_eq_true])<;>clear hG))<;>(try simp -dsimp (disch:=first|omega|(simp only [go_sem]; omega)) only [go_sem,seval,Nat.reduceEqDiff,Nat.reduceLeDiff,hk]))|simp -dsimp (disch:=first|omega|(simp only [go_sem]; omega)) only [go_sem,seval,Nat.reduceEqDiff,Nat.reduceLeDiff,hk]))
   exact Fin.eq rfl ⟨rfl,_,⟨by rw [hw],by rw [hw]⟩,hs⟩
end Go.Proofs.Ytioojmlhmhgeeaa
