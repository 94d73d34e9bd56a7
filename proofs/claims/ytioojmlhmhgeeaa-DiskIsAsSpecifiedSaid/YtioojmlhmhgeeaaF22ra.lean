/-
 Layer 21 (disk): the disk of the specification: how it lies in memory; what only looks.
 Conditions: of each contract as it says.
-/
import Derived.Test.YtioojmlhmhgeeaaF22c
import Derived.Test.YtioojmlhmhgeeaaS22
namespace Go.Proofs.Ytioojmlhmhgeeaa
open Go Go.E2 C22
set_option linter.unusedSimpArgs false
set_option maxHeartbeats 1000000
def eL (op:List Sec):D:=if op=[] then .nilS else .list (op.map eS)
def eR (c:Cel):D:=.agg (c.s.1.map eB ++ [.bool c.bad,eL c.op])
theorem eL_one (op:List Sec):(eL op).one=true:=by unfold eL; split<;>rfl
theorem eR_cells (c:Cel):(eR c).cells=c.s.1.map eB ++ [.bool c.bad,eL c.op]:=rfl
@[go_sem] theorem eR_size (c:Cel):sizeOk 66 (eR c)=true:=by simp only [sizeOk,eR_cells,List.length_append,sec_len,List.all_append,eB_one,List.all_cons,eL_one]; rfl
@[go_sem] theorem eR_all (l:List Cel):(l.map eR).all (sizeOk 66)=true:=by rw [List.all_eq_true]; intro x hx; obtain ⟨s,_,rfl⟩:=List.mem_map.1 hx; exact eR_size s
def RefA (p:Nat) (d:Dk):As:=fun G=>Okd d∧∃ cb cap,Star [CellA p [.gs cb 0 d.cs.length cap,eI d.steps,eI d.after,.bool d.dead],SlA 66 (.gs cb 0 d.cs.length cap) (d.cs.map eR)] G
structure RefP (p:Nat) (d:Dk) (R:List As) (G:Gh) (cb cap:Nat):Prop where
 ok:Okd d
 sep:Sep (CellA p [.gs cb 0 d.cs.length cap,eI d.steps,eI d.after,.bool d.dead]::SlA 66 (.gs cb 0 d.cs.length cap) (d.cs.map eR)::R) G
theorem RefP.open {p:Nat} {d:Dk} {R:List As} {G:Gh} (h:Sep (RefA p d::R) G):∃ cb cap,RefP p d R G cb cap:=by
 obtain ⟨h1,h2⟩:=h.pure
 obtain ⟨cb,h2⟩:=h2.ex
 obtain ⟨cap,h2⟩:=h2.ex
 exact ⟨cb,cap,h1,h2.app⟩
theorem RefP.close {p:Nat} {d:Dk} {R:List As} {G:Gh} {cb cap:Nat} (h:RefP p d R G cb cap):Sep (RefA p d::R) G:=by
 have:=Sep.of_app (l:=[CellA p [.gs cb 0 d.cs.length cap,eI d.steps,eI d.after,.bool d.dead],SlA 66 (.gs cb 0 d.cs.length cap) (d.cs.map eR)]) h.sep
 exact this.imp fun G hG=>⟨h.ok,cb,cap,hG⟩
section
variable {p:Nat} {d:Dk} {R:List As} {G:Gh} {cb cap:Nat}
theorem RefP.cell (h:RefP p d R G cb cap):G.c p=some [.gs cb 0 d.cs.length cap,.int .i64 d.steps,.int .i64 d.after,.bool d.dead]:=h.sep.get
theorem RefP.row (h:RefP p d R G cb cap):∃ cs,G.c cb=some cs∧Row 66 d.cs.length cap (d.cs.map eR) cs:=by
 have:=h.sep.tail.gv
 obtain ⟨b,cap',cs,e,h1,h2⟩:=this.inv (by have:=h.ok.pos; intro e; rw [List.map_eq_nil_iff] at e; rw [e] at this; simp at this)
 simp only [D.gs.injEq,List.length_map] at e
 obtain ⟨rfl,_,_,rfl⟩:=e
 exact ⟨cs,h1,by simpa using h2⟩
theorem RefP.put {d':Dk} (h:RefP p d R G cb cap) (hok:Okd d') (hcs:d'.cs=d.cs) :
 RefP p d' R (G.set p (some [.gs cb 0 d.cs.length cap,.int .i64 d'.steps,.int .i64 d'.after,.bool d'.dead])) cb cap:=by
 refine ⟨hok,?_⟩
 rw [hcs]
 exact h.sep.set
theorem RefP.setC {d':Dk} (h:RefP p d R G cb cap) (hok:Okd d') (hst:d'.steps=d.steps) (haf:d'.after=d.after) (hde:d'.dead=d.dead) (hlen:d'.cs.length=d.cs.length) {cs':List D} (hr:Row 66 d.cs.length cap (d'.cs.map eR) cs') :
 RefP p d' R (G.set cb (some cs')) cb cap:=by
 refine ⟨hok,?_⟩
 rw [hlen,hst,haf,hde]
 exact (Sep.slSet h.sep.swap hr).swap
end
theorem rcheck_ok (p:Nat) (d:Dk) (i:Int):CallR Try.prog f_zz3 [.gp p 0,.int .i64 i] [RefA p d] (·=.d (.int .i64 (chk d i))):=by
 refine callR_of_W fol zz3_cp fun R G σ hs=>?_
 obtain ⟨cb,cap,hd⟩:=RefP.open hs
 have hc:=hd.cell
 by_cases hdead:d.dead=true
 · refine goS trivial ?_
   (repeat' (first|(with_reducible first|refine W.seq ?_|refine W.block ?_)|((first|(with_reducible first|refine W.reg ?_|refine W.skip ?_|refine W.exit ?_|refine W.ret ?_|refine W.ifc ?_)|((with_reducible first|refine wG_decE (fun _ hG=>?_) (fun _ hG=>?_)|refine wG_decFE (fun _ hG=>?_) (fun _ hG=>?_))<;>(try simp -dsimp only [hG,decide_true,decide_false,not_true_eq_false,not_false_eq_true])<;>clear hG))<;>(try simp -dsimp (disch:=first|omega|(simp only [go_sem]; omega)) only [go_sem,seval,Nat.reduceEqDiff,Nat.reduceLeDiff,hc,hdead]))|simp -dsimp (disch:=first|omega|(simp only [go_sem]; omega)) only [go_sem,seval,Nat.reduceEqDiff,Nat.reduceLeDiff,hc,hdead]))
   all_goals exact Fin.eq rfl ⟨rfl,rfl,by unfold chk; rw [if_pos hdead]⟩
 · have hdead':d.dead=false:=by simpa using hdead
   refine goS trivial ?_
   (repeat' (first|(with_reducible first|refine W.seq ?_|refine W.block ?_)|((first|(with_reducible first|refine W.reg ?_|refine W.skip ?_|refine W.exit ?_|refine W.ret ?_|refine W.ifc ?_)|((with_reducible first|refine wG_decE (fun _ hG=>?_) (fun _ hG=>?_)|refine wG_decFE (fun _ hG=>?_) (fun _ hG=>?_))<;>(try simp -dsimp only [hG,decide_true,decide_false,not_true_eq_false,not_false_eq_true])<;>clear hG))<;>(try simp -dsimp (disch:=first|omega|(simp only [go_sem]; omega)) only [go_sem,seval,Nat.reduceEqDiff,Nat.reduceLeDiff,hc,hdead']))|simp -dsimp (disch:=first|omega|(simp only [go_sem]; omega)) only [go_sem,seval,Nat.reduceEqDiff,Nat.reduceLeDiff,hc,hdead']))
   all_goals first|exact Fin.eq rfl ⟨rfl,rfl,by unfold chk; rw [if_neg hdead,if_pos (by omega)]⟩|exact Fin.eq rfl ⟨rfl,rfl,by unfold chk; rw [if_neg hdead,if_neg (by omega)]⟩
theorem rArm_ok (p:Nat) (d:Dk) (n:Int) (hn:n≤9223372036854775807):CallS Try.prog f_zz9 [.gp p 0,.int .i64 n] [RefA p d] (fun _ post=>post=[RefA p (arm d n)]):=by
 refine callS_of_W fol zz9_cp fun R G σ hs=>?_
 obtain ⟨cb,cap,hd⟩:=RefP.open hs
 have hc:=hd.cell
 refine goS trivial ?_
 refine goR hc ?_
 exact Fin.eq rfl ⟨rfl,_,rfl,(hd.put (arm_ok hd.ok hn) rfl).close⟩
theorem rstep_ok (p:Nat) (d:Dk) (hn:d.steps≤1000000000):CallS Try.prog f_zz8 [.gp p 0] [RefA p d] (fun r post=>r=.d (.bool (decide ((stp d).2=0)))∧post=[RefA p (stp d).1]):=by
 refine callS_of_W fol zz8_cp fun R G σ hs=>?_
 obtain ⟨cb,cap,hd⟩:=RefP.open hs
 have hc:=hd.cell
 have hst:=hd.ok.st
 have haf:=hd.ok.aft
 obtain ⟨hok,_,_,hcs⟩:=stp_ok hd.ok hn
 refine goS trivial ?_
 (repeat' (first|(with_reducible first|refine W.seq ?_|refine W.block ?_)|((first|(with_reducible first|refine W.reg ?_|refine W.skip ?_|refine W.exit ?_|refine W.ret ?_|refine W.ifc ?_)|((with_reducible first|refine wG_decE (fun _ hG=>?_) (fun _ hG=>?_)|refine wG_decFE (fun _ hG=>?_) (fun _ hG=>?_))<;>(try simp -dsimp only [hG,decide_true,decide_false,not_true_eq_false,not_false_eq_true])<;>clear hG))<;>(try simp -dsimp (disch:=first|omega|(simp only [go_sem]; omega)) only [go_sem,seval,Nat.reduceEqDiff,Nat.reduceLeDiff,hc]))|simp -dsimp (disch:=first|omega|(simp only [go_sem]; omega)) only [go_sem,seval,Nat.reduceEqDiff,Nat.reduceLeDiff,hc]))
 · rename_i ha
   have e:stp d=({ d with dead:=true },12):=by unfold stp; rw [if_pos ha]
   rw [e] at hok ⊢
   exact Fin.eq rfl ⟨rfl,_,⟨rfl,rfl⟩,(hd.put hok rfl).close⟩
 · rename_i ha hb
   have e:stp d=({ d with after:=d.after - 1,steps:=d.steps + 1 },0):=by unfold stp; rw [if_neg ha,if_pos hb]
   rw [e] at hok ⊢
   exact Fin.eq rfl ⟨rfl,_,⟨rfl,rfl⟩,(hd.put hok rfl).close⟩
 · rename_i ha hb
   have e:stp d=({ d with after:=d.after,steps:=d.steps + 1 },0):=by unfold stp; rw [if_neg ha,if_neg hb]
   rw [e] at hok ⊢
   exact Fin.eq rfl ⟨rfl,_,⟨rfl,rfl⟩,(hd.put hok rfl).close⟩
theorem zr_r0 (n:Nat):rep n (zr 64 (.int .u8 0) ++ [.bool false,.nilS])=flat ((List.replicate n freshC).map eR):=by
 rw [rep_flat,List.map_replicate]; rfl
theorem rNew_ok (n:Int) (h1:1≤n) (h2:n≤65536):CallS Try.prog f_zz19 [.int .i64 n] [] (fun r post=>∃ p,r=.d (.gp p 0)∧post=[RefA p (fresh n.toNat)]):=by
 refine callS_of_W fol zz19_cp fun R G σ hs=>?_
 have q1:¬ n < 1:=by omega
 have q2:¬ 65536 < n:=by omega
 refine goS trivial ?_
 refine goR (nn q1 q2) ?_
 refine wP_mk ⟨by omega,by omega,by omega⟩ ?_
 refine wNew_mk fun cb hcb=>?_
 refine goS trivial ?_
 refine goR trivial ?_
 refine wNew_mk fun p hp=>?_
 refine goS trivial ?_
 refine goR trivial ?_
 refine Fin.eq rfl ⟨rfl,_,⟨p,rfl,rfl⟩,?_⟩
 refine RefP.close (cb:=cb) (cap:=n.toNat) ⟨okd_fresh (by omega) (by omega),?_⟩
 have hl:(fresh n.toNat).cs.length=n.toNat:=by simp [fresh]
 have hrow:Row 66 n.toNat n.toNat ((fresh n.toNat).cs.map eR) (rep n.toNat (zr 64 (.int .u8 0) ++ [.bool false,.nilS])):=by
  rw [zr_r0]
  have:=Row.mk' (sz:=66) (n:=n.toNat) (cap:=n.toNat) (es:=(fresh n.toNat).cs.map eR) (rest:=[]) (by simp [fresh]) (eR_all _) (Nat.le_refl _) (by rw [List.append_nil,flat_length (eR_all _),List.length_map,hl]; exact Nat.le_refl _)
  simpa [fresh] using this
 have h3:=Sep.new (b:=p) (cs:=[.gs cb 0 n.toNat n.toNat,.int .i64 0,.int .i64 (-1),.bool false]) hp (Sep.toSl (Sep.new hcb hs) hrow)
 rw [hl]
 exact h3
end Go.Proofs.Ytioojmlhmhgeeaa
/-
 Layer 21 (disk): the disk of the specification: Read,Write.
 Conditions: of each contract as it says.
-/
namespace Go.Proofs.Ytioojmlhmhgeeaa
open Go Go.E2 C22
set_option linter.unusedSimpArgs false
set_option maxHeartbeats 1000000
def eGot (x:Sec × Int):D:=.agg (x.1.1.map eB ++ [.int .i64 x.2])
theorem rCel_len (s:Sec) (b:Bool) (x:D):(s.1.map eB ++ [D.bool b,x]).length=66:=by rw [List.length_append,sec_len]; rfl
theorem rCel_64 (s:Sec) (b:Bool) (x:D):(List.drop 64 (s.1.map eB ++ [D.bool b,x])).head?=some (.bool b):=by rw [List.drop_left' (sec_len s)]; rfl
theorem rCel_65 (s:Sec) (b:Bool) (x:D):(List.drop 65 (s.1.map eB ++ [D.bool b,x])).head?=some x:=by
 have:s.1.map eB ++ [D.bool b,x]=(s.1.map eB ++ [D.bool b]) ++ [x]:=by simp
 rw [this,List.drop_left' (by rw [List.length_append,sec_len]; rfl)]; rfl
theorem rCel_0 (s:Sec) (b:Bool) (x:D):List.take 64 (s.1.map eB ++ [D.bool b,x])=s.1.map eB:=List.take_left' (sec_len s)
theorem rRow {cs:List Cel} {cap:Nat} {cells:List D} (hrow:Row 66 cs.length cap (cs.map eR) cells) {k:Nat} (hk:k < cs.length) :
 vCells true 66 (some cells) (k * 66)=some (.d (eR cs[k]))∧vCells false 1 (some cells) (k * 66 + 64)=some (.d (.bool cs[k].bad))∧vCells false 1 (some cells) (k * 66 + 65)=some (.d (eL cs[k].op)):=by
 have h1:=hrow.idx (i:=k) (by simpa using hk)
 have h2:=hrow.fld (i:=k) (j:=64) (by simpa using hk) (by omega)
 have h3:=hrow.fld (i:=k) (j:=65) (by simpa using hk) (by omega)
 rw [List.getElem_map] at h1 h2 h3
 refine ⟨h1,?_,?_⟩
 · rw [h2,eR_cells,List.getElem?_append_right (by rw [sec_len]; decide),sec_len]; rfl
 · rw [h3,eR_cells,List.getElem?_append_right (by rw [sec_len]; decide),sec_len]; rfl
theorem rRead_ok (p:Nat) (d:Dk) (i:Int):CallR Try.prog f_zz6 [.gp p 0,.int .i64 i] [RefA p d] (·=.d (eGot (rd d i))):=by
 refine callR_of_W fol zz6_cp fun R G σ hs=>?_
 obtain ⟨cb,cap,hd⟩:=RefP.open hs
 have hc:=hd.cell
 obtain ⟨cells,hcb,hrow⟩:=hd.row
 by_cases hk:chk d i=0
 · obtain ⟨hdead,h0,h1⟩:=chk_zero hk
   obtain ⟨k,rfl⟩:∃ k:Nat,i=k:=⟨i.toNat,by omega⟩
   have hkl:k < d.cs.length:=by omega
   obtain ⟨r1,r2,r3⟩:=rRow hrow hkl
   obtain ⟨c,hcc⟩:∃ c,c=d.cs[k]:=⟨_,rfl⟩
   have hrd:rd d k=celRd c:=by unfold rd; rw [if_neg (by rw [hk]; simp),Int.toNat_natCast,list_nth hkl,hcc]
   rw [← hcc] at r1 r2 r3
   have hcl:=rCel_len c.s c.bad
   have hc64:=rCel_64 c.s c.bad
   have hc65:=rCel_65 c.s c.bad
   have hc0:=rCel_0 c.s c.bad
   unfold eR at r1
   by_cases hne:c.op=[]
   · have hrd2:celRd c=if c.bad=true then (z0,14) else (c.s,0):=by unfold celRd; rw [hne]; rfl
     have eop:eL c.op=.nilS:=by unfold eL; rw [if_pos hne]
     rw [eop] at r1
     have hcl:=hcl .nilS
     have hc64:=hc64 .nilS
     have hc65:=hc65 .nilS
     have hc0:=hc0 .nilS
     cases hb:c.bad
     all_goals
      rw [hb] at r1 hcl hc64 hc65 hc0 hrd2
      simp only [if_true,Bool.false_eq_true,if_false] at hrd2
      refine goS trivial ?_
      (repeat' (first|(with_reducible first|refine W.seq ?_|refine W.block ?_)|((first|(with_reducible first|refine W.reg ?_|refine W.skip ?_|refine W.exit ?_|refine W.ret ?_|refine W.ifc ?_)|(apply wC_Q ((rcheck_ok p d k).q hs); (focus (simp -dsimp (disch:=first|omega|(simp only [go_sem]; omega)) only [go_sem,seval,Nat.reduceEqDiff,Nat.reduceLeDiff,hk]<;>rfl)); rintro _ rfl; try simp -dsimp (disch:=first|omega|(simp only [go_sem]; omega)) only [go_sem,seval,Nat.reduceEqDiff,Nat.reduceLeDiff,hk])|((with_reducible first|refine wG_decE (fun _ hG=>?_) (fun _ hG=>?_)|refine wG_decFE (fun _ hG=>?_) (fun _ hG=>?_))<;>(try simp -dsimp only [hG,decide_true,decide_false,not_true_eq_false,not_false_eq_true])<;>clear hG))<;>(try simp -dsimp (disch:=first|omega|(simp only [go_sem]; omega)) only [go_sem,seval,Nat.reduceEqDiff,Nat.reduceLeDiff,hk,hc,hcb,r1,hcl,hc64,hc65,hc0,Int.toNat_natCast]))|simp -dsimp (disch:=first|omega|(simp only [go_sem]; omega)) only [go_sem,seval,Nat.reduceEqDiff,Nat.reduceLeDiff,hk,hc,hcb,r1,hcl,hc64,hc65,hc0,Int.toNat_natCast]))
      (apply Fin.eq; (focus (simp -dsimp (disch:=first|omega|(simp only [go_sem]; omega)) only [go_sem,seval,Nat.reduceEqDiff,Nat.reduceLeDiff]<;>rfl)))
      refine ⟨rfl,rfl,?_⟩
      rw [hrd,hrd2]; rfl
   · have hrd2:celRd c=(c.op.getLast hne,0):=by unfold celRd; rw [List.getLast?_eq_some_getLast hne]
     have eop:eL c.op=.list (c.op.map eS):=by unfold eL; rw [if_neg hne]
     rw [eop] at r1
     have hcl:=hcl (.list (c.op.map eS))
     have hc65:=hc65 (.list (c.op.map eS))
     have hl0:0 < c.op.length:=List.length_pos_iff.2 hne
     have hla:(c.op.map eS)[c.op.length - 1]?=some (eS (c.op.getLast hne)):=by rw [List.getElem?_map,List.getLast_eq_getElem,List.getElem?_eq_getElem (by omega)]; rfl
     have hfew:=hd.ok.few c (by rw [hcc]; exact List.getElem_mem hkl)
     have hst:=hd.ok.st
     have hgt:(0 < (c.op.length:Int))=True:=eq_true (by omega)
     have e3:((c.op.length:Int) - 1).toNat=c.op.length - 1:=by omega
     refine goS trivial ?_
     (repeat' (first|(with_reducible first|refine W.seq ?_|refine W.block ?_)|((first|(with_reducible first|refine W.reg ?_|refine W.skip ?_|refine W.exit ?_|refine W.ret ?_|refine W.ifc ?_)|(apply wC_Q ((rcheck_ok p d k).q hs); (focus (simp -dsimp (disch:=first|omega|(simp only [go_sem]; omega)) only [go_sem,seval,Nat.reduceEqDiff,Nat.reduceLeDiff,hk]<;>rfl)); rintro _ rfl; try simp -dsimp (disch:=first|omega|(simp only [go_sem]; omega)) only [go_sem,seval,Nat.reduceEqDiff,Nat.reduceLeDiff,hk])|((with_reducible first|refine wG_decE (fun _ hG=>?_) (fun _ hG=>?_)|refine wG_decFE (fun _ hG=>?_) (fun _ hG=>?_))<;>(try simp -dsimp only [hG,decide_true,decide_false,not_true_eq_false,not_false_eq_true])<;>clear hG))<;>(try simp -dsimp (disch:=first|omega|(simp only [go_sem]; omega)) only [go_sem,seval,Nat.reduceEqDiff,Nat.reduceLeDiff,hk,hc,hcb,r1,hcl,hc65,Int.toNat_natCast,hgt,hla,e3]))|simp -dsimp (disch:=first|omega|(simp only [go_sem]; omega)) only [go_sem,seval,Nat.reduceEqDiff,Nat.reduceLeDiff,hk,hc,hcb,r1,hcl,hc65,Int.toNat_natCast,hgt,hla,e3]))
     (apply Fin.eq; (focus (simp -dsimp (disch:=first|omega|(simp only [go_sem]; omega)) only [go_sem,seval,Nat.reduceEqDiff,Nat.reduceLeDiff]<;>rfl)))
     refine ⟨rfl,rfl,?_⟩
     rw [hrd,hrd2,List.getLast_eq_getElem]; rfl
 · have hrd:rd d i=(z0,chk d i):=by unfold rd; rw [if_pos hk]
   refine goS trivial ?_
   (repeat' (first|(with_reducible first|refine W.seq ?_|refine W.block ?_)|((first|(with_reducible first|refine W.reg ?_|refine W.skip ?_|refine W.exit ?_|refine W.ret ?_|refine W.ifc ?_)|(apply wC_Q ((rcheck_ok p d i).q hs); (focus (simp -dsimp (disch:=first|omega|(simp only [go_sem]; omega)) only [go_sem,seval,Nat.reduceEqDiff,Nat.reduceLeDiff,hk]<;>rfl)); rintro _ rfl; try simp -dsimp (disch:=first|omega|(simp only [go_sem]; omega)) only [go_sem,seval,Nat.reduceEqDiff,Nat.reduceLeDiff,hk])|((with_reducible first|refine wG_decE (fun _ hG=>?_) (fun _ hG=>?_)|refine wG_decFE (fun _ hG=>?_) (fun _ hG=>?_))<;>(try simp -dsimp only [hG,decide_true,decide_false,not_true_eq_false,not_false_eq_true])<;>clear hG))<;>(try simp -dsimp (disch:=first|omega|(simp only [go_sem]; omega)) only [go_sem,seval,Nat.reduceEqDiff,Nat.reduceLeDiff,hk]))|simp -dsimp (disch:=first|omega|(simp only [go_sem]; omega)) only [go_sem,seval,Nat.reduceEqDiff,Nat.reduceLeDiff,hk]))
   (apply Fin.eq; (focus (simp -dsimp (disch:=first|omega|(simp only [go_sem]; omega)) only [go_sem,seval,Nat.reduceEqDiff,Nat.reduceLeDiff]<;>rfl)))
   refine ⟨rfl,rfl,?_⟩
   rw [hrd]; rfl
theorem row_rel {cs:List Cel} {cap:Nat} {cells:List D} (hrow:Row 66 cs.length cap (cs.map eR) cells) {k:Nat} (hk:k < cs.length) (f:Cel→Cel) :
 Row 66 cs.length cap ((cs.modify k f).map eR) (cells.take (k * 66) ++ ((f cs[k]).s.1.map eB ++ [.bool (f cs[k]).bad,eL (f cs[k]).op]) ++ cells.drop (k * 66 + 66)):=by
 have:=hrow.set (i:=k) (by simpa using hk) (eR_size (f cs[k]))
 have e:over cells (eR (f cs[k])).cells (k * 66)=cells.take (k * 66) ++ ((f cs[k]).s.1.map eB ++ [.bool (f cs[k]).bad,eL (f cs[k]).op]) ++ cells.drop (k * 66 + 66):=by
  unfold over
  rw [eR_cells,rCel_len]
 rw [e] at this
 rw [modify_set hk,List.map_set]
 exact this
theorem row_fld {cs:List Cel} {cap:Nat} {cells:List D} (hrow:Row 66 cs.length cap (cs.map eR) cells) {k:Nat} (hk:k < cs.length) {j:Nat} (hj:j < 66) {v:D} (hv:v.one=true) (f:Cel→Cel) (hf:(eR cs[k]).cells.set j v=(eR (f cs[k])).cells) :
 Row 66 cs.length cap ((cs.modify k f).map eR) (cells.take (k * 66 + j) ++ [v] ++ cells.drop (k * 66 + j + 1)):=by
 have:=hrow.setF (i:=k) (j:=j) (by simpa using hk) hj hv
 rw [List.getElem_map,hf] at this
 rw [modify_set hk,List.map_set]
 exact this
theorem rWrite_ok (p:Nat) (d:Dk) (i:Int) (s:Sec) (hn:d.steps≤1000000000):CallS Try.prog f_zz2 [.gp p 0,.int .i64 i,eS s] [RefA p d] (fun r post=>r=.d (.int .i64 (wr d i s).2)∧post=[RefA p (wr d i s).1]):=by
 refine callS_of_W fol zz2_cp fun R G σ hs=>?_
 obtain ⟨cb,cap,hd⟩:=RefP.open hs
 by_cases hk:chk d i=0
 · obtain ⟨hdead,h0,h1⟩:=chk_zero hk
   obtain ⟨k,rfl⟩:∃ k:Nat,i=k:=⟨i.toNat,by omega⟩
   have hkl:k < d.cs.length:=by omega
   obtain ⟨hok,hst2⟩:=wr_ok hd.ok hn k s
   obtain ⟨_,_,_,hscs⟩:=stp_ok hd.ok hn
   have hw:wr d k s=if (stp d).2 ≠ 0 then stp d else ({ (stp d).1 with cs:=d.cs.modify k fun c=>{ c with op:=c.op ++ [s] } },0):=by
    unfold wr; rw [if_neg (by rw [hk]; simp),Int.toNat_natCast]
   rw [hw] at hok ⊢
   refine goS trivial ?_
   (repeat' (first|(with_reducible first|refine W.seq ?_|refine W.block ?_)|((first|(with_reducible first|refine W.reg ?_|refine W.skip ?_|refine W.exit ?_|refine W.ret ?_|refine W.ifc ?_)|(apply wC_Q ((rcheck_ok p d k).q hs); (focus (simp -dsimp (disch:=first|omega|(simp only [go_sem]; omega)) only [go_sem,seval,Nat.reduceEqDiff,Nat.reduceLeDiff,hk]<;>rfl)); rintro _ rfl; try simp -dsimp (disch:=first|omega|(simp only [go_sem]; omega)) only [go_sem,seval,Nat.reduceEqDiff,Nat.reduceLeDiff,hk])|((with_reducible first|refine wG_decE (fun _ hG=>?_) (fun _ hG=>?_)|refine wG_decFE (fun _ hG=>?_) (fun _ hG=>?_))<;>(try simp -dsimp only [hG,decide_true,decide_false,not_true_eq_false,not_false_eq_true])<;>clear hG))<;>(try simp -dsimp (disch:=first|omega|(simp only [go_sem]; omega)) only [go_sem,seval,Nat.reduceEqDiff,Nat.reduceLeDiff,hk]))|simp -dsimp (disch:=first|omega|(simp only [go_sem]; omega)) only [go_sem,seval,Nat.reduceEqDiff,Nat.reduceLeDiff,hk]))
   (refine goM (rstep_ok p d hn) (hs) ?_)
   rintro _ _ G2 ⟨rfl,rfl⟩ hs2'
   have hs2:Sep (RefA p (stp d).1::R) G2:=hs2'
   clear hs2'
   obtain ⟨d1,e1,hd1⟩:∃ d1 e1,(d1,e1)=stp d:=⟨_,_,rfl⟩
   rw [← hd1] at hok hs2 hscs ⊢
   simp only at hok hs2 hscs ⊢
   by_cases he:e1=0
   · subst he
     rw [if_neg (by simp)] at hok ⊢
     obtain ⟨cb2,cap2,hd2⟩:=RefP.open hs2
     have hc2:=hd2.cell
     obtain ⟨cells,hcb,hrow⟩:=hd2.row
     have hkl2:k < d1.cs.length:=by rw [hscs]; exact hkl
     obtain ⟨r1,r2,r3⟩:=rRow hrow hkl2
     have dt:decide ((0:Int)=0)=true:=rfl
     have hset:=row_fld hrow hkl2 (j:=65) (by omega) (v:=eL (d1.cs[k].op ++ [s])) (eL_one _) (fun c=>{ c with op:=c.op ++ [s] }) (by
      rw [eR_cells,eR_cells,List.set_append_right _ _ (by rw [sec_len]; decide),sec_len]; rfl)
     have eln:eL (d1.cs[k].op ++ [s])=.list (d1.cs[k].op.map eS ++ [eS s]):=by unfold eL; rw [if_neg (by simp),List.map_append]; rfl
     rw [eln] at hset
     have hst1:=hd2.ok.st
     have hfew:=hd2.ok.few _ (List.getElem_mem hkl2)
     have e66:k * 66 + (65 + (0 + 1))≤cells.length:=by
      have:=hrow.fits (i:=k) (by simpa using hkl2)
      omega
     have hel:(eL d1.cs[k].op=.nilS∧d1.cs[k].op.map eS=[])∨(eL d1.cs[k].op=.list (d1.cs[k].op.map eS)∧True):=by
      unfold eL
      by_cases h:d1.cs[k].op=[]
      · rw [if_pos h,h]; exact .inl ⟨rfl,rfl⟩
      · rw [if_neg h]; exact .inr ⟨rfl,trivial⟩
     have hcl2:∀ G',G'=G2.set cb2 (some (cells.take (k * 66 + 65) ++ [.list (d1.cs[k].op.map eS ++ [eS s])] ++ cells.drop (k * 66 + 65 + 1)))→Sep ([RefA p { d1 with cs:=d.cs.modify k fun c=>{ c with op:=c.op ++ [s] } }] ++ R) G':=fun G' h=>by
      rw [h]
      refine (hd2.setC hok rfl rfl rfl (by simp [hscs]) ?_).close
      simp only
      rw [← hscs]
      exact hset
     rcases hel with ⟨el,ee⟩|⟨el,ee⟩
     · rw [ee] at hcl2
       refine goS trivial ?_
       (repeat' (first|(with_reducible first|refine W.seq ?_|refine W.block ?_)|((first|(with_reducible first|refine W.reg ?_|refine W.skip ?_|refine W.exit ?_|refine W.ret ?_|refine W.ifc ?_)|((with_reducible first|refine wG_decE (fun _ hG=>?_) (fun _ hG=>?_)|refine wG_decFE (fun _ hG=>?_) (fun _ hG=>?_))<;>(try simp -dsimp only [hG,decide_true,decide_false,not_true_eq_false,not_false_eq_true])<;>clear hG))<;>(try simp -dsimp (disch:=first|omega|(simp only [go_sem]; omega)) only [go_sem,seval,Nat.reduceEqDiff,Nat.reduceLeDiff,hc2,hcb,r3,dt,Int.toNat_natCast,el,e66]))|simp -dsimp (disch:=first|omega|(simp only [go_sem]; omega)) only [go_sem,seval,Nat.reduceEqDiff,Nat.reduceLeDiff,hc2,hcb,r3,dt,Int.toNat_natCast,el,e66]))
       exact Fin.eq rfl ⟨rfl,_,⟨rfl,rfl⟩,hcl2 _ rfl⟩
     · refine goS trivial ?_
       (repeat' (first|(with_reducible first|refine W.seq ?_|refine W.block ?_)|((first|(with_reducible first|refine W.reg ?_|refine W.skip ?_|refine W.exit ?_|refine W.ret ?_|refine W.ifc ?_)|((with_reducible first|refine wG_decE (fun _ hG=>?_) (fun _ hG=>?_)|refine wG_decFE (fun _ hG=>?_) (fun _ hG=>?_))<;>(try simp -dsimp only [hG,decide_true,decide_false,not_true_eq_false,not_false_eq_true])<;>clear hG))<;>(try simp -dsimp (disch:=first|omega|(simp only [go_sem]; omega)) only [go_sem,seval,Nat.reduceEqDiff,Nat.reduceLeDiff,hc2,hcb,r3,dt,Int.toNat_natCast,el,e66]))|simp -dsimp (disch:=first|omega|(simp only [go_sem]; omega)) only [go_sem,seval,Nat.reduceEqDiff,Nat.reduceLeDiff,hc2,hcb,r3,dt,Int.toNat_natCast,el,e66]))
       exact Fin.eq rfl ⟨rfl,_,⟨rfl,rfl⟩,hcl2 _ rfl⟩
   · rw [if_pos he] at hok ⊢
     have df:decide (e1=0)=false:=decide_eq_false he
     have he12:e1=12:=by
      have:(stp d).2=e1:=by rw [← hd1]
      unfold stp at this
      split at this
      · exact this.symm
      · exact absurd this.symm he
     subst he12
     refine goS trivial ?_
     (repeat' (first|(with_reducible first|refine W.seq ?_|refine W.block ?_)|((first|(with_reducible first|refine W.reg ?_|refine W.skip ?_|refine W.exit ?_|refine W.ret ?_|refine W.ifc ?_)|((with_reducible first|refine wG_decE (fun _ hG=>?_) (fun _ hG=>?_)|refine wG_decFE (fun _ hG=>?_) (fun _ hG=>?_))<;>(try simp -dsimp only [hG,decide_true,decide_false,not_true_eq_false,not_false_eq_true])<;>clear hG))<;>(try simp -dsimp (disch:=first|omega|(simp only [go_sem]; omega)) only [go_sem,seval,Nat.reduceEqDiff,Nat.reduceLeDiff,df]))|simp -dsimp (disch:=first|omega|(simp only [go_sem]; omega)) only [go_sem,seval,Nat.reduceEqDiff,Nat.reduceLeDiff,df]))
     exact Fin.eq rfl ⟨rfl,_,⟨rfl,rfl⟩,hs2⟩
 · have hw:wr d i s=(d,chk d i):=by unfold wr; rw [if_pos hk]
   rw [hw]
   refine goS trivial ?_
   (repeat' (first|(with_reducible first|refine W.seq ?_|refine W.block ?_)|((first|(with_reducible first|refine W.reg ?_|refine W.skip ?_|refine W.exit ?_|refine W.ret ?_|refine W.ifc ?_)|(apply wC_Q ((rcheck_ok p d i).q hs); (focus (simp -dsimp (disch:=first|omega|(simp only [go_sem]; omega)) only [go_sem,seval,Nat.reduceEqDiff,Nat.reduceLeDiff,hk]<;>rfl)); rintro _ rfl; try simp -dsimp (disch:=first|omega|(simp only [go_sem]; omega)) only [go_sem,seval,Nat.reduceEqDiff,Nat.reduceLeDiff,hk])|((with_reducible first|refine wG_decE (fun _ hG=>?_) (fun _ hG=>?_)|refine wG_decFE (fun _ hG=>?_) (fun _ hG=>?_))<;>(try simp -dsimp only [hG,decide_true,decide_false,not_true_eq_false,not_false_eq_true])<;>clear hG))<;>(try simp -dsimp (disch:=first|omega|(simp only [go_sem]; omega)) only [go_sem,seval,Nat.reduceEqDiff,Nat.reduceLeDiff,hk]))|simp -dsimp (disch:=first|omega|(simp only [go_sem]; omega)) only [go_sem,seval,Nat.reduceEqDiff,Nat.reduceLeDiff,hk]))
   exact Fin.eq rfl ⟨rfl,_,⟨rfl,rfl⟩,hs⟩
end Go.Proofs.Ytioojmlhmhgeeaa
