/-
 Layer 21 (disk): the disk of the specification: how it lies in memory;what only looks.
 Conditions: of each contract as it says.
-/
import Derived.Test.YtpplfpnjfjnkdaaGreatDoorF22a
import Derived.Test.YtpplfpnjfjnkdaaGreatDoorS22
set_option linter.unusedSimpArgs false
namespace Go.Proofs.YtpplfpnjfjnkdaaGreatDoor
open Go Go.E2 C22
set_option maxHeartbeats 1000000
def eL (op:List Sec):D:=if op=[] then .nilS else .list (op.map eS)
def eR (c:Cel):D:=.agg (c.s.1.map eB++[.bool c.bad,eL c.op])
theorem z1r (op:List Sec):(eL op).one=true:=by unfold eL;split<;>rfl
theorem zgb (c:Cel):(eR c).cells=c.s.1.map eB++[.bool c.bad,eL c.op]:=rfl
@[go_sem] theorem zwp (c:Cel):ze 66 (eR c)=true:=by simp only [ze,zgb,yk2Q,zj,ylmQ,zr9,List.all_cons,z1r];rfl
@[go_sem] theorem z1s (l:List Cel):(l.map eR).all (ze 66)=true:=by rw [ylbQ];intro x hx;obtain ⟨s,_,rfl⟩:=List.mem_map.1 hx;exact zwp s
def zd2 (p:Nat) (d:Dk):As:=fun G=>Okd d∧∃ cb cap,z09 [za p [.gs cb 0 d.cs.length cap,eI d.steps,eI d.after,.bool d.dead],SlA 66 (.gs cb 0 d.cs.length cap) (d.cs.map eR)] G
structure zil (p:Nat) (d:Dk) (R:List As) (G:Gh) (cb cap:Nat):Prop where
 ok:Okd d
 sep:Sep (za p [.gs cb 0 d.cs.length cap,eI d.steps,eI d.after,.bool d.dead]::SlA 66 (.gs cb 0 d.cs.length cap) (d.cs.map eR)::R) G
theorem zil.open {p:Nat} {d:Dk} {R:List As} {G:Gh} (h:Sep (zd2 p d::R) G):∃ cb cap,zil p d R G cb cap:=by
 obtain ⟨h1,h2⟩:=h.pure
 obtain ⟨cb,h2⟩:=h2.ex
 obtain ⟨cap,h2⟩:=h2.ex
 exact ⟨cb,cap,h1,h2.app⟩
theorem zil.close {p:Nat} {d:Dk} {R:List As} {G:Gh} {cb cap:Nat} (h:zil p d R G cb cap):Sep (zd2 p d::R) G:=by
 have:=Sep.of_app (l:=[za p [.gs cb 0 d.cs.length cap,eI d.steps,eI d.after,.bool d.dead],SlA 66 (.gs cb 0 d.cs.length cap) (d.cs.map eR)]) h.sep
 exact this.imp fun G hG=>⟨h.ok,cb,cap,hG⟩
section
variable {p:Nat} {d:Dk} {R:List As} {G:Gh} {cb cap:Nat}
theorem zil.cell (h:zil p d R G cb cap):G.c p=some [.gs cb 0 d.cs.length cap,.int .i64 d.steps,.int .i64 d.after,.bool d.dead]:=h.sep.get
theorem zil.row (h:zil p d R G cb cap):∃ cs,G.c cb=some cs∧Row 66 d.cs.length cap (d.cs.map eR) cs:=by
 have:=h.sep.tail.gv
 obtain ⟨b,cap',cs,e,h1,h2⟩:=this.inv (by have:=h.ok.pos;intro e;rw [List.map_eq_nil_iff] at e;rw [e] at this;simp at this)
 simp only [D.gs.injEq,yk3Q] at e
 obtain ⟨rfl,_,_,rfl⟩:=e
 exact ⟨cs,h1,by simpa using h2⟩
theorem zil.put {d':Dk} (h:zil p d R G cb cap) (hok:Okd d') (hcs:d'.cs=d.cs) :
 zil p d' R (G.set p (some [.gs cb 0 d.cs.length cap,.int .i64 d'.steps,.int .i64 d'.after,.bool d'.dead])) cb cap:=by
 refine ⟨hok,?_⟩
 rw [hcs]
 exact h.sep.set
theorem zil.setC {d':Dk} (h:zil p d R G cb cap) (hok:Okd d') (hst:d'.steps=d.steps) (haf:d'.after=d.after) (hde:d'.dead=d.dead) (hlen:d'.cs.length=d.cs.length) {cs':List D} (hr:Row 66 d.cs.length cap (d'.cs.map eR) cs') :
 zil p d' R (G.set cb (some cs')) cb cap:=by
 refine ⟨hok,?_⟩
 rw [hlen,hst,haf,hde]
 exact (Sep.slSet h.sep.swap hr).swap
end
theorem zfn (p:Nat) (d:Dk) (i:Int):ze1 Tryz.prog f_zz21 [.gp p 0,.int .i64 i] [zd2 p d] (·=.d (.int .i64 (chk d i))):=by
 refine zap fol zz21_cp fun R G σ hs=>?_
 obtain ⟨cb,cap,hd⟩:=zil.open hs
 have hc:=hd.cell
 by_cases hdead:d.dead=true
 · refine goS trivial ?_
   (refine goX (nn hc hdead) ?_;(repeat' (with_reducible apply Br.mk<;>intro _)))
   all_goals exact Fin.eq rfl ⟨rfl,rfl,by unfold chk;rw [if_pos hdead]⟩
 · have hdead':d.dead=false:=by simpa using hdead
   refine goS trivial ?_
   (refine goX (nn hc hdead') ?_;(repeat' (with_reducible apply Br.mk<;>intro _)))
   all_goals first|exact Fin.eq rfl ⟨rfl,rfl,by unfold chk;rw [if_neg hdead,if_pos (by omega)]⟩|exact Fin.eq rfl ⟨rfl,rfl,by unfold chk;rw [if_neg hdead,if_neg (by omega)]⟩
theorem z3w (p:Nat) (d:Dk) (n:Int) (hn:n≤9223372036854775807):zaq Tryz.prog f_zz34 [.gp p 0,.int .i64 n] [zd2 p d] (fun _ post=>post=[zd2 p (arm d n)]):=by
 refine zu fol zz34_cp fun R G σ hs=>?_
 obtain ⟨cb,cap,hd⟩:=zil.open hs
 have hc:=hd.cell
 refine goS trivial ?_
 refine goR hc ?_
 exact Fin.eq rfl ⟨rfl,_,rfl,(hd.put (z2d hd.ok hn) rfl).close⟩
theorem zsc (p:Nat) (d:Dk) (hn:d.steps≤1000000000):zaq Tryz.prog f_zz29 [.gp p 0] [zd2 p d] (fun r post=>r=.d (.bool (decide ((stp d).2=0)))∧post=[zd2 p (stp d).1]):=by
 refine zu fol zz29_cp fun R G σ hs=>?_
 obtain ⟨cb,cap,hd⟩:=zil.open hs
 have hc:=hd.cell
 have hst:=hd.ok.st
 have haf:=hd.ok.aft
 obtain ⟨hok,_,_,hcs⟩:=zmg hd.ok hn
 refine goS trivial ?_
 (refine goX hc ?_;(repeat' (with_reducible apply Br.mk<;>intro _)))
 · rename_i ha
   have e:stp d=({ d with dead:=true },12):=by unfold stp;rw [if_pos ha]
   rw [e] at hok ⊢
   exact Fin.eq rfl ⟨rfl,_,⟨rfl,rfl⟩,(hd.put hok rfl).close⟩
 · rename_i ha hb
   have e:stp d=({ d with after:=d.after - 1,steps:=d.steps+1 },0):=by unfold stp;rw [if_neg ha,if_pos hb]
   rw [e] at hok ⊢
   exact Fin.eq rfl ⟨rfl,_,⟨rfl,rfl⟩,(hd.put hok rfl).close⟩
 · rename_i ha hb
   have e:stp d=({ d with after:=d.after,steps:=d.steps+1 },0):=by unfold stp;rw [if_neg ha,if_neg hb]
   rw [e] at hok ⊢
   exact Fin.eq rfl ⟨rfl,_,⟨rfl,rfl⟩,(hd.put hok rfl).close⟩
theorem zr_r0 (n:Nat):rep n (zr 64 (.int .u8 0)++[.bool false,.nilS])=flat ((List.replicate n zkw).map eR):=by
 rw [zrw,List.map_replicate];rfl
theorem z3x (n:Int) (h1:1≤n) (h2:n≤65536):zaq Tryz.prog f_zz76 [.int .i64 n] [] (fun r post=>∃ p,r=.d (.gp p 0)∧post=[zd2 p (fresh n.toNat)]):=by
 refine zu fol zz76_cp fun R G σ hs=>?_
 have q1:¬ n<1:=by omega
 have q2:¬ 65536<n:=by omega
 refine goS trivial ?_
 refine goR (nn q1 q2) ?_
 refine z2w ⟨by omega,by omega,by omega⟩ ?_
 refine zx fun cb hcb=>?_
 refine goS trivial ?_
 refine goR trivial ?_
 refine zx fun p hp=>?_
 refine goS trivial ?_
 refine goR trivial ?_
 refine Fin.eq rfl ⟨rfl,_,⟨p,rfl,rfl⟩,?_⟩
 refine zil.close (cb:=cb) (cap:=n.toNat) ⟨okd_fresh (by omega) (by omega),?_⟩
 have hl:(fresh n.toNat).cs.length=n.toNat:=by simp [fresh]
 have hrow:Row 66 n.toNat n.toNat ((fresh n.toNat).cs.map eR) (rep n.toNat (zr 64 (.int .u8 0)++[.bool false,.nilS])):=by
  rw [zr_r0]
  have:=Row.mk' (sz:=66) (n:=n.toNat) (cap:=n.toNat) (es:=(fresh n.toNat).cs.map eR) (rest:=[]) (by simp [fresh]) (z1s _) (Nat.le_refl _) (by rw [ylvQ,zy (z1s _),yk3Q,hl];exact Nat.le_refl _)
  simpa [fresh] using this
 have h3:=Sep.new (b:=p) (cs:=[.gs cb 0 n.toNat n.toNat,.int .i64 0,.int .i64 (-1),.bool false]) hp (Sep.toSl (Sep.new hcb hs) hrow)
 rw [hl]
 exact h3
end Go.Proofs.YtpplfpnjfjnkdaaGreatDoor
namespace Go.Proofs.YtpplfpnjfjnkdaaGreatDoor
open Go Go.E2 C22
set_option maxHeartbeats 1000000
def eGot (x:Sec×Int):D:=.agg (x.1.1.map eB++[.int .i64 x.2])
theorem zsd (s:Sec) (b:Bool) (x:D):(s.1.map eB++[D.bool b,x]).length=66:=by rw [yk2Q,zj];rfl
theorem z3y (s:Sec) (b:Bool) (x:D):(List.drop 64 (s.1.map eB++[D.bool b,x])).head?=some (.bool b):=by rw [yloQ (zj s)];rfl
theorem z3z (s:Sec) (b:Bool) (x:D):(List.drop 65 (s.1.map eB++[D.bool b,x])).head?=some x:=by
 have:s.1.map eB++[D.bool b,x]=(s.1.map eB++[D.bool b])++[x]:=by simp
 rw [this,yloQ (by rw [yk2Q,zj];rfl)];rfl
theorem z8r (s:Sec) (b:Bool) (x:D):List.take 64 (s.1.map eB++[D.bool b,x])=s.1.map eB:=ylnQ (zj s)
theorem rRow {cs:List Cel} {cap:Nat} {cells:List D} (hrow:Row 66 cs.length cap (cs.map eR) cells) {k:Nat} (hk:k<cs.length) :
 zae true 66 (some cells) (k * 66)=some (.d (eR cs[k]))∧zae false 1 (some cells) (k * 66+64)=some (.d (.bool cs[k].bad))∧zae false 1 (some cells) (k * 66+65)=some (.d (eL cs[k].op)):=by
 have h1:=hrow.idx (i:=k) (by simpa using hk)
 have h2:=hrow.fld (i:=k) (j:=64) (by simpa using hk) (by omega)
 have h3:=hrow.fld (i:=k) (j:=65) (by simpa using hk) (by omega)
 rw [List.getElem_map] at h1 h2 h3
 refine ⟨h1,?_,?_⟩
 · rw [h2,zgb,yllQ (by rw [zj];decide),zj];rfl
 · rw [h3,zgb,yllQ (by rw [zj];decide),zj];rfl
theorem zm7 (p:Nat) (d:Dk) (i:Int):ze1 Tryz.prog f_zz27 [.gp p 0,.int .i64 i] [zd2 p d] (·=.d (eGot (rd d i))):=by
 refine zap fol zz27_cp fun R G σ hs=>?_
 obtain ⟨cb,cap,hd⟩:=zil.open hs
 have hc:=hd.cell
 obtain ⟨cells,hcb,hrow⟩:=hd.row
 by_cases hk:chk d i=0
 · obtain ⟨hdead,h0,h1⟩:=zh0 hk
   obtain ⟨k,rfl⟩:∃ k:Nat,i=k:=⟨i.toNat,by omega⟩
   have hkl:k<d.cs.length:=by omega
   obtain ⟨r1,r2,r3⟩:=rRow hrow hkl
   obtain ⟨c,hcc⟩:∃ c,c=d.cs[k]:=⟨_,rfl⟩
   have hrd:rd d k=celRd c:=by unfold rd;rw [if_neg (by rw [hk];simp),yleQ,zm5 hkl,hcc]
   rw [← hcc] at r1 r2 r3
   have hcl:=zsd c.s c.bad
   have hc64:=z3y c.s c.bad
   have hc65:=z3z c.s c.bad
   have hc0:=z8r c.s c.bad
   unfold eR at r1
   by_cases hne:c.op=[]
   · have hrd2:celRd c=if c.bad=true then (z0,14) else (c.s,0):=by unfold celRd;rw [hne];rfl
     have eop:eL c.op=.nilS:=by unfold eL;rw [if_pos hne]
     rw [eop] at r1
     have hcl:=hcl .nilS
     have hc64:=hc64 .nilS
     have hc65:=hc65 .nilS
     have hc0:=hc0 .nilS
     cases hb:c.bad
     all_goals
      rw [hb] at r1 hcl hc64 hc65 hc0 hrd2
      simp only [if_true,Bool.false_eq_true,if_false] at hrd2
      refine goS trivial ?_
      (repeat' (first|(with_reducible first|refine W.seq ?_|refine W.block ?_)|((first|(with_reducible first|refine W.reg ?_|refine W.skip ?_|refine W.exit ?_|refine W.ret ?_|refine W.ifc ?_)|(apply z5e ((zfn p d k).q hs);(focus (simp -dsimp (disch:=first|omega|(simp only [go_sem];omega)) only [go_sem,seval,Nat.reduceEqDiff,Nat.reduceLeDiff,hk]<;>rfl));rintro _ rfl;try simp -dsimp (disch:=first|omega|(simp only [go_sem];omega)) only [go_sem,seval,Nat.reduceEqDiff,Nat.reduceLeDiff,hk])|((with_reducible first|refine zbo (fun _ hG=>?_) (fun _ hG=>?_)|refine za1 (fun _ hG=>?_) (fun _ hG=>?_))<;>(try simp -dsimp only [hG,decide_true,decide_false,not_true_eq_false,not_false_eq_true])<;>clear hG))<;>(try simp -dsimp (disch:=first|omega|(simp only [go_sem];omega)) only [go_sem,seval,Nat.reduceEqDiff,Nat.reduceLeDiff,hk,hc,hcb,r1,hcl,hc64,hc65,hc0,yleQ]))|simp -dsimp (disch:=first|omega|(simp only [go_sem];omega)) only [go_sem,seval,Nat.reduceEqDiff,Nat.reduceLeDiff,hk,hc,hcb,r1,hcl,hc64,hc65,hc0,yleQ]))
      (apply Fin.eq;(focus (simp -dsimp (disch:=first|omega|(simp only [go_sem];omega)) only [go_sem,seval,Nat.reduceEqDiff,Nat.reduceLeDiff]<;>rfl)))
      refine ⟨rfl,rfl,?_⟩
      rw [hrd,hrd2];rfl
   · have hrd2:celRd c=(c.op.getLast hne,0):=by unfold celRd;rw [List.getLast?_eq_some_getLast hne]
     have eop:eL c.op=.list (c.op.map eS):=by unfold eL;rw [if_neg hne]
     rw [eop] at r1
     have hcl:=hcl (.list (c.op.map eS))
     have hc65:=hc65 (.list (c.op.map eS))
     have hl0:0<c.op.length:=List.length_pos_iff.2 hne
     have hla:(c.op.map eS)[c.op.length - 1]?=some (eS (c.op.getLast hne)):=by rw [ylhQ,List.getLast_eq_getElem,yliQ (by omega)];rfl
     have hfew:=hd.ok.few c (by rw [hcc];exact List.getElem_mem hkl)
     have hst:=hd.ok.st
     have hgt:(0<(c.op.length:Int))=True:=eq_true (by omega)
     have e3:((c.op.length:Int) - 1).toNat=c.op.length - 1:=by omega
     refine goS trivial ?_
     (repeat' (first|(with_reducible first|refine W.seq ?_|refine W.block ?_)|((first|(with_reducible first|refine W.reg ?_|refine W.skip ?_|refine W.exit ?_|refine W.ret ?_|refine W.ifc ?_)|(apply z5e ((zfn p d k).q hs);(focus (simp -dsimp (disch:=first|omega|(simp only [go_sem];omega)) only [go_sem,seval,Nat.reduceEqDiff,Nat.reduceLeDiff,hk]<;>rfl));rintro _ rfl;try simp -dsimp (disch:=first|omega|(simp only [go_sem];omega)) only [go_sem,seval,Nat.reduceEqDiff,Nat.reduceLeDiff,hk])|((with_reducible first|refine zbo (fun _ hG=>?_) (fun _ hG=>?_)|refine za1 (fun _ hG=>?_) (fun _ hG=>?_))<;>(try simp -dsimp only [hG,decide_true,decide_false,not_true_eq_false,not_false_eq_true])<;>clear hG))<;>(try simp -dsimp (disch:=first|omega|(simp only [go_sem];omega)) only [go_sem,seval,Nat.reduceEqDiff,Nat.reduceLeDiff,hk,hc,hcb,r1,hcl,hc65,yleQ,hgt,hla,e3]))|simp -dsimp (disch:=first|omega|(simp only [go_sem];omega)) only [go_sem,seval,Nat.reduceEqDiff,Nat.reduceLeDiff,hk,hc,hcb,r1,hcl,hc65,yleQ,hgt,hla,e3]))
     (apply Fin.eq;(focus (simp -dsimp (disch:=first|omega|(simp only [go_sem];omega)) only [go_sem,seval,Nat.reduceEqDiff,Nat.reduceLeDiff]<;>rfl)))
     refine ⟨rfl,rfl,?_⟩
     rw [hrd,hrd2,List.getLast_eq_getElem];rfl
 · have hrd:rd d i=(z0,chk d i):=by unfold rd;rw [if_pos hk]
   refine goS trivial ?_
   (repeat' (first|(with_reducible first|refine W.seq ?_|refine W.block ?_)|((first|(with_reducible first|refine W.reg ?_|refine W.skip ?_|refine W.exit ?_|refine W.ret ?_|refine W.ifc ?_)|(apply z5e ((zfn p d i).q hs);(focus (simp -dsimp (disch:=first|omega|(simp only [go_sem];omega)) only [go_sem,seval,Nat.reduceEqDiff,Nat.reduceLeDiff,hk]<;>rfl));rintro _ rfl;try simp -dsimp (disch:=first|omega|(simp only [go_sem];omega)) only [go_sem,seval,Nat.reduceEqDiff,Nat.reduceLeDiff,hk])|((with_reducible first|refine zbo (fun _ hG=>?_) (fun _ hG=>?_)|refine za1 (fun _ hG=>?_) (fun _ hG=>?_))<;>(try simp -dsimp only [hG,decide_true,decide_false,not_true_eq_false,not_false_eq_true])<;>clear hG))<;>(try simp -dsimp (disch:=first|omega|(simp only [go_sem];omega)) only [go_sem,seval,Nat.reduceEqDiff,Nat.reduceLeDiff,hk]))|simp -dsimp (disch:=first|omega|(simp only [go_sem];omega)) only [go_sem,seval,Nat.reduceEqDiff,Nat.reduceLeDiff,hk]))
   (apply Fin.eq;(focus (simp -dsimp (disch:=first|omega|(simp only [go_sem];omega)) only [go_sem,seval,Nat.reduceEqDiff,Nat.reduceLeDiff]<;>rfl)))
   refine ⟨rfl,rfl,?_⟩
   rw [hrd];rfl
theorem z30 {cs:List Cel} {cap:Nat} {cells:List D} (hrow:Row 66 cs.length cap (cs.map eR) cells) {k:Nat} (hk:k<cs.length) (f:Cel→Cel) :
 Row 66 cs.length cap ((cs.modify k f).map eR) (cells.take (k * 66)++((f cs[k]).s.1.map eB++[.bool (f cs[k]).bad,eL (f cs[k]).op])++cells.drop (k * 66+66)):=by
 have:=hrow.set (i:=k) (by simpa using hk) (zwp (f cs[k]))
 have e:zau cells (eR (f cs[k])).cells (k * 66)=cells.take (k * 66)++((f cs[k]).s.1.map eB++[.bool (f cs[k]).bad,eL (f cs[k]).op])++cells.drop (k * 66+66):=by
  unfold zau
  rw [zgb,zsd]
 rw [e] at this
 rw [zdw hk,List.map_set]
 exact this
theorem z33 {cs:List Cel} {cap:Nat} {cells:List D} (hrow:Row 66 cs.length cap (cs.map eR) cells) {k:Nat} (hk:k<cs.length) {j:Nat} (hj:j<66) {v:D} (hv:v.one=true) (f:Cel→Cel) (hf:(eR cs[k]).cells.set j v=(eR (f cs[k])).cells) :
 Row 66 cs.length cap ((cs.modify k f).map eR) (cells.take (k * 66+j)++[v]++cells.drop (k * 66+j+1)):=by
 have:=hrow.setF (i:=k) (j:=j) (by simpa using hk) hj hv
 rw [List.getElem_map,hf] at this
 rw [zdw hk,List.map_set]
 exact this
theorem zo0 (p:Nat) (d:Dk) (i:Int) (s:Sec) (hn:d.steps≤1000000000):zaq Tryz.prog f_zz20 [.gp p 0,.int .i64 i,eS s] [zd2 p d] (fun r post=>r=.d (.int .i64 (wr d i s).2)∧post=[zd2 p (wr d i s).1]):=by
 refine zu fol zz20_cp fun R G σ hs=>?_
 obtain ⟨cb,cap,hd⟩:=zil.open hs
 by_cases hk:chk d i=0
 · obtain ⟨hdead,h0,h1⟩:=zh0 hk
   obtain ⟨k,rfl⟩:∃ k:Nat,i=k:=⟨i.toNat,by omega⟩
   have hkl:k<d.cs.length:=by omega
   obtain ⟨hok,hst2⟩:=wr_ok hd.ok hn k s
   obtain ⟨_,_,_,hscs⟩:=zmg hd.ok hn
   have hw:wr d k s=if (stp d).2≠0 then stp d else ({ (stp d).1 with cs:=d.cs.modify k fun c=>{ c with op:=c.op++[s] } },0):=by
    unfold wr;rw [if_neg (by rw [hk];simp),yleQ]
   rw [hw] at hok ⊢
   refine goS trivial ?_
   (repeat' (first|(with_reducible first|refine W.seq ?_|refine W.block ?_)|((first|(with_reducible first|refine W.reg ?_|refine W.skip ?_|refine W.exit ?_|refine W.ret ?_|refine W.ifc ?_)|(apply z5e ((zfn p d k).q hs);(focus (simp -dsimp (disch:=first|omega|(simp only [go_sem];omega)) only [go_sem,seval,Nat.reduceEqDiff,Nat.reduceLeDiff,hk]<;>rfl));rintro _ rfl;try simp -dsimp (disch:=first|omega|(simp only [go_sem];omega)) only [go_sem,seval,Nat.reduceEqDiff,Nat.reduceLeDiff,hk])|((with_reducible first|refine zbo (fun _ hG=>?_) (fun _ hG=>?_)|refine za1 (fun _ hG=>?_) (fun _ hG=>?_))<;>(try simp -dsimp only [hG,decide_true,decide_false,not_true_eq_false,not_false_eq_true])<;>clear hG))<;>(try simp -dsimp (disch:=first|omega|(simp only [go_sem];omega)) only [go_sem,seval,Nat.reduceEqDiff,Nat.reduceLeDiff,hk]))|simp -dsimp (disch:=first|omega|(simp only [go_sem];omega)) only [go_sem,seval,Nat.reduceEqDiff,Nat.reduceLeDiff,hk]))
   (refine goM (zsc p d hn) (hs) ?_)
   rintro _ _ G2 ⟨rfl,rfl⟩ hs2'
   have hs2:Sep (zd2 p (stp d).1::R) G2:=hs2'
   clear hs2'
   obtain ⟨d1,e1,hd1⟩:∃ d1 e1,(d1,e1)=stp d:=⟨_,_,rfl⟩
   rw [← hd1] at hok hs2 hscs ⊢
   simp only at hok hs2 hscs ⊢
   by_cases he:e1=0
   · subst he
     rw [if_neg (by simp)] at hok ⊢
     obtain ⟨cb2,cap2,hd2⟩:=zil.open hs2
     have hc2:=hd2.cell
     obtain ⟨cells,hcb,hrow⟩:=hd2.row
     have hkl2:k<d1.cs.length:=by rw [hscs];exact hkl
     obtain ⟨r1,r2,r3⟩:=rRow hrow hkl2
     have dt:decide ((0:Int)=0)=true:=rfl
     have ztl:=z33 hrow hkl2 (j:=65) (by omega) (v:=eL (d1.cs[k].op++[s])) (z1r _) (fun c=>{ c with op:=c.op++[s] }) (by
      rw [zgb,zgb,List.set_append_right _ _ (by rw [zj];decide),zj];rfl)
     have eln:eL (d1.cs[k].op++[s])=.list (d1.cs[k].op.map eS++[eS s]):=by unfold eL;rw [if_neg (by simp),yk6Q];rfl
     rw [eln] at ztl
     have hst1:=hd2.ok.st
     have hfew:=hd2.ok.few _ (List.getElem_mem hkl2)
     have e66:k * 66+(65+(0+1))≤cells.length:=by
      have:=hrow.fits (i:=k) (by simpa using hkl2)
      omega
     have hel:(eL d1.cs[k].op=.nilS∧d1.cs[k].op.map eS=[])∨(eL d1.cs[k].op=.list (d1.cs[k].op.map eS)∧True):=by
      unfold eL
      by_cases h:d1.cs[k].op=[]
      · rw [if_pos h,h];exact .inl ⟨rfl,rfl⟩
      · rw [if_neg h];exact .inr ⟨rfl,trivial⟩
     have hcl2:∀ G',G'=G2.set cb2 (some (cells.take (k * 66+65)++[.list (d1.cs[k].op.map eS++[eS s])]++cells.drop (k * 66+65+1)))→Sep ([zd2 p { d1 with cs:=d.cs.modify k fun c=>{ c with op:=c.op++[s] } }]++R) G':=fun G' h=>by
      rw [h]
      refine (hd2.setC hok rfl rfl rfl (by simp [hscs]) ?_).close
      simp only
      rw [← hscs]
      exact ztl
     rcases hel with ⟨el,ee⟩|⟨el,ee⟩
     · rw [ee] at hcl2
       refine goS trivial ?_
       (repeat' (first|(with_reducible first|refine W.seq ?_|refine W.block ?_)|((first|(with_reducible first|refine W.reg ?_|refine W.skip ?_|refine W.exit ?_|refine W.ret ?_|refine W.ifc ?_)|((with_reducible first|refine zbo (fun _ hG=>?_) (fun _ hG=>?_)|refine za1 (fun _ hG=>?_) (fun _ hG=>?_))<;>(try simp -dsimp only [hG,decide_true,decide_false,not_true_eq_false,not_false_eq_true])<;>clear hG))<;>(try simp -dsimp (disch:=first|omega|(simp only [go_sem];omega)) only [go_sem,seval,Nat.reduceEqDiff,Nat.reduceLeDiff,hc2,hcb,r3,dt,yleQ,el,e66]))|simp -dsimp (disch:=first|omega|(simp only [go_sem];omega)) only [go_sem,seval,Nat.reduceEqDiff,Nat.reduceLeDiff,hc2,hcb,r3,dt,yleQ,el,e66]))
       exact Fin.eq rfl ⟨rfl,_,⟨rfl,rfl⟩,hcl2 _ rfl⟩
     · refine goS trivial ?_
       (repeat' (first|(with_reducible first|refine W.seq ?_|refine W.block ?_)|((first|(with_reducible first|refine W.reg ?_|refine W.skip ?_|refine W.exit ?_|refine W.ret ?_|refine W.ifc ?_)|((with_reducible first|refine zbo (fun _ hG=>?_) (fun _ hG=>?_)|refine za1 (fun _ hG=>?_) (fun _ hG=>?_))<;>(try simp -dsimp only [hG,decide_true,decide_false,not_true_eq_false,not_false_eq_true])<;>clear hG))<;>(try simp -dsimp (disch:=first|omega|(simp only [go_sem];omega)) only [go_sem,seval,Nat.reduceEqDiff,Nat.reduceLeDiff,hc2,hcb,r3,dt,yleQ,el,e66]))|simp -dsimp (disch:=first|omega|(simp only [go_sem];omega)) only [go_sem,seval,Nat.reduceEqDiff,Nat.reduceLeDiff,hc2,hcb,r3,dt,yleQ,el,e66]))
       exact Fin.eq rfl ⟨rfl,_,⟨rfl,rfl⟩,hcl2 _ rfl⟩
   · rw [if_pos he] at hok ⊢
     have df:decide (e1=0)=false:=decide_eq_false he
     have he12:e1=12:=by
      have:(stp d).2=e1:=by rw [← hd1]
      unfold stp at this
      split at this
      · exact this.symm
      · exact absurd this.symm he
     subst he12
     refine goS trivial ?_
     (repeat' (first|(with_reducible first|refine W.seq ?_|refine W.block ?_)|((first|(with_reducible first|refine W.reg ?_|refine W.skip ?_|refine W.exit ?_|refine W.ret ?_|refine W.ifc ?_)|((with_reducible first|refine zbo (fun _ hG=>?_) (fun _ hG=>?_)|refine za1 (fun _ hG=>?_) (fun _ hG=>?_))<;>(try simp -dsimp only [hG,decide_true,decide_false,not_true_eq_false,not_false_eq_true])<;>clear hG))<;>(try simp -dsimp (disch:=first|omega|(simp only [go_sem];omega)) only [go_sem,seval,Nat.reduceEqDiff,Nat.reduceLeDiff,df]))|simp -dsimp (disch:=first|omega|(simp only [go_sem];omega)) only [go_sem,seval,Nat.reduceEqDiff,Nat.reduceLeDiff,df]))
     exact Fin.eq rfl ⟨rfl,_,⟨rfl,rfl⟩,hs2⟩
 · have hw:wr d i s=(d,chk d i):=by unfold wr;rw [if_pos hk]
   rw [hw]
   refine goS trivial ?_
   (repeat' (first|(with_reducible first|refine W.seq ?_|refine W.block ?_)|((first|(with_reducible first|refine W.reg ?_|refine W.skip ?_|refine W.exit ?_|refine W.ret ?_|refine W.ifc ?_)|(apply z5e ((zfn p d i).q hs);(focus (simp -dsimp (disch:=first|omega|(simp only [go_sem];omega)) only [go_sem,seval,Nat.reduceEqDiff,Nat.reduceLeDiff,hk]<;>rfl));rintro _ rfl;try simp -dsimp (disch:=first|omega|(simp only [go_sem];omega)) only [go_sem,seval,Nat.reduceEqDiff,Nat.reduceLeDiff,hk])|((with_reducible first|refine zbo (fun _ hG=>?_) (fun _ hG=>?_)|refine za1 (fun _ hG=>?_) (fun _ hG=>?_))<;>(try simp -dsimp only [hG,decide_true,decide_false,not_true_eq_false,not_false_eq_true])<;>clear hG))<;>(try simp -dsimp (disch:=first|omega|(simp only [go_sem];omega)) only [go_sem,seval,Nat.reduceEqDiff,Nat.reduceLeDiff,hk]))|simp -dsimp (disch:=first|omega|(simp only [go_sem];omega)) only [go_sem,seval,Nat.reduceEqDiff,Nat.reduceLeDiff,hk]))
   exact Fin.eq rfl ⟨rfl,_,⟨rfl,rfl⟩,hs⟩
end Go.Proofs.YtpplfpnjfjnkdaaGreatDoor
namespace Go.Proofs.YtpplfpnjfjnkdaaGreatDoor
open Go Go.E2 C22
set_option maxHeartbeats 1000000
theorem z8s {A:As} {n cap cb:Nat} {es:List D} {R:List As} {G:Gh} (h:Sep (A::SlA 66 (.gs cb 0 n cap) es::R) G) (hne:es≠[]) (hl:es.length=n):∃ cs,G.c cb=some cs∧Row 66 n cap es cs:=by
 obtain ⟨b,cap',cs,e,h1,h2⟩:=h.tail.gv.inv hne
 simp only [D.gs.injEq] at e
 obtain ⟨rfl,_,_,rfl⟩:=e
 rw [hl] at h2
 exact ⟨cs,h1,h2⟩
theorem zse (p:Nat) (d:Dk) (hn:d.steps≤1000000000):zaq Tryz.prog f_zz28 [.gp p 0] [zd2 p d] (fun r post=>r=.d (.int .i64 (sy d).2)∧post=[zd2 p (sy d).1]):=by
 refine zu fol zz28_cp fun R G σ hs=>?_
 obtain ⟨cb0,cap0,hd0⟩:=zil.open hs
 have hc0:=hd0.cell
 obtain ⟨hok,_⟩:=z4z hd0.ok hn
 by_cases hdead:d.dead=true
 · have hw:sy d=(d,12):=by unfold sy;rw [if_pos hdead]
   rw [hw]
   refine goS trivial ?_
   (repeat' (first|(with_reducible first|refine W.seq ?_|refine W.block ?_)|((first|(with_reducible first|refine W.reg ?_|refine W.skip ?_|refine W.exit ?_|refine W.ret ?_|refine W.ifc ?_)|((with_reducible first|refine zbo (fun _ hG=>?_) (fun _ hG=>?_)|refine za1 (fun _ hG=>?_) (fun _ hG=>?_))<;>(try simp -dsimp only [hG,decide_true,decide_false,not_true_eq_false,not_false_eq_true])<;>clear hG))<;>(try simp -dsimp (disch:=first|omega|(simp only [go_sem];omega)) only [go_sem,seval,Nat.reduceEqDiff,Nat.reduceLeDiff,hc0,hdead]))|simp -dsimp (disch:=first|omega|(simp only [go_sem];omega)) only [go_sem,seval,Nat.reduceEqDiff,Nat.reduceLeDiff,hc0,hdead]))
   exact Fin.eq rfl ⟨rfl,_,⟨rfl,rfl⟩,hs⟩
 have hdead':d.dead=false:=by simpa using hdead
 obtain ⟨_,_,_,hscs⟩:=zmg hd0.ok hn
 have hw:sy d=if (stp d).2≠0 then stp d else ({ (stp d).1 with cs:=d.cs.map syC },0):=by unfold sy;rw [if_neg hdead]
 rw [hw] at hok ⊢
 refine goS trivial ?_
 (repeat' (first|(with_reducible first|refine W.seq ?_|refine W.block ?_)|((first|(with_reducible first|refine W.reg ?_|refine W.skip ?_|refine W.exit ?_|refine W.ret ?_|refine W.ifc ?_)|((with_reducible first|refine zbo (fun _ hG=>?_) (fun _ hG=>?_)|refine za1 (fun _ hG=>?_) (fun _ hG=>?_))<;>(try simp -dsimp only [hG,decide_true,decide_false,not_true_eq_false,not_false_eq_true])<;>clear hG))<;>(try simp -dsimp (disch:=first|omega|(simp only [go_sem];omega)) only [go_sem,seval,Nat.reduceEqDiff,Nat.reduceLeDiff,hc0,hdead']))|simp -dsimp (disch:=first|omega|(simp only [go_sem];omega)) only [go_sem,seval,Nat.reduceEqDiff,Nat.reduceLeDiff,hc0,hdead']))
 (refine goM (zsc p d hn) (hs) ?_)
 rintro _ _ G2 ⟨rfl,rfl⟩ hs2'
 have hs2:Sep (zd2 p (stp d).1::R) G2:=hs2'
 clear hs2'
 have he12:(stp d).2=0∨(stp d).2=12:=by
  unfold stp
  split
  · exact .inr rfl
  · exact .inl rfl
 obtain ⟨d1,e1,hd1⟩:∃ d1 e1,(d1,e1)=stp d:=⟨_,_,rfl⟩
 rw [← hd1] at hok hs2 hscs he12 ⊢
 simp only at hok hs2 hscs he12 ⊢
 rcases he12 with rfl|rfl
 · rw [if_neg (by simp)] at hok ⊢
   rw [← hscs] at hok ⊢
   obtain ⟨cb,cap,hd2⟩:=zil.open hs2
   have hpos:=hd2.ok.pos
   have hmost:=hd2.ok.most
   have dt:decide ((0:Int)=0)=true:=rfl
   refine goS trivial ?_
   (repeat' (first|(with_reducible first|refine W.seq ?_|refine W.block ?_)|((first|(with_reducible first|refine W.reg ?_|refine W.skip ?_|refine W.exit ?_|refine W.ret ?_|refine W.ifc ?_)|((with_reducible first|refine zbo (fun _ hG=>?_) (fun _ hG=>?_)|refine za1 (fun _ hG=>?_) (fun _ hG=>?_))<;>(try simp -dsimp only [hG,decide_true,decide_false,not_true_eq_false,not_false_eq_true])<;>clear hG))<;>(try simp -dsimp (disch:=first|omega|(simp only [go_sem];omega)) only [go_sem,seval,Nat.reduceEqDiff,Nat.reduceLeDiff,dt]))|simp -dsimp (disch:=first|omega|(simp only [go_sem];omega)) only [go_sem,seval,Nat.reduceEqDiff,Nat.reduceLeDiff,dt]))
   refine W.loop (fun z st=>∃ (i:Nat) (G:Gh),i≤d1.cs.length∧z=d1.cs.length - i∧Sep (za p [.gs cb 0 d1.cs.length cap,eI d1.steps,eI d1.after,.bool d1.dead]::SlA 66 (.gs cb 0 d1.cs.length cap) ((syT d1.cs i).map eR)::R) G ∧
    st=(E [(0,.d (.gp p 0)),(4,.d (.int .i64 i))],HB [],σ,G))
    ⟨_,_,zk9,0,G2,by omega,rfl,by rw [z0u];exact hd2.sep,rfl⟩ ?_
   rintro z st ⟨i,G3,hi,rfl,hs3,rfl⟩
   have hc3:=hs3.get
   obtain ⟨cells,hcb,hrow0⟩:=z8s hs3 (by intro e;rw [List.map_eq_nil_iff] at e;have:=zix d1.cs i;rw [e] at this;simp at this;omega) (by rw [yk3Q,zix])
   have hrow:Row 66 (syT d1.cs i).length cap ((syT d1.cs i).map eR) cells:=by rw [zix];exact hrow0
   refine goR hc3 ?_
   refine zl0 (fun g1=>?_) (fun g1=>?_)
   · have hil:i<d1.cs.length:=by omega
     have hil2:i<(syT d1.cs i).length:=by rw [zix];exact hil
     obtain ⟨r1,r2,r3⟩:=rRow hrow hil2
     rw [zym hil] at r3
     have hsucc:=z0v hil
     by_cases hop:d1.cs[i].op=[]
     · have el:eL d1.cs[i].op=.nilS:=by unfold eL;rw [if_pos hop]
       have hsame:syT d1.cs (i+1)=syT d1.cs i:=by
        rw [hsucc]
        have:syC d1.cs[i]=(syT d1.cs i)[i]:=by rw [zym hil];unfold syC;rw [hop];rfl
        rw [this,List.set_getElem_self]
       rw [el] at r3
       (repeat' (first|(with_reducible first|refine W.seq ?_|refine W.block ?_)|((first|(with_reducible first|refine W.reg ?_|refine W.skip ?_|refine W.exit ?_|refine W.ret ?_|refine W.ifc ?_)|((with_reducible first|refine zbo (fun _ hG=>?_) (fun _ hG=>?_)|refine za1 (fun _ hG=>?_) (fun _ hG=>?_))<;>(try simp -dsimp only [hG,decide_true,decide_false,not_true_eq_false,not_false_eq_true])<;>clear hG))<;>(try simp -dsimp (disch:=first|omega|(simp only [go_sem];omega)) only [go_sem,seval,Nat.reduceEqDiff,Nat.reduceLeDiff,hc3,hcb,r3,yleQ]))|simp -dsimp (disch:=first|omega|(simp only [go_sem];omega)) only [go_sem,seval,Nat.reduceEqDiff,Nat.reduceLeDiff,hc3,hcb,r3,yleQ]))
       refine ⟨_,_,?_,zk9,i+1,G3,by omega,rfl,by rw [hsame];exact hs3,rfl⟩
       omega
     · have el:eL d1.cs[i].op=.list (d1.cs[i].op.map eS):=by unfold eL;rw [if_neg hop]
       have hl0:0<d1.cs[i].op.length:=List.length_pos_iff.2 hop
       have hfew:=hd2.ok.few _ (List.getElem_mem hil)
       have hst1:=hd2.ok.st
       have hgt:(0<(d1.cs[i].op.length:Int))=True:=eq_true (by omega)
       have e3:((d1.cs[i].op.length:Int) - 1).toNat=d1.cs[i].op.length - 1:=by omega
       have e66:i * 66+66≤cells.length:=hrow.fits (i:=i) (by simpa using hil2)
       have hsy:syC d1.cs[i]=⟨d1.cs[i].op[d1.cs[i].op.length - 1],false,[]⟩:=by
        unfold syC
        rw [List.getLast?_eq_some_getLast hop,List.getLast_eq_getElem]
       have hr2:=z30 hrow hil2 fun _=>syC d1.cs[i]
       rw [zdw hil2,← hsucc] at hr2
       simp only [hsy] at hr2
       rw [zix] at hr2
       have eln:eL []=.nilS:=rfl
       rw [eln] at hr2
       have hs4:=(Sep.slSet hs3.swap hr2).swap
       rw [el] at r3
       (repeat' (first|(with_reducible first|refine W.seq ?_|refine W.block ?_)|((first|(with_reducible first|refine W.reg ?_|refine W.skip ?_|refine W.exit ?_|refine W.ret ?_|refine W.ifc ?_)|((with_reducible first|refine zbo (fun _ hG=>?_) (fun _ hG=>?_)|refine za1 (fun _ hG=>?_) (fun _ hG=>?_))<;>(try simp -dsimp only [hG,decide_true,decide_false,not_true_eq_false,not_false_eq_true])<;>clear hG))<;>(try simp -dsimp (disch:=first|omega|(simp only [go_sem];omega)) only [go_sem,seval,Nat.reduceEqDiff,Nat.reduceLeDiff,hc3,hcb,r3,yleQ,hgt,e3,e66]))|simp -dsimp (disch:=first|omega|(simp only [go_sem];omega)) only [go_sem,seval,Nat.reduceEqDiff,Nat.reduceLeDiff,hc3,hcb,r3,yleQ,hgt,e3,e66]))
       refine ⟨_,_,?_,zk9,i+1,_,by omega,rfl,hs4,rfl⟩
       omega
   · obtain rfl:i=d1.cs.length:=by omega
     (repeat' (first|(with_reducible first|refine W.seq ?_|refine W.block ?_)|((first|(with_reducible first|refine W.reg ?_|refine W.skip ?_|refine W.exit ?_|refine W.ret ?_|refine W.ifc ?_)|((with_reducible first|refine zbo (fun _ hG=>?_) (fun _ hG=>?_)|refine za1 (fun _ hG=>?_) (fun _ hG=>?_))<;>(try simp -dsimp only [hG,decide_true,decide_false,not_true_eq_false,not_false_eq_true])<;>clear hG))<;>(try simp -dsimp (disch:=first|omega|(simp only [go_sem];omega)) only [go_sem,seval,Nat.reduceEqDiff,Nat.reduceLeDiff,hc3]))|simp -dsimp (disch:=first|omega|(simp only [go_sem];omega)) only [go_sem,seval,Nat.reduceEqDiff,Nat.reduceLeDiff,hc3]))
     rw [z49] at hs3
     exact Fin.eq rfl ⟨rfl,_,⟨rfl,rfl⟩,(zil.mk (cb:=cb) (cap:=cap) hok (by simpa using hs3)).close⟩
 · rw [if_pos (by decide)] at hok ⊢
   have df:decide ((12:Int)=0)=false:=rfl
   refine goS trivial ?_
   (repeat' (first|(with_reducible first|refine W.seq ?_|refine W.block ?_)|((first|(with_reducible first|refine W.reg ?_|refine W.skip ?_|refine W.exit ?_|refine W.ret ?_|refine W.ifc ?_)|((with_reducible first|refine zbo (fun _ hG=>?_) (fun _ hG=>?_)|refine za1 (fun _ hG=>?_) (fun _ hG=>?_))<;>(try simp -dsimp only [hG,decide_true,decide_false,not_true_eq_false,not_false_eq_true])<;>clear hG))<;>(try simp -dsimp (disch:=first|omega|(simp only [go_sem];omega)) only [go_sem,seval,Nat.reduceEqDiff,Nat.reduceLeDiff,df]))|simp -dsimp (disch:=first|omega|(simp only [go_sem];omega)) only [go_sem,seval,Nat.reduceEqDiff,Nat.reduceLeDiff,df]))
   exact Fin.eq rfl ⟨rfl,_,⟨rfl,rfl⟩,hs2⟩
