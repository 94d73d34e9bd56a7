/-
 Layer 21 (disk): how a disk of the program lies in memory;New,and what only looks.
 Conditions: of each contract as it says.
-/
import Derived.Test.YtpplfpnjfjnkdaaGreatDoorT23
import Derived.Test.YtpplfpnjfjnkdaaGreatDoorEN13
import Derived.Test.YtpplfpnjfjnkdaaGreatDoorS22
import Derived.Test.YtpplfpnjfjnkdaaGreatDoorK23
set_option linter.unusedSimpArgs false
namespace Go.Proofs.YtpplfpnjfjnkdaaGreatDoor
open Go Go.E2 C22
set_option maxHeartbeats 1000000
def eS (s:Sec):D:=.agg (s.1.map eB)
def eC (c:Cel):D:=.agg (c.s.1.map eB++[.bool c.bad])
theorem zzv (s:Sec):(eS s).cells=s.1.map eB:=rfl
theorem zhr (c:Cel):(eC c).cells=c.s.1.map eB++[.bool c.bad]:=rfl
theorem zr9 (l:List UInt8):(l.map eB).all D.one=true:=by simp [List.all_map,Function.comp_def,eB,D.one]
theorem zj (s:Sec):(s.1.map eB).length=64:=by rw [yk3Q,s.2]
@[go_sem] theorem z3s (s:Sec):ze 64 (eS s)=true:=by simp only [ze,zzv,zj,zr9];rfl
@[go_sem] theorem zwh (c:Cel):ze 65 (eC c)=true:=by simp only [ze,zhr,yk2Q,zj,ylmQ,zr9];rfl
@[go_sem] theorem z1q (l:List Sec):(l.map eS).all (ze 64)=true:=by rw [ylbQ];intro x hx;obtain ⟨s,_,rfl⟩:=List.mem_map.1 hx;exact z3s s
@[go_sem] theorem zsa (l:List Cel):(l.map eC).all (ze 65)=true:=by rw [ylbQ];intro x hx;obtain ⟨s,_,rfl⟩:=List.mem_map.1 hx;exact zwh s
@[go_sem] theorem zr_one (n:Nat) (k:IntKind) (v:Int):(zr n (.int k v)).all D.one=true:=by simp [zr,D.one]
@[go_sem] theorem z8o (n:Nat) (x:D):(zr n x).length=n:=by simp [zr]
@[go_sem] theorem eBs_one (l:List UInt8):(l.map eB).all D.one=true:=zr9 l
@[go_sem] theorem zr_drop (n k:Nat) (x:D):(zr n x).drop k=zr (n - k) x:=by simp [zr]
@[go_sem] theorem zr_take (n k:Nat) (x:D):(zr n x).take k=zr (min k n) x:=by simp [zr]
@[go_sem] theorem zr_0 (x:D):zr 0 x=[]:=rfl
@[go_sem] theorem zzw (s:Sec):s.1.length=64:=s.2
@[go_sem] theorem z8p (s:Sec) (n:Nat) (h:64≤n):(s.1.map eB).drop n=[]:=yk7Q (by rw [zj];exact h)
@[go_sem] theorem s_take (s:Sec) (n:Nat) (h:64≤n):(s.1.map eB).take n=s.1.map eB:=yk1Q (by rw [zj];exact h)
attribute [go_sem] eS eC
attribute [go_sem] ylvQ List.nil_append List.take_zero List.drop_zero
attribute [go_sem] ylmQ List.all_cons List.all_nil Bool.and_true yk2Q
def OpA (d:Dk) (m:List (Int×D)):As:=z09 (m.map fun q=>SlA 64 q.2 ((zcs d q.1).map eS))
structure OpOk (d:Dk) (m:List (Int×D)):Prop where
 has:∀ i,(zd9 m i).isSome=true↔zcs d i≠[]
def zf (p:Nat) (d:Dk):As:=fun G=>Okd d∧∃ cb r cap m,OpOk d m ∧
 z09 [za p [.gs cb 0 d.cs.length cap,.mref r,eI d.steps,eI d.after,.bool d.dead],SlA 65 (.gs cb 0 d.cs.length cap) (d.cs.map eC),zqb [.i] eI id r m,OpA d m] G
structure za2 (p:Nat) (d:Dk) (R:List As) (G:Gh) (cb r cap:Nat) (m:List (Int×D)):Prop where
 ok:Okd d
 op:OpOk d m
 sep:Sep (za p [.gs cb 0 d.cs.length cap,.mref r,eI d.steps,eI d.after,.bool d.dead]::SlA 65 (.gs cb 0 d.cs.length cap) (d.cs.map eC)::zqb [.i] eI id r m::OpA d m::R) G
theorem za2.open {p:Nat} {d:Dk} {R:List As} {G:Gh} (h:Sep (zf p d::R) G):∃ cb r cap m,za2 p d R G cb r cap m:=by
 obtain ⟨h1,h2⟩:=h.pure
 obtain ⟨cb,h2⟩:=h2.ex
 obtain ⟨r,h2⟩:=h2.ex
 obtain ⟨cap,h2⟩:=h2.ex
 obtain ⟨m,h2⟩:=h2.ex
 obtain ⟨h3,h2⟩:=h2.pure
 exact ⟨cb,r,cap,m,h1,h3,h2.app⟩
theorem za2.close {p:Nat} {d:Dk} {R:List As} {G:Gh} {cb r cap:Nat} {m:List (Int×D)} (h:za2 p d R G cb r cap m):Sep (zf p d::R) G:=by
 have:=Sep.of_app (l:=[za p [.gs cb 0 d.cs.length cap,.mref r,eI d.steps,eI d.after,.bool d.dead],SlA 65 (.gs cb 0 d.cs.length cap) (d.cs.map eC),zqb [.i] eI id r m,OpA d m]) h.sep
 exact this.imp fun G hG=>⟨h.ok,cb,r,cap,m,h.op,hG⟩
section
variable {p:Nat} {d:Dk} {R:List As} {G:Gh} {cb r cap:Nat} {m:List (Int×D)}
theorem za2.cell (h:za2 p d R G cb r cap m):G.c p=some [.gs cb 0 d.cs.length cap,.mref r,.int .i64 d.steps,.int .i64 d.after,.bool d.dead]:=h.sep.get
theorem za2.row (h:za2 p d R G cb r cap m):∃ cs,G.c cb=some cs∧Row 65 d.cs.length cap (d.cs.map eC) cs:=by
 have:=h.sep.tail.gv
 obtain ⟨b,cap',cs,e,h1,h2⟩:=this.inv (by have:=h.ok.pos;intro e;rw [List.map_eq_nil_iff] at e;rw [e] at this;simp at this)
 simp only [D.gs.injEq,yk3Q] at e
 obtain ⟨rfl,_,_,rfl⟩:=e
 exact ⟨cs,h1,by simpa using h2⟩
theorem za2.map (h:za2 p d R G cb r cap m):zl4 [.i] eI id G r m:=h.sep.tail.tail.map
end
theorem Row.sub {sz n cap:Nat} {es cs:List D} (h:Row sz n cap es cs) {i j k:Nat} (hi:i<es.length) (hj:j+k≤sz):zae true k (some cs) (i * sz+j)=some (.d (.agg ((es[i].cells.drop j).take k))):=by
 have hg:=h.get hi
 have hf:=h.fits hi
 have hl:es[i].cells.length=sz:=by rw [← hg,yk4Q,ylfQ];omega
 simp only [zae,zbv,if_true]
 rw [if_pos (by rw [ylfQ];omega),← hg,Option.map_some]
 rw [List.drop_take,List.drop_drop,List.take_take,Nat.min_eq_left (by omega)]
theorem zqo (p:Nat) (d:Dk):ze1 Tryz.prog f_zz87 [.gp p 0] [zf p d] (·=.d (.int .i64 d.cs.length)):=by
 refine zap fol zz87_cp fun R G σ hs=>?_
 obtain ⟨cb,r,cap,m,hd⟩:=za2.open hs
 have hc:=hd.cell
 refine goS trivial ?_
 refine goR hc ?_
 exact Fin.eq rfl ⟨rfl,rfl,rfl⟩
theorem zwi (p:Nat) (d:Dk):ze1 Tryz.prog f_zz85 [.gp p 0] [zf p d] (·=.d (.bool d.dead)):=by
 refine zap fol zz85_cp fun R G σ hs=>?_
 obtain ⟨cb,r,cap,m,hd⟩:=za2.open hs
 have hc:=hd.cell
 refine goS trivial ?_
 refine goR hc ?_
 exact Fin.eq rfl ⟨rfl,rfl,rfl⟩
theorem zdl (p:Nat) (d:Dk) (i:Int):ze1 Tryz.prog f_zz81 [.gp p 0,.int .i64 i] [zf p d] (·=.d (.int .i64 (chk d i))):=by
 refine zap fol zz81_cp fun R G σ hs=>?_
 obtain ⟨cb,r,cap,m,hd⟩:=za2.open hs
 have hc:=hd.cell
 by_cases hdead:d.dead=true
 · refine goS trivial ?_
   (refine goX (nn hc hdead) ?_;(repeat' (with_reducible apply Br.mk<;>intro _)))
   all_goals exact Fin.eq rfl ⟨rfl,rfl,by unfold chk;rw [if_pos hdead]⟩
 · have hdead':d.dead=false:=by simpa using hdead
   refine goS trivial ?_
   (refine goX (nn hc hdead') ?_;(repeat' (with_reducible apply Br.mk<;>intro _)))
   all_goals first|exact Fin.eq rfl ⟨rfl,rfl,by unfold chk;rw [if_neg hdead,if_pos (by omega)]⟩|exact Fin.eq rfl ⟨rfl,rfl,by unfold chk;rw [if_neg hdead,if_neg (by omega)]⟩
theorem Sep.op0 {d:Dk} {R:List As} {G:Gh} (h:Sep R G):Sep (OpA d []::R) G:=Sep.of_app (l:=[]) h
theorem zr_d0 (n:Nat):rep n (zr 64 (.int .u8 0)++[.bool false])=flat ((List.replicate n zkw).map eC):=by
 rw [zrw,List.map_replicate];rfl
theorem zl9 (n:Nat) (i:Int):zcs (fresh n) i=[]:=by
 unfold zcs
 split
 · rfl
 · cases h:(fresh n).cs[i.toNat]? with
   | none=>rfl
   | some c =>
    have:=List.mem_of_getElem? h
    obtain rfl:=(List.mem_replicate.1 this).2
    rfl
theorem zwj (n:Int) (h1:1≤n) (h2:n≤65536):zaq Tryz.prog f_zz111 [.int .i64 n] [] (fun r post=>∃ p,r=.d (.gp p 0)∧post=[zf p (fresh n.toNat)]):=by
 refine zu fol zz111_cp fun R G σ hs=>?_
 have q1:¬ n<1:=by omega
 have q2:¬ 65536<n:=by omega
 refine goS trivial ?_
 refine goR (nn q1 q2) ?_
 refine z2w ⟨by omega,by omega,by omega⟩ ?_
 refine zx fun cb hcb=>?_
 refine goS trivial ?_
 refine goR trivial ?_
 refine zzg fun r hr=>?_
 refine goS trivial ?_
 refine goR trivial ?_
 refine zx fun p hp=>?_
 refine goS trivial ?_
 refine goR trivial ?_
 refine Fin.eq rfl ⟨rfl,_,⟨p,rfl,rfl⟩,?_⟩
 refine za2.close (m:=[]) (cb:=cb) (r:=r) (cap:=n.toNat) ⟨okd_fresh (by omega) (by omega),⟨fun i=>by rw [zl9];simp [zd9]⟩,?_⟩
 have hl:(fresh n.toNat).cs.length=n.toNat:=by simp [fresh]
 have hrow:Row 65 n.toNat n.toNat ((fresh n.toNat).cs.map eC) (rep n.toNat (zr 64 (.int .u8 0)++[.bool false])):=by
  rw [zr_d0]
  have:=Row.mk' (sz:=65) (n:=n.toNat) (cap:=n.toNat) (es:=(fresh n.toNat).cs.map eC) (rest:=[]) (by simp [fresh]) (zsa _) (Nat.le_refl _) (by rw [ylvQ,zy (zsa _),yk3Q,hl];exact Nat.le_refl _)
  simpa [fresh] using this
 have h3:=(Sep.new (b:=p) (cs:=[.gs cb 0 n.toNat n.toNat,.mref r,.int .i64 0,.int .i64 (-1),.bool false]) hp (Sep.mapNew (vf:=id) (zzm .i64) hr (Sep.toSl (Sep.new hcb (Sep.op0 (d:=fresh n.toNat) hs)) hrow))).cons fun _=>Sep.swap
 rw [hl]
 exact h3
theorem za2.put {p:Nat} {d d':Dk} {R:List As} {G:Gh} {cb r cap:Nat} {m:List (Int×D)} (h:za2 p d R G cb r cap m) (hok:Okd d') (hcs:d'.cs=d.cs) :
 za2 p d' R (G.set p (some [.gs cb 0 d.cs.length cap,.mref r,.int .i64 d'.steps,.int .i64 d'.after,.bool d'.dead])) cb r cap m:=by
 have hop:∀ i,zcs d' i=zcs d i:=fun i=>by unfold zcs;rw [hcs]
 refine ⟨hok,⟨fun i=>by rw [hop];exact h.op.has i⟩,?_⟩
 have e:OpA d' m=OpA d m:=by unfold OpA;simp only [hop]
 rw [hcs,e]
 exact h.sep.set
theorem z8q (p:Nat) (d:Dk) (n:Int) (hn:n≤9223372036854775807):zaq Tryz.prog f_zz95 [.gp p 0,.int .i64 n] [zf p d] (fun _ post=>post=[zf p (arm d n)]):=by
 refine zu fol zz95_cp fun R G σ hs=>?_
 obtain ⟨cb,r,cap,m,hd⟩:=za2.open hs
 have hc:=hd.cell
 refine goS trivial ?_
 refine goR hc ?_
 exact Fin.eq rfl ⟨rfl,_,rfl,(hd.put (z2d hd.ok hn) rfl).close⟩
theorem zm2 (p:Nat) (d:Dk) (hn:d.steps≤1000000000):zaq Tryz.prog f_zz89 [.gp p 0] [zf p d] (fun r post=>r=.d (.int .i64 (stp d).2)∧post=[zf p (stp d).1]):=by
 refine zu fol zz89_cp fun R G σ hs=>?_
 obtain ⟨cb,r,cap,m,hd⟩:=za2.open hs
 have hc:=hd.cell
 have hst:=hd.ok.st
 have haf:=hd.ok.aft
 obtain ⟨hok,_,_,hcs⟩:=zmg hd.ok hn
 refine goS trivial ?_
 (refine goX hc ?_;(repeat' (with_reducible apply Br.mk<;>intro _)))
 · rename_i ha
   have e:stp d=({ d with dead:=true },12):=by unfold stp;rw [if_pos ha]
   rw [e] at hok ⊢
   exact Fin.eq rfl ⟨rfl,_,⟨rfl,rfl⟩,(hd.put hok rfl).close⟩
 · rename_i ha hb
   have e:stp d=({ d with after:=d.after - 1,steps:=d.steps+1 },0):=by unfold stp;rw [if_neg ha,if_pos hb]
   rw [e] at hok ⊢
   exact Fin.eq rfl ⟨rfl,_,⟨rfl,rfl⟩,(hd.put hok rfl).close⟩
 · rename_i ha hb
   have e:stp d=({ d with after:=d.after,steps:=d.steps+1 },0):=by unfold stp;rw [if_neg ha,if_neg hb]
   rw [e] at hok ⊢
   exact Fin.eq rfl ⟨rfl,_,⟨rfl,rfl⟩,(hd.put hok rfl).close⟩
theorem zm5 {α:Type} {l:List α} {i:Nat} (h:i<l.length):l[i]?=some l[i]:=yliQ h
theorem za2.look {p:Nat} {d:Dk} {R:List As} {G:Gh} {cb r cap:Nat} {m:List (Int×D)} (h:za2 p d R G cb r cap m) (i:Int) :
 ∃ x,gdD (.mlook [.i] .nilS false) [.mref r,.int .i64 i] G=some (.d x,G)∧GV 64 G x ((zcs d i).map eS)∧(zd9 m i=none→x=.nilS∧zcs d i=[])∧∀ v,zd9 m i=some v→x=v:=by
 have hl:=h.map.look .nilS i
 cases hg:zd9 m i with
 | none =>
  have h0:zcs d i=[]:=by
   apply Classical.byContradiction
   intro e
   have:=(h.op.has i).2 e
   rw [hg] at this;cases this
  rw [hg] at hl
  exact ⟨_,hl,by rw [h0];exact .nil,fun _=>⟨rfl,h0⟩,fun v e=>by cases e⟩
 | some v =>
  rw [hg] at hl
  refine ⟨_,hl,?_,fun e=>(by cases e),fun w e=>by cases e;rfl⟩
  have hs:Sep (OpA d m::R) G:=h.sep.tail.tail.tail
  have hm:=zry hg
  obtain ⟨l1,l2,e⟩:=List.append_of_mem hm
  have hs2:=hs.app
  rw [e,yk6Q,List.map_cons,yk5Q] at hs2
  have hs3:=hs2.perm (l':=SlA 64 v ((zcs d i).map eS)::(l1.map (fun q=>SlA 64 q.2 ((zcs d q.1).map eS))++(l2.map (fun q=>SlA 64 q.2 ((zcs d q.1).map eS))++R))) List.perm_middle
  exact hs3.gv
theorem zwk {G:Gh} {x:D} {l:List Sec} (h:GV 64 G x (l.map eS)) (hne:l≠[]):∃ b cap cs,x=.gs b 0 l.length cap∧G.c b=some cs∧zae true 64 (some cs) ((l.length - 1) * 64)=some (.d (eS (l.getLast hne))):=by
 obtain ⟨b,cap,cs,e,hb,hr⟩:=h.inv (by simpa using hne)
 rw [yk3Q] at e hr
 have hl:0<l.length:=List.length_pos_iff.2 hne
 have:=hr.idx (i:=l.length - 1) (by rw [yk3Q];omega)
 rw [List.getElem_map] at this
 refine ⟨b,cap,cs,e,hb,?_⟩
 rw [this,List.getLast_eq_getElem];rfl
theorem z3t (p:Nat) (d:Dk) (i:Int):ze1 Tryz.prog f_zz86 [.gp p 0,.int .i64 i] [zf p d] (·=.tup [eS (rd d i).1,.int .i64 (rd d i).2]):=by
 refine zap fol zz86_cp fun R G σ hs=>?_
 obtain ⟨cb,r,cap,m,hd⟩:=za2.open hs
 have hc:=hd.cell
 obtain ⟨cells,hcb,hrow⟩:=hd.row
 by_cases hk:chk d i=0
 · obtain ⟨hdead,h0,h1⟩:=zh0 hk
   obtain ⟨k,rfl⟩:∃ k:Nat,i=k:=⟨i.toNat,by omega⟩
   have hkl:k<d.cs.length:=by omega
   obtain ⟨c,hcc⟩:∃ c,c=d.cs[k]:=⟨_,rfl⟩
   have hrd:rd d k=celRd c:=by unfold rd;rw [if_neg (by rw [hk];simp),yleQ,zm5 hkl,hcc]
   have hop:zcs d k=c.op:=by rw [zdo hkl,hcc]
   obtain ⟨x,hl,hv,_,_⟩:=hd.look k
   rw [hop] at hv
   refine goS trivial ?_
   have hlen:=hv.len
   rw [yk3Q] at hlen
   by_cases hne:c.op=[]
   · rw [hne] at hlen
     have hrd2:celRd c=if c.bad=true then (z0,14) else (c.s,0):=by unfold celRd;rw [hne];rfl
     have hfl:=hrow.fld (i:=k) (j:=64) (by simpa using hkl) (by omega)
     have hsu:=Row.sub hrow (i:=k) (j:=0) (k:=64) (by simpa using hkl) (by omega)
     rw [List.getElem_map,← hcc] at hfl hsu
     have e1:(eC c).cells[64]?=some (.bool c.bad):=by rw [zhr,yllQ (by simp [zzw]),zj];rfl
     have e2:((eC c).cells.drop 0).take 64=c.s.1.map eB:=by rw [List.drop_zero,zhr,List.take_append_of_le_length (by simp [zzw]),yk1Q (by simp [zzw])]
     rw [e1] at hfl
     rw [e2,Nat.add_zero] at hsu
     cases hb:c.bad
     all_goals
      rw [hb] at hfl hrd2
      simp only [if_true,Bool.false_eq_true,if_false] at hrd2
      (refine zb7 (nn hk (nn hc (nn hl (nn hlen (nn hcb (nn hfl (nn hsu @Int.toNat_natCast))))))) ((zdl p d k).q hs) ?_;(repeat' (with_reducible apply Br.mk<;>intro _)))
      (apply Fin.eq;(focus (simp -dsimp (disch:=first|omega|(simp only [go_sem];omega)) only [go_sem,seval,Nat.reduceEqDiff,Nat.reduceLeDiff]<;>rfl)))
      refine ⟨rfl,rfl,?_⟩
      rw [hrd,hrd2];rfl
   · obtain ⟨b,cap',cs,rfl,hb,hla⟩:=zwk hv hne
     have hl0:0<c.op.length:=List.length_pos_iff.2 hne
     have hrd2:celRd c=(c.op.getLast hne,0):=by unfold celRd;rw [List.getLast?_eq_some_getLast hne]
     have e3:((c.op.length:Int) - 1).toNat=c.op.length - 1:=by omega
     have hfew:=hd.ok.few c (by rw [hcc];exact List.getElem_mem hkl)
     have hst:=hd.ok.st
     have hgt:(0<(c.op.length:Int))=True:=eq_true (by omega)
     (refine zb7 (nn hk (nn hc (nn hl (nn hb (nn e3 (nn hla hgt)))))) ((zdl p d k).q hs) ?_;(repeat' (with_reducible apply Br.mk<;>intro _)))
     (apply Fin.eq;(focus (simp -dsimp (disch:=first|omega|(simp only [go_sem];omega)) only [go_sem,seval,Nat.reduceEqDiff,Nat.reduceLeDiff]<;>rfl)))
     refine ⟨rfl,rfl,?_⟩
     rw [hrd,hrd2];rfl
 · have hrd:rd d i=(z0,chk d i):=by unfold rd;rw [if_pos hk]
   refine goS trivial ?_
   (refine zb7 hk ((zdl p d i).q hs) ?_;(repeat' (with_reducible apply Br.mk<;>intro _)))
   (apply Fin.eq;(focus (simp -dsimp (disch:=first|omega|(simp only [go_sem];omega)) only [go_sem,seval,Nat.reduceEqDiff,Nat.reduceLeDiff]<;>rfl)))
   refine ⟨rfl,rfl,?_⟩
   rw [hrd];rfl
end Go.Proofs.YtpplfpnjfjnkdaaGreatDoor
namespace Go.Proofs.YtpplfpnjfjnkdaaGreatDoor
open Go Go.E2 C22
set_option maxHeartbeats 1000000
section
variable {p:Nat} {d:Dk} {R:List As} {G:Gh} {cb r cap:Nat} {m:List (Int×D)}
theorem OpA.out {i:Int} {v:D} (hm:zd9 m i=some v) (h:Sep (OpA d m::R) G):Sep (SlA 64 v ((zcs d i).map eS)::OpA d (mdel m i)::R) G:=by
 have h2:=(h.app).perm (((zvh hm).map fun q:Int×D=>SlA 64 q.2 ((zcs d q.1).map eS)).append_right R)
 exact h2.cons fun _=>Sep.of_app
theorem OpA.into {i:Int} {v:D} (h:Sep (SlA 64 v ((zcs d i).map eS)::OpA d (mdel m i)::R) G):Sep (OpA d (zl2 m i v)::R) G:=by
 have h2:=(h.cons fun _=>Sep.app).perm (((zvi (m:=m) i v).map fun q:Int×D=>SlA 64 q.2 ((zcs d q.1).map eS)).append_right R).symm
 exact Sep.of_app h2
theorem OpA.same {d':Dk} (h:∀ q∈m,zcs d' q.1=zcs d q.1):OpA d' m=OpA d m:=by
 unfold OpA
 congr 1
 exact List.map_congr_left fun q hq=>by rw [h q hq]
theorem za2.grown (h:za2 p d R G cb r cap m) {i:Int} {x x':D} {es:List Sec} (hx:∀ v,zd9 m i=some v→x=v) (hx0:zd9 m i=none→x=.nilS∧zcs d i=[])
 {G3:Gh} (ht:GTo x x' G G3) (hv:GV 64 G3 x' (es.map eS)) :
 Sep (SlA 64 x' (es.map eS)::OpA d (mdel m i)::zqb [.i] eI id r m::za p [.gs cb 0 d.cs.length cap,.mref r,eI d.steps,eI d.after,.bool d.dead]::SlA 65 (.gs cb 0 d.cs.length cap) (d.cs.map eC)::R) G3:=by
 have h1:Sep (SlA 64 x ((zcs d i).map eS)::OpA d (mdel m i)::zqb [.i] eI id r m::za p [.gs cb 0 d.cs.length cap,.mref r,eI d.steps,eI d.after,.bool d.dead]::SlA 65 (.gs cb 0 d.cs.length cap) (d.cs.map eC)::R) G:=by
  have h0:Sep (OpA d m::zqb [.i] eI id r m::za p [.gs cb 0 d.cs.length cap,.mref r,eI d.steps,eI d.after,.bool d.dead]::SlA 65 (.gs cb 0 d.cs.length cap) (d.cs.map eC)::R) G:=h.sep.f4.cons fun _=>Sep.f3
  cases hg:zd9 m i with
  | some v=>rw [hx v hg];exact OpA.out hg h0
  | none =>
   obtain ⟨e1,e2⟩:=hx0 hg
   rw [e1,e2,zka hg];exact h0.slNil
 exact h1.grow ht hv
theorem za2.regrow (h:za2 p d R G cb r cap m) {d':Dk} (hok:Okd d') (hst:d'.steps=d.steps) (haf:d'.after=d.after) (hde:d'.dead=d.dead) (hcs:d'.cs.map eC=d.cs.map eC) {i:Int} {x':D} {es:List Sec}
 (hop:∀ j,zcs d' j=if j=i then es else zcs d j) (hne:es≠[]) {G3:Gh}
 (h2:Sep (SlA 64 x' (es.map eS)::OpA d (mdel m i)::zqb [.i] eI id r m::za p [.gs cb 0 d.cs.length cap,.mref r,eI d.steps,eI d.after,.bool d.dead]::SlA 65 (.gs cb 0 d.cs.length cap) (d.cs.map eC)::R) G3)
 {M:MO} (hm:zl4 [.i] eI id (G3.setM r (some M)) r (zl2 m i x')):za2 p d' R (G3.setM r (some M)) cb r cap (zl2 m i x'):=by
 have hnd:=h.map.nodup
 have hlen:d'.cs.length=d.cs.length:=by have:=congrArg List.length hcs;simpa using this
 have h3:=(Sep.mapSet h2.f3 hm).b3
 have e1:zcs d' i=es:=by rw [hop,if_pos rfl]
 have e2:OpA d' (mdel m i)=OpA d (mdel m i):=OpA.same fun q hq=>by rw [hop,if_neg ((zmv hnd).1 hq).2]
 rw [← e1,← e2] at h3
 have h4:=OpA.into h3
 refine ⟨hok,⟨fun j=>?_⟩,?_⟩
 · rw [zzi,hop]
   split
   · rename_i e;subst e;simp [hne]
   · exact h.op.has j
 · rw [hlen,hst,haf,hde,hcs]
   exact (h4.f3.cons fun _=>Sep.f3).cons fun _ hh=>hh.cons fun _=>Sep.swap
end
theorem zma {α β:Type} {l:List α} {k:Nat} {f:α→α} {g:α→β} (h:∀ x,g (f x)=g x):(l.modify k f).map g=l.map g:=by
 apply List.ext_getElem?
 intro i
 rw [ylhQ,ylhQ,List.getElem?_modify]
 cases l[i]? with
 | none=>rfl
 | some x=>simp only [Option.map_some];split<;>simp [h]
theorem zkn {d d':Dk} {k:Nat} {f:Cel→Cel} (h:d'.cs=d.cs.modify k f) (hk:k<d.cs.length) (j:Int):zcs d' j=if j=k then (f d.cs[k]).op else zcs d j:=by
 unfold zcs
 rw [h,List.getElem?_modify]
 by_cases e:j=k
 · subst e
   rw [if_pos rfl,if_neg (by omega),yleQ,zm5 hk]
   simp
 · rw [if_neg e]
   by_cases hj:j<0
   · rw [if_pos hj,if_pos hj]
   · rw [if_neg hj,if_neg hj]
     have:¬ k=j.toNat:=by omega
     cases d.cs[j.toNat]? <;> simp [this]
theorem zsb (p:Nat) (d:Dk) (i:Int) (s:Sec) (hn:d.steps≤1000000000):zaq Tryz.prog f_zz80 [.gp p 0,.int .i64 i,eS s] [zf p d] (fun r post=>r=.d (.int .i64 (wr d i s).2)∧post=[zf p (wr d i s).1]):=by
 refine zu fol zz80_cp fun R G σ hs=>?_
 by_cases hk:chk d i=0
 · obtain ⟨hdead,h0,h1⟩:=zh0 hk
   obtain ⟨k,rfl⟩:∃ k:Nat,i=k:=⟨i.toNat,by omega⟩
   have hkl:k<d.cs.length:=by omega
   obtain ⟨hwok,_⟩:=wr_ok (d:=d) (by obtain ⟨_,_,_,_,h⟩:=za2.open hs;exact h.ok) hn k s
   refine goS trivial ?_
   (refine zb7 hk ((zdl p d k).q hs) ?_;(repeat' (with_reducible apply Br.mk<;>intro _)))
   (refine goM (zm2 p d hn) (hs) ?_)
   rintro _ _ G2 ⟨rfl,rfl⟩ hs2
   by_cases hst:(stp d).2=0
   · have hw:wr d k s=({ (stp d).1 with cs:=d.cs.modify k fun c=>{ c with op:=c.op++[s] } },0):=by unfold wr;rw [if_neg (by rw [hk];simp),if_neg (by rw [hst];simp),yleQ]
     rw [hw] at hwok ⊢
     obtain ⟨cb,r,cap,m,hd⟩:=za2.open hs2
     have hc:=hd.cell
     obtain ⟨x,hl,hv,hx0,hx⟩:=hd.look k
     have hcs:(stp d).1.cs=d.cs:=by unfold stp;split<;>rfl
     have hfew:=hd.ok.few ((stp d).1.cs[k]'(by rw [hcs];exact hkl)) (List.getElem_mem _)
     have hop:zcs (stp d).1 k=((stp d).1.cs[k]'(by rw [hcs];exact hkl)).op:=zdo (by rw [hcs];exact hkl)
     have hst2:=hd.ok.st
     refine goS hst ?_
     (refine goX (nn hst (nn hc hl)) ?_;(repeat' (with_reducible apply Br.mk<;>intro _)))
     have hkl2:k<(stp d).1.cs.length:=by rw [hcs];exact hkl
     refine zcb (es2:=[eS s]) (m:=1) hv (zba (es:=[eS s]) (z1q [s])) rfl (z1q [s]) (z8o _ _) (by rw [yk3Q,hop,z2];omega) fun x' G3 hv3 hto=>?_
     have h2:=hd.grown (es:=zcs (stp d).1 k++[s]) hx hx0 hto (by rw [yk6Q];exact hv3)
     have hc3:=h2.f4.get
     have hm3:=h2.f3.map
     (refine goX (nn hc hc3) ?_;(repeat' (with_reducible apply Br.mk<;>intro _)))
     refine z3l (emb:=eI) (vf:=id) hm3 k x' fun M hM=>?_
     (refine goX trivial ?_;(repeat' (with_reducible apply Br.mk<;>intro _)))
     refine Fin.eq rfl ⟨rfl,_,⟨rfl,rfl⟩,?_⟩
     refine (hd.regrow hwok rfl rfl rfl ?_ ?_ (by simp) h2 hM).close
     · rw [hcs];exact zma fun c=>rfl
     · intro j
       have:=zkn (d:=(stp d).1) (d':={ (stp d).1 with cs:=d.cs.modify k fun c=>{ c with op:=c.op++[s] } }) (k:=k) (f:=fun c=>{ c with op:=c.op++[s] }) (by rw [hcs]) hkl2 j
       rw [this,hop]
   · have hw:wr d k s=stp d:=by unfold wr;rw [if_neg (by rw [hk];simp),if_pos hst]
     rw [hw]
     refine goS hst ?_
     (refine goX hst ?_;(repeat' (with_reducible apply Br.mk<;>intro _)))
     exact Fin.eq rfl ⟨rfl,_,⟨rfl,rfl⟩,hs2⟩
 · have hw:wr d i s=(d,chk d i):=by unfold wr;rw [if_pos hk]
   refine goS trivial ?_
   (refine zb7 hk ((zdl p d i).q hs) ?_;(repeat' (with_reducible apply Br.mk<;>intro _)))
   exact Fin.eq rfl ⟨rfl,_,⟨by rw [hw],by rw [hw]⟩,hs⟩
end Go.Proofs.YtpplfpnjfjnkdaaGreatDoor
namespace Go.Proofs.YtpplfpnjfjnkdaaGreatDoor
open Go Go.E2 C22
set_option maxHeartbeats 1000000
theorem zdm:∀ (l l':List UInt8),l.length=l'.length→zi (kr l.length .i) (l.map eB) (l'.map eB)=some (decide (l=l'))
 | [],[],_=>rfl
 | a::l,b::l',h=>by
   have ih:=zdm l l' (by simpa using h)
   have e:kr (a::l).length .i=.i::kr l.length .i:=by simp [kr,List.replicate_succ]
   have hab:((a.toNat:Int) == (b.toNat:Int))=decide (a=b):=by
    rw [Bool.eq_iff_iff];simp only [beq_iff_eq,decide_eq_true_eq]
    exact ⟨fun h=>UInt8.toNat_inj.1 (by omega),fun h=>by rw [h]⟩
   simp only [e,List.map_cons,zi,eB,zcf,if_true,hab]
   rw [ih]
   simp
 | [],_::_,h=>by simp at h
 | _::_,[],h=>by simp at h
@[go_sem] theorem z3u (s t:Sec):zi (kr 64 .i) (s.1.map eB) (t.1.map eB)=some (decide (s=t)):=by
  have:=zdm s.1 t.1 (by rw [s.2,t.2])
  rw [s.2] at this
  rw [this]
  congr 1
  exact decide_eq_decide.2 ⟨fun h=>Subtype.ext h,fun h=>by rw [h]⟩
section
variable {p:Nat} {d:Dk} {R:List As} {G:Gh} {cb r cap:Nat} {m:List (Int×D)}
theorem za2.setC (h:za2 p d R G cb r cap m) {d':Dk} (hok:Okd d') (hst:d'.steps=d.steps) (haf:d'.after=d.after) (hde:d'.dead=d.dead) (hlen:d'.cs.length=d.cs.length) (hop:∀ j,zcs d' j=zcs d j) {cs':List D} (hr:Row 65 d.cs.length cap (d'.cs.map eC) cs') :
 za2 p d' R (G.set cb (some cs')) cb r cap m:=by
 refine ⟨hok,⟨fun i=>by rw [hop];exact h.op.has i⟩,?_⟩
 have e:OpA d' m=OpA d m:=OpA.same fun q _=>hop q.1
 rw [hlen,hst,haf,hde,e]
 exact (Sep.slSet h.sep.swap hr).swap
end
theorem zdw {α:Type} {l:List α} {k:Nat} (hk:k<l.length) (f:α→α):l.modify k f=l.set k (f l[k]):=by
 apply List.ext_getElem?
 intro i
 rw [List.getElem?_modify,List.getElem?_set]
 by_cases h:k=i
 · subst h;simp [hk]
 · simp [h]
theorem zwl {d d':Dk} {k:Nat} {f:Cel→Cel} (h:d'.cs=d.cs.modify k f) (hf:∀ c,(f c).op=c.op) (j:Int):zcs d' j=zcs d j:=by
 unfold zcs
 rw [h,List.getElem?_modify]
 cases d.cs[j.toNat]? with
 | none=>rfl
 | some c=>by_cases e:k=j.toNat<;>simp [e,hf]
attribute [go_sem] Nat.min_self List.take_append List.drop_append List.take_nil List.drop_nil List.take_succ_cons List.drop_succ_cons
theorem zm6 {cs:List Cel} {cap:Nat} {cells:List D} (hrow:Row 65 cs.length cap (cs.map eC) cells) {k:Nat} (hk:k<cs.length) (f:Cel→Cel) :
 Row 65 cs.length cap ((cs.modify k f).map eC) (cells.take (k * 65)++((f cs[k]).s.1.map eB++[.bool (f cs[k]).bad])++cells.drop (k * 65+65)):=by
 have:=hrow.set (i:=k) (by simpa using hk) (zwh (f cs[k]))
 have e:zau cells (eC (f cs[k])).cells (k * 65)=cells.take (k * 65)++((f cs[k]).s.1.map eB++[.bool (f cs[k]).bad])++cells.drop (k * 65+65):=by
  unfold zau
  rw [zhr]
  have:((f cs[k]).s.1.map eB++[D.bool (f cs[k]).bad]).length=65:=by rw [yk2Q,zj];rfl
  rw [this]
 rw [e] at this
 rw [zdw hk,List.map_set]
 exact this
theorem zwm (p:Nat) (d:Dk) (i:Int):zaq Tryz.prog f_zz96 [.gp p 0,.int .i64 i] [zf p d] (fun r post=>r=.d (.int .i64 (rot d i).2)∧post=[zf p (rot d i).1]):=by
 refine zu fol zz96_cp fun R G σ hs=>?_
 obtain ⟨cb,r,cap,m,hd⟩:=za2.open hs
 have hc:=hd.cell
 obtain ⟨cells,hcb,hrow⟩:=hd.row
 by_cases hk:chk d i=0
 · obtain ⟨hdead,h0,h1⟩:=zh0 hk
   obtain ⟨k,rfl⟩:∃ k:Nat,i=k:=⟨i.toNat,by omega⟩
   have hkl:k<d.cs.length:=by omega
   obtain ⟨hok,_⟩:=zsr hd.ok k
   have hw:rot d k=({ d with cs:=d.cs.modify k fun c=>{ c with s:=z0,bad:=true } },0):=by unfold rot;rw [if_neg (by rw [hk];simp),yleQ]
   rw [hw] at hok ⊢
   have hfit:=hrow.fits (i:=k) (by simpa using hkl)
   have e65:k * 65+(64+(0+1))≤cells.length:=by omega
   refine goS trivial ?_
   (refine zb7 (nn hk (nn hc (nn hcb (nn @Int.toNat_natCast e65)))) ((zdl p d k).q hs) ?_;(repeat' (with_reducible apply Br.mk<;>intro _)))
   refine Fin.eq rfl ⟨rfl,_,⟨rfl,rfl⟩,(hd.setC hok rfl rfl rfl (by simp) (zwl rfl fun c=>rfl) ?_).close⟩
   exact zm6 hrow hkl fun c=>{ c with s:=z0,bad:=true }
 · have hw:rot d i=(d,chk d i):=by unfold rot;rw [if_pos hk]
   refine goS trivial ?_
   (refine zb7 hk ((zdl p d i).q hs) ?_;(repeat' (with_reducible apply Br.mk<;>intro _)))
   exact Fin.eq rfl ⟨rfl,_,⟨by rw [hw],by rw [hw]⟩,hs⟩
