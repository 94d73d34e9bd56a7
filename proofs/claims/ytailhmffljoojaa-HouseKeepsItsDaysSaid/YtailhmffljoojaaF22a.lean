/-
 Layer 21 (disk): how a disk of the program lies in memory;New,and what only looks.
 Conditions: of each contract as it says.
-/
import Derived.Test.YtailhmffljoojaaT52
import Derived.Test.YtailhmffljoojaaEN13
import Derived.Test.YtailhmffljoojaaS22
set_option linter.unusedSimpArgs false
namespace Go.Proofs.Ytailhmffljoojaa
open Go Go.E2 C22
set_option maxHeartbeats 1000000
def eS (s:Sec):D:=.agg (s.1.map eB)
def eC (c:Cel):D:=.agg (c.s.1.map eB++[.bool c.bad])
abbrev eI (n:Int):D:=.int .i64 n
theorem zti (s:Sec):(eS s).cells=s.1.map eB:=rfl
theorem zhw (c:Cel):(eC c).cells=c.s.1.map eB++[.bool c.bad]:=rfl
theorem zjz (l:List UInt8):(l.map eB).all D.one=true:=by simp [List.all_map,Function.comp_def,eB,D.one]
theorem zac (s:Sec):(s.1.map eB).length=64:=by rw [List.length_map,s.2]
@[go_sem] theorem zww (s:Sec):za 64 (eS s)=true:=by simp only [za,zti,zac,zjz];rfl
@[go_sem] theorem zrd (c:Cel):za 65 (eC c)=true:=by simp only [za,zhw,List.length_append,zac,List.all_append,zjz];rfl
@[go_sem] theorem zu8 (l:List Sec):(l.map eS).all (za 64)=true:=by rw [List.all_eq_true];intro x hx;obtain ⟨s,_,rfl⟩:=List.mem_map.1 hx;exact zww s
@[go_sem] theorem zu9 (l:List Cel):(l.map eC).all (za 65)=true:=by rw [List.all_eq_true];intro x hx;obtain ⟨s,_,rfl⟩:=List.mem_map.1 hx;exact zrd s
theorem z6g:zr 64 (.int .u8 0)=z0.1.map eB:=rfl
@[go_sem] theorem z72 (n:Nat) (k:IntKind) (v:Int):(zr n (.int k v)).all D.one=true:=by simp [zr,D.one]
@[go_sem] theorem z1b (n:Nat) (x:D):(zr n x).length=n:=by simp [zr]
@[go_sem] theorem z6h (l:List UInt8):(l.map eB).all D.one=true:=zjz l
@[go_sem] theorem z6i (n k:Nat) (x:D):(zr n x).drop k=zr (n - k) x:=by simp [zr]
@[go_sem] theorem z6j (n k:Nat) (x:D):(zr n x).take k=zr (min k n) x:=by simp [zr]
@[go_sem] theorem z9c (x:D):zr 0 x=[]:=rfl
@[go_sem] theorem zwx (s:Sec):s.1.length=64:=s.2
@[go_sem] theorem z73 (s:Sec) (n:Nat) (h:64≤n):(s.1.map eB).drop n=[]:=List.drop_of_length_le (by rw [zac];exact h)
@[go_sem] theorem z74 (s:Sec) (n:Nat) (h:64≤n):(s.1.map eB).take n=s.1.map eB:=List.take_of_length_le (by rw [zac];exact h)
attribute [go_sem] eS eC
attribute [go_sem] List.append_nil List.nil_append List.take_zero List.drop_zero
attribute [go_sem] List.all_append List.all_cons List.all_nil Bool.and_true List.length_append
def OpA (d:Dk) (m:List (Int×D)):As:=zvt (m.map fun q=>SlA 64 q.2 ((zdo d q.1).map eS))
structure z6k (d:Dk) (m:List (Int×D)):Prop where
 has:∀ i,(zcy m i).isSome=true↔zdo d i≠[]
def zaa (p:Nat) (d:Dk):As:=fun G=>Okd d∧∃ cb r cap m,z6k d m ∧
 zvt [ze p [.gs cb 0 d.cs.length cap,.mref r,eI d.steps,eI d.after,.bool d.dead],SlA 65 (.gs cb 0 d.cs.length cap) (d.cs.map eC),zl9 [.i] eI id r m,OpA d m] G
structure za5 (p:Nat) (d:Dk) (R:List As) (G:Gh) (cb r cap:Nat) (m:List (Int×D)):Prop where
 ok:Okd d
 op:z6k d m
 sep:Sep (ze p [.gs cb 0 d.cs.length cap,.mref r,eI d.steps,eI d.after,.bool d.dead]::SlA 65 (.gs cb 0 d.cs.length cap) (d.cs.map eC)::zl9 [.i] eI id r m::OpA d m::R) G
theorem za5.open {p:Nat} {d:Dk} {R:List As} {G:Gh} (h:Sep (zaa p d::R) G):∃ cb r cap m,za5 p d R G cb r cap m:=by
 obtain ⟨h1,h2⟩:=h.pure
 obtain ⟨cb,h2⟩:=h2.ex
 obtain ⟨r,h2⟩:=h2.ex
 obtain ⟨cap,h2⟩:=h2.ex
 obtain ⟨m,h2⟩:=h2.ex
 obtain ⟨h3,h2⟩:=h2.pure
 exact ⟨cb,r,cap,m,h1,h3,h2.app⟩
theorem za5.close {p:Nat} {d:Dk} {R:List As} {G:Gh} {cb r cap:Nat} {m:List (Int×D)} (h:za5 p d R G cb r cap m):Sep (zaa p d::R) G:=by
 have:=Sep.of_app (l:=[ze p [.gs cb 0 d.cs.length cap,.mref r,eI d.steps,eI d.after,.bool d.dead],SlA 65 (.gs cb 0 d.cs.length cap) (d.cs.map eC),zl9 [.i] eI id r m,OpA d m]) h.sep
 exact this.imp fun G hG=>⟨h.ok,cb,r,cap,m,h.op,hG⟩
section
variable {p:Nat} {d:Dk} {R:List As} {G:Gh} {cb r cap:Nat} {m:List (Int×D)}
theorem za5.cell (h:za5 p d R G cb r cap m):G.c p=some [.gs cb 0 d.cs.length cap,.mref r,.int .i64 d.steps,.int .i64 d.after,.bool d.dead]:=h.sep.get
theorem za5.row (h:za5 p d R G cb r cap m):∃ cs,G.c cb=some cs∧Row 65 d.cs.length cap (d.cs.map eC) cs:=by
 have:=h.sep.tail.gv
 obtain ⟨b,cap',cs,e,h1,h2⟩:=this.inv (by have:=h.ok.pos;intro e;rw [List.map_eq_nil_iff] at e;rw [e] at this;simp at this)
 simp only [D.gs.injEq,List.length_map] at e
 obtain ⟨rfl,_,_,rfl⟩:=e
 exact ⟨cs,h1,by simpa using h2⟩
theorem za5.map (h:za5 p d R G cb r cap m):zdu [.i] eI id G r m:=h.sep.tail.tail.map
end
theorem Row.sub {sz n cap:Nat} {es cs:List D} (h:Row sz n cap es cs) {i j k:Nat} (hi:i<es.length) (hj:j+k≤sz):zba true k (some cs) (i * sz+j)=some (.d (.agg ((es[i].cells.drop j).take k))):=by
 have hg:=h.get hi
 have hf:=h.fits hi
 have hl:es[i].cells.length=sz:=by rw [← hg,List.length_take,List.length_drop];omega
 simp only [zba,zb3,if_true]
 rw [if_pos (by rw [List.length_drop];omega),← hg,Option.map_some]
 rw [List.drop_take,List.drop_drop,List.take_take,Nat.min_eq_left (by omega)]
theorem zg2 (p:Nat) (d:Dk):zkg Try.prog f_zz44 [.gp p 0] [zaa p d] (·=.d (.int .i64 d.cs.length)):=by
 refine zgq fol zz44_cp fun R G σ hs=>?_
 obtain ⟨cb,r,cap,m,hd⟩:=za5.open hs
 have hc:=hd.cell
 refine goS trivial ?_
 refine goR hc ?_
 exact Fin.eq rfl ⟨rfl,rfl,rfl⟩
theorem zd8 (p:Nat) (d:Dk) (i:Int):zkg Try.prog f_zz34 [.gp p 0,.int .i64 i] [zaa p d] (·=.d (.int .i64 (chk d i))):=by
 refine zgq fol zz34_cp fun R G σ hs=>?_
 obtain ⟨cb,r,cap,m,hd⟩:=za5.open hs
 have hc:=hd.cell
 by_cases hdead:d.dead=true
 · refine goS trivial ?_
   (refine goX (nn hc hdead) ?_;(repeat' (with_reducible apply Br.mk<;>intro _)))
   all_goals exact Fin.eq rfl ⟨rfl,rfl,by unfold chk;rw [if_pos hdead]⟩
 · have hdead':d.dead=false:=by simpa using hdead
   refine goS trivial ?_
   (refine goX (nn hc hdead') ?_;(repeat' (with_reducible apply Br.mk<;>intro _)))
   all_goals first|exact Fin.eq rfl ⟨rfl,rfl,by unfold chk;rw [if_neg hdead,if_pos (by omega)]⟩|exact Fin.eq rfl ⟨rfl,rfl,by unfold chk;rw [if_neg hdead,if_neg (by omega)]⟩
theorem Sep.toSl {sz n cap b:Nat} {es cs:List D} {R:List As} {G:Gh} (h:Sep (ze b cs::R) G) (hr:Row sz n cap es cs):Sep (SlA sz (.gs b 0 n cap) es::R) G:=h.imp fun _ e=>GV.mk e hr
theorem Sep.op0 {d:Dk} {R:List As} {G:Gh} (h:Sep R G):Sep (OpA d []::R) G:=Sep.of_app (l:=[]) h
theorem z6l (n:Nat):rep n (zr 64 (.int .u8 0)++[.bool false])=flat ((List.replicate n zl6).map eC):=by
 rw [zs4,List.map_replicate];rfl
theorem zpa (n:Nat) (i:Int):zdo (zdb n) i=[]:=by
 unfold zdo
 split
 · rfl
 · cases h:(zdb n).cs[i.toNat]? with
   | none=>rfl
   | some c =>
    have:=List.mem_of_getElem? h
    obtain rfl:=(List.mem_replicate.1 this).2
    rfl
theorem z1c (n:Int) (h1:1≤n) (h2:n≤65536):zt Try.prog f_zz62 [.int .i64 n] [] (fun r post=>∃ p,r=.d (.gp p 0)∧post=[zaa p (zdb n.toNat)]):=by
 refine zj fol zz62_cp fun R G σ hs=>?_
 have q1:¬ n<1:=by omega
 have q2:¬ 65536<n:=by omega
 refine goS trivial ?_
 refine goR (nn q1 q2) ?_
 refine zlh ⟨by omega,by omega,by omega⟩ ?_
 refine zat fun cb hcb=>?_
 refine goS trivial ?_
 refine goR trivial ?_
 refine znx fun r hr=>?_
 refine goS trivial ?_
 refine goR trivial ?_
 refine zat fun p hp=>?_
 refine goS trivial ?_
 refine goR trivial ?_
 refine Fin.eq rfl ⟨rfl,_,⟨p,rfl,rfl⟩,?_⟩
 refine za5.close (m:=[]) (cb:=cb) (r:=r) (cap:=n.toNat) ⟨zl7 (by omega) (by omega),⟨fun i=>by rw [zpa];simp [zcy]⟩,?_⟩
 have hl:(zdb n.toNat).cs.length=n.toNat:=by simp [zdb]
 have hrow:Row 65 n.toNat n.toNat ((zdb n.toNat).cs.map eC) (rep n.toNat (zr 64 (.int .u8 0)++[.bool false])):=by
  rw [z6l]
  have:=Row.mk' (sz:=65) (n:=n.toNat) (cap:=n.toNat) (es:=(zdb n.toNat).cs.map eC) (rest:=[]) (by simp [zdb]) (zu9 _) (Nat.le_refl _) (by rw [List.append_nil,zo (zu9 _),List.length_map,hl];exact Nat.le_refl _)
  simpa [zdb] using this
 have h3:=(Sep.new (b:=p) (cs:=[.gs cb 0 n.toNat n.toNat,.mref r,.int .i64 0,.int .i64 (-1),.bool false]) hp (Sep.mapNew (vf:=id) (zta .i64) hr (Sep.toSl (Sep.new hcb (Sep.op0 (d:=zdb n.toNat) hs)) hrow))).cons fun _=>Sep.swap
 rw [hl]
 exact h3
theorem za5.put {p:Nat} {d d':Dk} {R:List As} {G:Gh} {cb r cap:Nat} {m:List (Int×D)} (h:za5 p d R G cb r cap m) (hok:Okd d') (hcs:d'.cs=d.cs) :
 za5 p d' R (G.set p (some [.gs cb 0 d.cs.length cap,.mref r,.int .i64 d'.steps,.int .i64 d'.after,.bool d'.dead])) cb r cap m:=by
 have hop:∀ i,zdo d' i=zdo d i:=fun i=>by unfold zdo;rw [hcs]
 refine ⟨hok,⟨fun i=>by rw [hop];exact h.op.has i⟩,?_⟩
 have e:OpA d' m=OpA d m:=by unfold OpA;simp only [hop]
 rw [hcs,e]
 exact h.sep.set
theorem zko (p:Nat) (d:Dk) (hn:d.steps≤1000000000):zt Try.prog f_zz46 [.gp p 0] [zaa p d] (fun r post=>r=.d (.int .i64 (stp d).2)∧post=[zaa p (stp d).1]):=by
 refine zj fol zz46_cp fun R G σ hs=>?_
 obtain ⟨cb,r,cap,m,hd⟩:=za5.open hs
 have hc:=hd.cell
 have hst:=hd.ok.st
 have haf:=hd.ok.aft
 obtain ⟨hok,_,_,hcs⟩:=zrw hd.ok hn
 refine goS trivial ?_
 (refine goX hc ?_;(repeat' (with_reducible apply Br.mk<;>intro _)))
 · rename_i ha
   have e:stp d=({ d with dead:=true },12):=by unfold stp;rw [if_pos ha]
   rw [e] at hok ⊢
   exact Fin.eq rfl ⟨rfl,_,⟨rfl,rfl⟩,(hd.put hok rfl).close⟩
 · rename_i ha hb
   have e:stp d=({ d with after:=d.after - 1,steps:=d.steps+1 },0):=by unfold stp;rw [if_neg ha,if_pos hb]
   rw [e] at hok ⊢
   exact Fin.eq rfl ⟨rfl,_,⟨rfl,rfl⟩,(hd.put hok rfl).close⟩
 · rename_i ha hb
   have e:stp d=({ d with after:=d.after,steps:=d.steps+1 },0):=by unfold stp;rw [if_neg ha,if_neg hb]
   rw [e] at hok ⊢
   exact Fin.eq rfl ⟨rfl,_,⟨rfl,rfl⟩,(hd.put hok rfl).close⟩
theorem zn7 {α:Type} {l:List α} {i:Nat} (h:i<l.length):l[i]?=some l[i]:=List.getElem?_eq_getElem h
theorem za5.look {p:Nat} {d:Dk} {R:List As} {G:Gh} {cb r cap:Nat} {m:List (Int×D)} (h:za5 p d R G cb r cap m) (i:Int) :
 ∃ x,gdD (.mlook [.i] .nilS false) [.mref r,.int .i64 i] G=some (.d x,G)∧GV 64 G x ((zdo d i).map eS)∧(zcy m i=none→x=.nilS∧zdo d i=[])∧∀ v,zcy m i=some v→x=v:=by
 have hl:=h.map.look .nilS i
 cases hg:zcy m i with
 | none =>
  have h0:zdo d i=[]:=by
   apply Classical.byContradiction
   intro e
   have:=(h.op.has i).2 e
   rw [hg] at this;cases this
  rw [hg] at hl
  exact ⟨_,hl,by rw [h0];exact .nil,fun _=>⟨rfl,h0⟩,fun v e=>by cases e⟩
 | some v =>
  rw [hg] at hl
  refine ⟨_,hl,?_,fun e=>(by cases e),fun w e=>by cases e;rfl⟩
  have hs:Sep (OpA d m::R) G:=h.sep.tail.tail.tail
  have hm:=zs6 hg
  obtain ⟨l1,l2,e⟩:=List.append_of_mem hm
  have hs2:=hs.app
  rw [e,List.map_append,List.map_cons,List.append_assoc] at hs2
  have hs3:=hs2.perm (l':=SlA 64 v ((zdo d i).map eS)::(l1.map (fun q=>SlA 64 q.2 ((zdo d q.1).map eS))++(l2.map (fun q=>SlA 64 q.2 ((zdo d q.1).map eS))++R))) List.perm_middle
  exact hs3.gv
theorem zre {G:Gh} {x:D} {l:List Sec} (h:GV 64 G x (l.map eS)) (hne:l≠[]):∃ b cap cs,x=.gs b 0 l.length cap∧G.c b=some cs∧zba true 64 (some cs) ((l.length - 1) * 64)=some (.d (eS (l.getLast hne))):=by
 obtain ⟨b,cap,cs,e,hb,hr⟩:=h.inv (by simpa using hne)
 rw [List.length_map] at e hr
 have hl:0<l.length:=List.length_pos_iff.2 hne
 have:=hr.idx (i:=l.length - 1) (by rw [List.length_map];omega)
 rw [List.getElem_map] at this
 refine ⟨b,cap,cs,e,hb,?_⟩
 rw [this,List.getLast_eq_getElem];rfl
theorem zwy (p:Nat) (d:Dk) (i:Int):zkg Try.prog f_zz43 [.gp p 0,.int .i64 i] [zaa p d] (·=.tup [eS (rd d i).1,.int .i64 (rd d i).2]):=by
 refine zgq fol zz43_cp fun R G σ hs=>?_
 obtain ⟨cb,r,cap,m,hd⟩:=za5.open hs
 have hc:=hd.cell
 obtain ⟨cells,hcb,hrow⟩:=hd.row
 by_cases hk:chk d i=0
 · obtain ⟨hdead,h0,h1⟩:=zoi hk
   obtain ⟨k,rfl⟩:∃ k:Nat,i=k:=⟨i.toNat,by omega⟩
   have hkl:k<d.cs.length:=by omega
   obtain ⟨c,hcc⟩:∃ c,c=d.cs[k]:=⟨_,rfl⟩
   have hrd:rd d k=zjg c:=by unfold rd;rw [if_neg (by rw [hk];simp),Int.toNat_natCast,zn7 hkl,hcc]
   have hop:zdo d k=c.op:=by rw [zhy hkl,hcc]
   obtain ⟨x,hl,hv,_,_⟩:=hd.look k
   rw [hop] at hv
   refine goS trivial ?_
   have hlen:=hv.len
   rw [List.length_map] at hlen
   by_cases hne:c.op=[]
   · rw [hne] at hlen
     have hrd2:zjg c=if c.bad=true then (z0,14) else (c.s,0):=by unfold zjg;rw [hne];rfl
     have hfl:=hrow.fld (i:=k) (j:=64) (by simpa using hkl) (by omega)
     have hsu:=Row.sub hrow (i:=k) (j:=0) (k:=64) (by simpa using hkl) (by omega)
     rw [List.getElem_map,← hcc] at hfl hsu
     have e1:(eC c).cells[64]?=some (.bool c.bad):=by rw [zhw,List.getElem?_append_right (by simp [zwx]),zac];rfl
     have e2:((eC c).cells.drop 0).take 64=c.s.1.map eB:=by rw [List.drop_zero,zhw,List.take_append_of_le_length (by simp [zwx]),List.take_of_length_le (by simp [zwx])]
     rw [e1] at hfl
     rw [e2,Nat.add_zero] at hsu
     cases hb:c.bad
     all_goals
      rw [hb] at hfl hrd2
      simp only [if_true,Bool.false_eq_true,if_false] at hrd2
      (refine zd5 (nn hk (nn hc (nn hl (nn hlen (nn hcb (nn hfl (nn hsu @Int.toNat_natCast))))))) ((zd8 p d k).q hs) ?_;(repeat' (with_reducible apply Br.mk<;>intro _)))
      (apply Fin.eq;(focus (simp -dsimp (disch:=first|omega|(simp only [go_sem];omega)) only [go_sem,seval,Nat.reduceEqDiff,Nat.reduceLeDiff]<;>rfl)))
      refine ⟨rfl,rfl,?_⟩
      rw [hrd,hrd2];rfl
   · obtain ⟨b,cap',cs,rfl,hb,hla⟩:=zre hv hne
     have hl0:0<c.op.length:=List.length_pos_iff.2 hne
     have hrd2:zjg c=(c.op.getLast hne,0):=by unfold zjg;rw [List.getLast?_eq_some_getLast hne]
     have e3:((c.op.length:Int) - 1).toNat=c.op.length - 1:=by omega
     have hfew:=hd.ok.few c (by rw [hcc];exact List.getElem_mem hkl)
     have hst:=hd.ok.st
     have hgt:(0<(c.op.length:Int))=True:=eq_true (by omega)
     (refine zd5 (nn hk (nn hc (nn hl (nn hb (nn e3 (nn hla hgt)))))) ((zd8 p d k).q hs) ?_;(repeat' (with_reducible apply Br.mk<;>intro _)))
     (apply Fin.eq;(focus (simp -dsimp (disch:=first|omega|(simp only [go_sem];omega)) only [go_sem,seval,Nat.reduceEqDiff,Nat.reduceLeDiff]<;>rfl)))
     refine ⟨rfl,rfl,?_⟩
     rw [hrd,hrd2];rfl
 · have hrd:rd d i=(z0,chk d i):=by unfold rd;rw [if_pos hk]
   refine goS trivial ?_
   (refine zd5 hk ((zd8 p d i).q hs) ?_;(repeat' (with_reducible apply Br.mk<;>intro _)))
   (apply Fin.eq;(focus (simp -dsimp (disch:=first|omega|(simp only [go_sem];omega)) only [go_sem,seval,Nat.reduceEqDiff,Nat.reduceLeDiff]<;>rfl)))
   refine ⟨rfl,rfl,?_⟩
   rw [hrd];rfl
end Go.Proofs.Ytailhmffljoojaa
namespace Go.Proofs.Ytailhmffljoojaa
open Go Go.E2 C22
set_option maxHeartbeats 1000000
section
variable {p:Nat} {d:Dk} {R:List As} {G:Gh} {cb r cap:Nat} {m:List (Int×D)}
theorem OpA.out {i:Int} {v:D} (hm:zcy m i=some v) (h:Sep (OpA d m::R) G):Sep (SlA 64 v ((zdo d i).map eS)::OpA d (mdel m i)::R) G:=by
 have h2:=(h.app).perm (((zqi hm).map fun q:Int×D=>SlA 64 q.2 ((zdo d q.1).map eS)).append_right R)
 exact h2.cons fun _=>Sep.of_app
theorem OpA.into {i:Int} {v:D} (h:Sep (SlA 64 v ((zdo d i).map eS)::OpA d (mdel m i)::R) G):Sep (OpA d (zio m i v)::R) G:=by
 have h2:=(h.cons fun _=>Sep.app).perm (((zqj (m:=m) i v).map fun q:Int×D=>SlA 64 q.2 ((zdo d q.1).map eS)).append_right R).symm
 exact Sep.of_app h2
theorem OpA.same {d':Dk} (h:∀ q∈m,zdo d' q.1=zdo d q.1):OpA d' m=OpA d m:=by
 unfold OpA
 congr 1
 exact List.map_congr_left fun q hq=>by rw [h q hq]
theorem za5.grown (h:za5 p d R G cb r cap m) {i:Int} {x x':D} {es:List Sec} (hx:∀ v,zcy m i=some v→x=v) (hx0:zcy m i=none→x=.nilS∧zdo d i=[])
 {G3:Gh} (ht:GTo x x' G G3) (hv:GV 64 G3 x' (es.map eS)) :
 Sep (SlA 64 x' (es.map eS)::OpA d (mdel m i)::zl9 [.i] eI id r m::ze p [.gs cb 0 d.cs.length cap,.mref r,eI d.steps,eI d.after,.bool d.dead]::SlA 65 (.gs cb 0 d.cs.length cap) (d.cs.map eC)::R) G3:=by
 have h1:Sep (SlA 64 x ((zdo d i).map eS)::OpA d (mdel m i)::zl9 [.i] eI id r m::ze p [.gs cb 0 d.cs.length cap,.mref r,eI d.steps,eI d.after,.bool d.dead]::SlA 65 (.gs cb 0 d.cs.length cap) (d.cs.map eC)::R) G:=by
  have h0:Sep (OpA d m::zl9 [.i] eI id r m::ze p [.gs cb 0 d.cs.length cap,.mref r,eI d.steps,eI d.after,.bool d.dead]::SlA 65 (.gs cb 0 d.cs.length cap) (d.cs.map eC)::R) G:=h.sep.f4.cons fun _=>Sep.f3
  cases hg:zcy m i with
  | some v=>rw [hx v hg];exact OpA.out hg h0
  | none =>
   obtain ⟨e1,e2⟩:=hx0 hg
   rw [e1,e2,zik hg];exact h0.slNil
 exact h1.grow ht hv
theorem za5.regrow (h:za5 p d R G cb r cap m) {d':Dk} (hok:Okd d') (hst:d'.steps=d.steps) (haf:d'.after=d.after) (hde:d'.dead=d.dead) (hcs:d'.cs.map eC=d.cs.map eC) {i:Int} {x':D} {es:List Sec}
 (hop:∀ j,zdo d' j=if j=i then es else zdo d j) (hne:es≠[]) {G3:Gh}
 (h2:Sep (SlA 64 x' (es.map eS)::OpA d (mdel m i)::zl9 [.i] eI id r m::ze p [.gs cb 0 d.cs.length cap,.mref r,eI d.steps,eI d.after,.bool d.dead]::SlA 65 (.gs cb 0 d.cs.length cap) (d.cs.map eC)::R) G3)
 {M:MO} (hm:zdu [.i] eI id (G3.setM r (some M)) r (zio m i x')):za5 p d' R (G3.setM r (some M)) cb r cap (zio m i x'):=by
 have hnd:=h.map.nodup
 have hlen:d'.cs.length=d.cs.length:=by have:=congrArg List.length hcs;simpa using this
 have h3:=(Sep.mapSet h2.f3 hm).b3
 have e1:zdo d' i=es:=by rw [hop,if_pos rfl]
 have e2:OpA d' (mdel m i)=OpA d (mdel m i):=OpA.same fun q hq=>by rw [hop,if_neg ((zkh hnd).1 hq).2]
 rw [← e1,← e2] at h3
 have h4:=OpA.into h3
 refine ⟨hok,⟨fun j=>?_⟩,?_⟩
 · rw [zs5,hop]
   split
   · rename_i e;subst e;simp [hne]
   · exact h.op.has j
 · rw [hlen,hst,haf,hde,hcs]
   exact (h4.f3.cons fun _=>Sep.f3).cons fun _ hh=>hh.cons fun _=>Sep.swap
end
theorem zj0 {α β:Type} {l:List α} {k:Nat} {f:α→α} {g:α→β} (h:∀ x,g (f x)=g x):(l.modify k f).map g=l.map g:=by
 apply List.ext_getElem?
 intro i
 rw [List.getElem?_map,List.getElem?_map,List.getElem?_modify]
 cases l[i]? with
 | none=>rfl
 | some x=>simp only [Option.map_some];split<;>simp [h]
theorem ziy {d d':Dk} {k:Nat} {f:Cel→Cel} (h:d'.cs=d.cs.modify k f) (hk:k<d.cs.length) (j:Int):zdo d' j=if j=k then (f d.cs[k]).op else zdo d j:=by
 unfold zdo
 rw [h,List.getElem?_modify]
 by_cases e:j=k
 · subst e
   rw [if_pos rfl,if_neg (by omega),Int.toNat_natCast,zn7 hk]
   simp
 · rw [if_neg e]
   by_cases hj:j<0
   · rw [if_pos hj,if_pos hj]
   · rw [if_neg hj,if_neg hj]
     have:¬ k=j.toNat:=by omega
     cases d.cs[j.toNat]? <;> simp [this]
theorem zn8 (p:Nat) (d:Dk) (i:Int) (s:Sec) (hn:d.steps≤1000000000):zt Try.prog f_zz33 [.gp p 0,.int .i64 i,eS s] [zaa p d] (fun r post=>r=.d (.int .i64 (wr d i s).2)∧post=[zaa p (wr d i s).1]):=by
 refine zj fol zz33_cp fun R G σ hs=>?_
 by_cases hk:chk d i=0
 · obtain ⟨hdead,h0,h1⟩:=zoi hk
   obtain ⟨k,rfl⟩:∃ k:Nat,i=k:=⟨i.toNat,by omega⟩
   have hkl:k<d.cs.length:=by omega
   obtain ⟨hwok,_⟩:=zt5 (d:=d) (by obtain ⟨_,_,_,_,h⟩:=za5.open hs;exact h.ok) hn k s
   refine goS trivial ?_
   (refine zd5 hk ((zd8 p d k).q hs) ?_;(repeat' (with_reducible apply Br.mk<;>intro _)))
   (refine goM (zko p d hn) (hs) ?_)
   rintro _ _ G2 ⟨rfl,rfl⟩ hs2
   by_cases hst:(stp d).2=0
   · have hw:wr d k s=({ (stp d).1 with cs:=d.cs.modify k fun c=>{ c with op:=c.op++[s] } },0):=by unfold wr;rw [if_neg (by rw [hk];simp),if_neg (by rw [hst];simp),Int.toNat_natCast]
     rw [hw] at hwok ⊢
     obtain ⟨cb,r,cap,m,hd⟩:=za5.open hs2
     have hc:=hd.cell
     obtain ⟨x,hl,hv,hx0,hx⟩:=hd.look k
     have hcs:(stp d).1.cs=d.cs:=by unfold stp;split<;>rfl
     have hfew:=hd.ok.few ((stp d).1.cs[k]'(by rw [hcs];exact hkl)) (List.getElem_mem _)
     have hop:zdo (stp d).1 k=((stp d).1.cs[k]'(by rw [hcs];exact hkl)).op:=zhy (by rw [hcs];exact hkl)
     have hst2:=hd.ok.st
     refine goS hst ?_
     (refine goX (nn hst (nn hc hl)) ?_;(repeat' (with_reducible apply Br.mk<;>intro _)))
     have hkl2:k<(stp d).1.cs.length:=by rw [hcs];exact hkl
     refine zcg (es2:=[eS s]) (m:=1) hv (zcb (es:=[eS s]) (zu8 [s])) rfl (zu8 [s]) (z1b _ _) (by rw [List.length_map,hop,z8];omega) fun x' G3 hv3 hto=>?_
     have h2:=hd.grown (es:=zdo (stp d).1 k++[s]) hx hx0 hto (by rw [List.map_append];exact hv3)
     have hc3:=h2.f4.get
     have hm3:=h2.f3.map
     (refine goX (nn hc hc3) ?_;(repeat' (with_reducible apply Br.mk<;>intro _)))
     refine zmy (emb:=eI) (vf:=id) hm3 k x' fun M hM=>?_
     (refine goX trivial ?_;(repeat' (with_reducible apply Br.mk<;>intro _)))
     refine Fin.eq rfl ⟨rfl,_,⟨rfl,rfl⟩,?_⟩
     refine (hd.regrow hwok rfl rfl rfl ?_ ?_ (by simp) h2 hM).close
     · rw [hcs];exact zj0 fun c=>rfl
     · intro j
       have:=ziy (d:=(stp d).1) (d':={ (stp d).1 with cs:=d.cs.modify k fun c=>{ c with op:=c.op++[s] } }) (k:=k) (f:=fun c=>{ c with op:=c.op++[s] }) (by rw [hcs]) hkl2 j
       rw [this,hop]
   · have hw:wr d k s=stp d:=by unfold wr;rw [if_neg (by rw [hk];simp),if_pos hst]
     rw [hw]
     refine goS hst ?_
     (refine goX hst ?_;(repeat' (with_reducible apply Br.mk<;>intro _)))
     exact Fin.eq rfl ⟨rfl,_,⟨rfl,rfl⟩,hs2⟩
 · have hw:wr d i s=(d,chk d i):=by unfold wr;rw [if_pos hk]
   refine goS trivial ?_
   (refine zd5 hk ((zd8 p d i).q hs) ?_;(repeat' (with_reducible apply Br.mk<;>intro _)))
   exact Fin.eq rfl ⟨rfl,_,⟨by rw [hw],by rw [hw]⟩,hs⟩
end Go.Proofs.Ytailhmffljoojaa
