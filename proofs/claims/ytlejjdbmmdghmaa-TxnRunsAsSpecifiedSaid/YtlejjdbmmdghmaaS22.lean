/-
 Layer 21 (disk): what a disk is and does,as plain mathematics: of no program.
 Conditions: of each law as it says.
-/
import Init
import Derived.Test.YtlejjdbmmdghmaaT40
import Derived.Test.YtlejjdbmmdghmaaEN13
set_option linter.unusedSimpArgs false
namespace C22
abbrev Str:=List UInt8
abbrev Sec:={l:List UInt8 // l.length=64}
def z0:Sec:=⟨List.replicate 64 0,by simp⟩
structure Cel where
 s:Sec
 bad:Bool
 op:List Sec
 deriving DecidableEq
structure Dk where
 cs:List Cel
 steps:Int
 after:Int
 dead:Bool
 deriving DecidableEq
def zon:Cel:=⟨z0,false,[]⟩
def fresh (n:Nat):Dk:=⟨List.replicate n zon,0,-1,false⟩
structure Okd (d:Dk):Prop where
 pos:1≤d.cs.length
 most:d.cs.length≤65536
 rot:∀ c∈d.cs,c.bad=true→c.s=z0
 st:0≤d.steps∧d.steps≤2000000000
 few:∀ c∈d.cs,(c.op.length:Int)≤d.steps
 aft:-1≤d.after∧d.after≤9223372036854775807
def zd6 (d:Dk) (i:Int):List Sec:=if i<0 then [] else ((d.cs[i.toNat]?).map (·.op)).getD []
def chk (d:Dk) (i:Int):Int:=if d.dead=true then 12 else if i<0∨(d.cs.length:Int)≤i then 1 else 0
def zoo (c:Cel):Sec×Int:=match c.op.getLast? with|some s=>(s,0)|none=>if c.bad=true then (z0,14) else (c.s,0)
def rd (d:Dk) (i:Int):Sec×Int:=if chk d i≠0 then (z0,chk d i) else match d.cs[i.toNat]? with|some c=>zoo c|none=>(z0,0)
def stp (d:Dk):Dk×Int:=if d.after=0 then ({ d with dead:=true },12) else ({ d with after:=if 0<d.after then d.after - 1 else d.after,steps:=d.steps+1 },0)
def wr (d:Dk) (i:Int) (s:Sec):Dk×Int :=
 if chk d i≠0 then (d,chk d i) else
 if (stp d).2≠0 then stp d else
 ({ (stp d).1 with cs:=d.cs.modify i.toNat fun c=>{ c with op:=c.op++[s] } },0)
def syC (c:Cel):Cel:=match c.op.getLast? with|some s=>⟨s,false,[]⟩|none=>c
def sy (d:Dk):Dk×Int :=
 if d.dead=true then (d,12) else
 if (stp d).2≠0 then stp d else
 ({ (stp d).1 with cs:=d.cs.map syC },0)
def torn (before out:Sec):Sec:=⟨out.1.take 32++before.1.drop 32,by simp [out.2,before.2]⟩
def zyr (n:Nat) (x:Int):Int:=(x.tmod (n+3)+n+3).tmod (n+3)
def kept (c:Cel) (x:Int):Cel :=
 if zyr c.op.length x=0 then ⟨c.s,c.bad,[]⟩ else
 if zyr c.op.length x≤c.op.length then ⟨(c.op[(zyr c.op.length x).toNat - 1]?).getD z0,false,[]⟩ else
 if zyr c.op.length x=c.op.length+1 then ⟨z0,true,[]⟩ else
 ⟨torn (if 1<c.op.length then (c.op[c.op.length - 2]?).getD z0 else c.s) ((c.op[c.op.length - 1]?).getD z0),false,[]⟩
def rot (d:Dk) (i:Int):Dk×Int :=
 if chk d i≠0 then (d,chk d i) else
 ({ d with cs:=d.cs.modify i.toNat fun c=>{ c with s:=z0,bad:=true } },0)
theorem zop {n:Nat} (h1:1≤n) (h2:n≤65536):Okd (fresh n):=by
 refine ⟨by simpa [fresh] using h1,by simpa [fresh] using h2,fun c hc=>?_,by simp [fresh],fun c hc=>?_,by simp [fresh]⟩
 · obtain rfl:=(List.mem_replicate.1 hc).2;simp [zon]
 · obtain rfl:=(List.mem_replicate.1 hc).2;simp [zon,fresh]
theorem zed {α:Type} {l:List α} {k:Nat} {f:α→α} {x:α} (h:x∈l.modify k f):x∈l∨∃ y∈l,x=f y:=by
 obtain ⟨i,hi,rfl⟩:=List.getElem_of_mem h
 rw [List.length_modify] at hi
 rw [List.getElem_modify]
 split
 · exact .inr ⟨_,List.getElem_mem hi,rfl⟩
 · exact .inl (List.getElem_mem hi)
theorem zru {d:Dk} {i:Int} (h:chk d i=0):d.dead=false∧0≤i∧i<d.cs.length:=by
 unfold chk at h
 split at h
 · cases h
 · split at h
   · cases h
   · rename_i h1 h2;exact ⟨by simpa using h1,by omega,by omega⟩
theorem zv3 {d:Dk} (h:Okd d) (hn:d.steps≤1000000000):Okd (stp d).1∧(stp d).1.steps≤d.steps+1∧d.steps≤(stp d).1.steps∧(stp d).1.cs=d.cs:=by
 unfold stp
 split
 · exact ⟨⟨h.pos,h.most,h.rot,h.st,h.few,h.aft⟩,by simp;omega,by simp,rfl⟩
 · refine ⟨⟨h.pos,h.most,h.rot,by have:=h.st;simp;omega,fun c hc=>by have:=h.few c hc;simp;omega,?_⟩,by simp,by simp;omega,rfl⟩
   have:=h.aft
   simp only
   split<;>omega
theorem zys {d:Dk} (h:Okd d) (hn:d.steps≤1000000000) (i:Int) (s:Sec):Okd (wr d i s).1∧(wr d i s).1.steps≤d.steps+1:=by
 unfold wr
 obtain ⟨h1,h2,h3,h4⟩:=zv3 h hn
 split
 · exact ⟨h,by simp;omega⟩
 · split
   · exact ⟨h1,h2⟩
   · rename_i hs
     have hst:(stp d).1.steps=d.steps+1:=by
      revert hs;unfold stp;split
      · simp
      · simp
     refine ⟨⟨by simpa using h.pos,by simpa using h.most,fun c hc=>?_,h1.st,fun c hc=>?_,h1.aft⟩,h2⟩
     · rcases zed hc with hc|⟨y,hy,rfl⟩
       · exact h.rot c hc
       · exact h.rot y hy
     · simp only [hst]
       rcases zed hc with hc|⟨y,hy,rfl⟩
       · have:=h.few c hc;omega
       · have:=h.few y hy;simp;omega
theorem zyt {d:Dk} (h:Okd d) (hn:d.steps≤1000000000):Okd (sy d).1∧(sy d).1.steps≤d.steps+1:=by
 unfold sy
 obtain ⟨h1,h2,h3,h4⟩:=zv3 h hn
 split
 · exact ⟨h,by simp;omega⟩
 · split
   · exact ⟨h1,h2⟩
   · refine ⟨⟨by simpa using h.pos,by simpa using h.most,fun c hc=>?_,h1.st,fun c hc=>?_,h1.aft⟩,h2⟩
     · obtain ⟨y,hy,rfl⟩:=List.mem_map.1 hc
       unfold syC;split
       · simp
       · exact h.rot y hy
     · obtain ⟨y,hy,rfl⟩:=List.mem_map.1 hc
       have:=h.few y hy
       have:=h1.st
       unfold syC;split
       · simpa using h1.st.1
       · rename_i hn
         rw [List.getLast?_eq_none_iff] at hn
         simp only [hn,List.length_nil]
         exact h1.st.1
theorem zja {d:Dk} {i:Nat} (h:i<d.cs.length):zd6 d i=d.cs[i].op:=by
 unfold zd6
 rw [if_neg (by omega)]
 simp [h]
theorem zyu {d:Dk} {i:Int} (h:i<0∨(d.cs.length:Int)≤i):zd6 d i=[]:=by
 unfold zd6
 split
 · rfl
 · rw [List.getElem?_eq_none (by omega)];rfl
theorem zv4 {d:Dk} {i:Int} (h:zd6 d i≠[]):0≤i∧i<d.cs.length:=by
 apply Classical.byContradiction
 intro hn
 exact h (zyu (by omega))
end C22
namespace Go.Proofs.Ytlejjdbmmdghmaa
open Go Go.E2 C22
set_option maxHeartbeats 1000000
def eS (s:Sec):D:=.agg (s.1.map eB)
def eC (c:Cel):D:=.agg (c.s.1.map eB++[.bool c.bad])
abbrev eI (n:Int):D:=.int .i64 n
theorem zyv (s:Sec):(eS s).cells=s.1.map eB:=rfl
theorem zjb (c:Cel):(eC c).cells=c.s.1.map eB++[.bool c.bad]:=rfl
theorem zlw (l:List UInt8):(l.map eB).all D.one=true:=by simp [List.all_map,Function.comp_def,eB,D.one]
theorem zaj (s:Sec):(s.1.map eB).length=64:=by rw [List.length_map,s.2]
@[go_sem] theorem z1r (s:Sec):zb 64 (eS s)=true:=by simp only [zb,zyv,zaj,zlw];rfl
@[go_sem] theorem zv5 (c:Cel):zb 65 (eC c)=true:=by simp only [zb,zjb,List.length_append,zaj,List.all_append,zlw];rfl
@[go_sem] theorem zzt (l:List Sec):(l.map eS).all (zb 64)=true:=by rw [List.all_eq_true];intro x hx;obtain ⟨s,_,rfl⟩:=List.mem_map.1 hx;exact z1r s
@[go_sem] theorem zzu (l:List Cel):(l.map eC).all (zb 65)=true:=by rw [List.all_eq_true];intro x hx;obtain ⟨s,_,rfl⟩:=List.mem_map.1 hx;exact zv5 s
theorem zr_z0:zr 64 (.int .u8 0)=z0.1.map eB:=rfl
@[go_sem] theorem zr_one (n:Nat) (k:IntKind) (v:Int):(zr n (.int k v)).all D.one=true:=by simp [zr,D.one]
@[go_sem] theorem z5s (n:Nat) (x:D):(zr n x).length=n:=by simp [zr]
@[go_sem] theorem eBs_one (l:List UInt8):(l.map eB).all D.one=true:=zlw l
@[go_sem] theorem zr_drop (n k:Nat) (x:D):(zr n x).drop k=zr (n - k) x:=by simp [zr]
@[go_sem] theorem zr_take (n k:Nat) (x:D):(zr n x).take k=zr (min k n) x:=by simp [zr]
@[go_sem] theorem zr_0 (x:D):zr 0 x=[]:=rfl
@[go_sem] theorem z1s (s:Sec):s.1.length=64:=s.2
@[go_sem] theorem s_drop (s:Sec) (n:Nat) (h:64≤n):(s.1.map eB).drop n=[]:=List.drop_of_length_le (by rw [zaj];exact h)
@[go_sem] theorem s_take (s:Sec) (n:Nat) (h:64≤n):(s.1.map eB).take n=s.1.map eB:=List.take_of_length_le (by rw [zaj];exact h)
attribute [go_sem] eS eC
attribute [go_sem] List.append_nil List.nil_append List.take_zero List.drop_zero
attribute [go_sem] List.all_append List.all_cons List.all_nil Bool.and_true List.length_append
def OpA (d:Dk) (m:List (Int×D)):As:=zz5 (m.map fun q=>SlA 64 q.2 ((zd6 d q.1).map eS))
structure OpOk (d:Dk) (m:List (Int×D)):Prop where
 has:∀ i,(zbo m i).isSome=true↔zd6 d i≠[]
def zp (p:Nat) (d:Dk):As:=fun G=>Okd d∧∃ cb r cap m,OpOk d m ∧
 zz5 [ze p [.gs cb 0 d.cs.length cap,.mref r,eI d.steps,eI d.after,.bool d.dead],SlA 65 (.gs cb 0 d.cs.length cap) (d.cs.map eC),zo2 [.i] eI id r m,OpA d m] G
structure zbi (p:Nat) (d:Dk) (R:List As) (G:Gh) (cb r cap:Nat) (m:List (Int×D)):Prop where
 ok:Okd d
 op:OpOk d m
 sep:Sep (ze p [.gs cb 0 d.cs.length cap,.mref r,eI d.steps,eI d.after,.bool d.dead]::SlA 65 (.gs cb 0 d.cs.length cap) (d.cs.map eC)::zo2 [.i] eI id r m::OpA d m::R) G
theorem zbi.open {p:Nat} {d:Dk} {R:List As} {G:Gh} (h:Sep (zp p d::R) G):∃ cb r cap m,zbi p d R G cb r cap m:=by
 obtain ⟨h1,h2⟩:=h.pure
 obtain ⟨cb,h2⟩:=h2.ex
 obtain ⟨r,h2⟩:=h2.ex
 obtain ⟨cap,h2⟩:=h2.ex
 obtain ⟨m,h2⟩:=h2.ex
 obtain ⟨h3,h2⟩:=h2.pure
 exact ⟨cb,r,cap,m,h1,h3,h2.app⟩
theorem zbi.close {p:Nat} {d:Dk} {R:List As} {G:Gh} {cb r cap:Nat} {m:List (Int×D)} (h:zbi p d R G cb r cap m):Sep (zp p d::R) G:=by
 have:=Sep.of_app (l:=[ze p [.gs cb 0 d.cs.length cap,.mref r,eI d.steps,eI d.after,.bool d.dead],SlA 65 (.gs cb 0 d.cs.length cap) (d.cs.map eC),zo2 [.i] eI id r m,OpA d m]) h.sep
 exact this.imp fun G hG=>⟨h.ok,cb,r,cap,m,h.op,hG⟩
section
variable {p:Nat} {d:Dk} {R:List As} {G:Gh} {cb r cap:Nat} {m:List (Int×D)}
theorem zbi.cell (h:zbi p d R G cb r cap m):G.c p=some [.gs cb 0 d.cs.length cap,.mref r,.int .i64 d.steps,.int .i64 d.after,.bool d.dead]:=h.sep.get
theorem zbi.row (h:zbi p d R G cb r cap m):∃ cs,G.c cb=some cs∧Row 65 d.cs.length cap (d.cs.map eC) cs:=by
 have:=h.sep.tail.gv
 obtain ⟨b,cap',cs,e,h1,h2⟩:=this.inv (by have:=h.ok.pos;intro e;rw [List.map_eq_nil_iff] at e;rw [e] at this;simp at this)
 simp only [D.gs.injEq,List.length_map] at e
 obtain ⟨rfl,_,_,rfl⟩:=e
 exact ⟨cs,h1,by simpa using h2⟩
theorem zbi.map (h:zbi p d R G cb r cap m):zhz [.i] eI id G r m:=h.sep.tail.tail.map
end
theorem Row.sub {sz n cap:Nat} {es cs:List D} (h:Row sz n cap es cs) {i j k:Nat} (hi:i<es.length) (hj:j+k≤sz):zbg true k (some cs) (i * sz+j)=some (.d (.agg ((es[i].cells.drop j).take k))):=by
 have hg:=h.get hi
 have hf:=h.fits hi
 have hl:es[i].cells.length=sz:=by rw [← hg,List.length_take,List.length_drop];omega
 simp only [zbg,zcj,if_true]
 rw [if_pos (by rw [List.length_drop];omega),← hg,Option.map_some]
 rw [List.drop_take,List.drop_drop,List.take_take,Nat.min_eq_left (by omega)]
theorem zid (p:Nat) (d:Dk):zso Try.prog f_zz48 [.gp p 0] [zp p d] (·=.d (.int .i64 d.cs.length)):=by
 refine zhu fol zz48_cp fun R G σ hs=>?_
 obtain ⟨cb,r,cap,m,hd⟩:=zbi.open hs
 have hc:=hd.cell
 refine goS trivial ?_
 refine goR hc ?_
 exact Fin.eq rfl ⟨rfl,rfl,rfl⟩
theorem zeu (p:Nat) (d:Dk) (i:Int):zso Try.prog f_zz37 [.gp p 0,.int .i64 i] [zp p d] (·=.d (.int .i64 (chk d i))):=by
 refine zhu fol zz37_cp fun R G σ hs=>?_
 obtain ⟨cb,r,cap,m,hd⟩:=zbi.open hs
 have hc:=hd.cell
 by_cases hdead:d.dead=true
 · refine goS trivial ?_
   (refine goX (nn hc hdead) ?_;(repeat' (with_reducible apply Br.mk<;>intro _)))
   all_goals exact Fin.eq rfl ⟨rfl,rfl,by unfold chk;rw [if_pos hdead]⟩
 · have hdead':d.dead=false:=by simpa using hdead
   refine goS trivial ?_
   (refine goX (nn hc hdead') ?_;(repeat' (with_reducible apply Br.mk<;>intro _)))
   all_goals first|exact Fin.eq rfl ⟨rfl,rfl,by unfold chk;rw [if_neg hdead,if_pos (by omega)]⟩|exact Fin.eq rfl ⟨rfl,rfl,by unfold chk;rw [if_neg hdead,if_neg (by omega)]⟩
theorem Sep.toSl {sz n cap b:Nat} {es cs:List D} {R:List As} {G:Gh} (h:Sep (ze b cs::R) G) (hr:Row sz n cap es cs):Sep (SlA sz (.gs b 0 n cap) es::R) G:=h.imp fun _ e=>GV.mk e hr
theorem Sep.op0 {d:Dk} {R:List As} {G:Gh} (h:Sep R G):Sep (OpA d []::R) G:=Sep.of_app (l:=[]) h
theorem zr_d0 (n:Nat):rep n (zr 64 (.int .u8 0)++[.bool false])=zag ((List.replicate n zon).map eC):=by
 rw [zqz,List.map_replicate];rfl
theorem zte (n:Nat) (i:Int):zd6 (fresh n) i=[]:=by
 unfold zd6
 split
 · rfl
 · cases h:(fresh n).cs[i.toNat]? with
   | none=>rfl
   | some c =>
    have:=List.mem_of_getElem? h
    obtain rfl:=(List.mem_replicate.1 this).2
    rfl
theorem zv6 (n:Int) (h1:1≤n) (h2:n≤65536):zy Try.prog f_zz69 [.int .i64 n] [] (fun r post=>∃ p,r=.d (.gp p 0)∧post=[zp p (fresh n.toNat)]):=by
 refine zg fol zz69_cp fun R G σ hs=>?_
 have q1:¬ n<1:=by omega
 have q2:¬ 65536<n:=by omega
 refine goS trivial ?_
 refine goR (nn q1 q2) ?_
 refine z8t ⟨by omega,by omega,by omega⟩ ?_
 refine zam fun cb hcb=>?_
 refine goS trivial ?_
 refine goR trivial ?_
 refine zq0 fun r hr=>?_
 refine goS trivial ?_
 refine goR trivial ?_
 refine zam fun p hp=>?_
 refine goS trivial ?_
 refine goR trivial ?_
 refine Fin.eq rfl ⟨rfl,_,⟨p,rfl,rfl⟩,?_⟩
 refine zbi.close (m:=[]) (cb:=cb) (r:=r) (cap:=n.toNat) ⟨zop (by omega) (by omega),⟨fun i=>by rw [zte];simp [zbo]⟩,?_⟩
 have hl:(fresh n.toNat).cs.length=n.toNat:=by simp [fresh]
 have hrow:Row 65 n.toNat n.toNat ((fresh n.toNat).cs.map eC) (rep n.toNat (zr 64 (.int .u8 0)++[.bool false])):=by
  rw [zr_d0]
  have:=Row.mk' (sz:=65) (n:=n.toNat) (cap:=n.toNat) (es:=(fresh n.toNat).cs.map eC) (rest:=[]) (by simp [fresh]) (zzu _) (Nat.le_refl _) (by rw [List.append_nil,zw (zzu _),List.length_map,hl];exact Nat.le_refl _)
  simpa [fresh] using this
 have h3:=(Sep.new (b:=p) (cs:=[.gs cb 0 n.toNat n.toNat,.mref r,.int .i64 0,.int .i64 (-1),.bool false]) hp (Sep.mapNew (vf:=id) (zq1 .i64) hr (Sep.toSl (Sep.new hcb (Sep.op0 (d:=fresh n.toNat) hs)) hrow))).cons fun _=>Sep.swap
 rw [hl]
 exact h3
theorem zbi.put {p:Nat} {d d':Dk} {R:List As} {G:Gh} {cb r cap:Nat} {m:List (Int×D)} (h:zbi p d R G cb r cap m) (hok:Okd d') (hcs:d'.cs=d.cs) :
 zbi p d' R (G.set p (some [.gs cb 0 d.cs.length cap,.mref r,.int .i64 d'.steps,.int .i64 d'.after,.bool d'.dead])) cb r cap m:=by
 have hop:∀ i,zd6 d' i=zd6 d i:=fun i=>by unfold zd6;rw [hcs]
 refine ⟨hok,⟨fun i=>by rw [hop];exact h.op.has i⟩,?_⟩
 have e:OpA d' m=OpA d m:=by unfold OpA;simp only [hop]
 rw [hcs,e]
 exact h.sep.set
theorem zmg (p:Nat) (d:Dk) (hn:d.steps≤1000000000):zy Try.prog f_zz50 [.gp p 0] [zp p d] (fun r post=>r=.d (.int .i64 (stp d).2)∧post=[zp p (stp d).1]):=by
 refine zg fol zz50_cp fun R G σ hs=>?_
 obtain ⟨cb,r,cap,m,hd⟩:=zbi.open hs
 have hc:=hd.cell
 have hst:=hd.ok.st
 have haf:=hd.ok.aft
 obtain ⟨hok,_,_,hcs⟩:=zv3 hd.ok hn
 refine goS trivial ?_
 (refine goX hc ?_;(repeat' (with_reducible apply Br.mk<;>intro _)))
 · rename_i ha
   have e:stp d=({ d with dead:=true },12):=by unfold stp;rw [if_pos ha]
   rw [e] at hok ⊢
   exact Fin.eq rfl ⟨rfl,_,⟨rfl,rfl⟩,(hd.put hok rfl).close⟩
 · rename_i ha hb
   have e:stp d=({ d with after:=d.after - 1,steps:=d.steps+1 },0):=by unfold stp;rw [if_neg ha,if_pos hb]
   rw [e] at hok ⊢
   exact Fin.eq rfl ⟨rfl,_,⟨rfl,rfl⟩,(hd.put hok rfl).close⟩
 · rename_i ha hb
   have e:stp d=({ d with after:=d.after,steps:=d.steps+1 },0):=by unfold stp;rw [if_neg ha,if_neg hb]
   rw [e] at hok ⊢
   exact Fin.eq rfl ⟨rfl,_,⟨rfl,rfl⟩,(hd.put hok rfl).close⟩
theorem zrv {α:Type} {l:List α} {i:Nat} (h:i<l.length):l[i]?=some l[i]:=List.getElem?_eq_getElem h
theorem zbi.look {p:Nat} {d:Dk} {R:List As} {G:Gh} {cb r cap:Nat} {m:List (Int×D)} (h:zbi p d R G cb r cap m) (i:Int) :
 ∃ x,gdD (.mlook [.i] .nilS false) [.mref r,.int .i64 i] G=some (.d x,G)∧GV 64 G x ((zd6 d i).map eS)∧(zbo m i=none→x=.nilS∧zd6 d i=[])∧∀ v,zbo m i=some v→x=v:=by
 have hl:=h.map.look .nilS i
 cases hg:zbo m i with
 | none =>
  have h0:zd6 d i=[]:=by
   apply Classical.byContradiction
   intro e
   have:=(h.op.has i).2 e
   rw [hg] at this;cases this
  rw [hg] at hl
  exact ⟨_,hl,by rw [h0];exact .nil,fun _=>⟨rfl,h0⟩,fun v e=>by cases e⟩
 | some v =>
  rw [hg] at hl
  refine ⟨_,hl,?_,fun e=>(by cases e),fun w e=>by cases e;rfl⟩
  have hs:Sep (OpA d m::R) G:=h.sep.tail.tail.tail
  have hm:=zi3 hg
  obtain ⟨l1,l2,e⟩:=List.append_of_mem hm
  have hs2:=hs.app
  rw [e,List.map_append,List.map_cons,List.append_assoc] at hs2
  have hs3:=hs2.perm (l':=SlA 64 v ((zd6 d i).map eS)::(l1.map (fun q=>SlA 64 q.2 ((zd6 d q.1).map eS))++(l2.map (fun q=>SlA 64 q.2 ((zd6 d q.1).map eS))++R))) List.perm_middle
  exact hs3.gv
theorem zv7 {G:Gh} {x:D} {l:List Sec} (h:GV 64 G x (l.map eS)) (hne:l≠[]):∃ b cap cs,x=.gs b 0 l.length cap∧G.c b=some cs∧zbg true 64 (some cs) ((l.length - 1) * 64)=some (.d (eS (l.getLast hne))):=by
 obtain ⟨b,cap,cs,e,hb,hr⟩:=h.inv (by simpa using hne)
 rw [List.length_map] at e hr
 have hl:0<l.length:=List.length_pos_iff.2 hne
 have:=hr.idx (i:=l.length - 1) (by rw [List.length_map];omega)
 rw [List.getElem_map] at this
 refine ⟨b,cap,cs,e,hb,?_⟩
 rw [this,List.getLast_eq_getElem];rfl
theorem z1t (p:Nat) (d:Dk) (i:Int):zso Try.prog f_zz47 [.gp p 0,.int .i64 i] [zp p d] (·=.tup [eS (rd d i).1,.int .i64 (rd d i).2]):=by
 refine zhu fol zz47_cp fun R G σ hs=>?_
 obtain ⟨cb,r,cap,m,hd⟩:=zbi.open hs
 have hc:=hd.cell
 obtain ⟨cells,hcb,hrow⟩:=hd.row
 by_cases hk:chk d i=0
 · obtain ⟨hdead,h0,h1⟩:=zru hk
   obtain ⟨k,rfl⟩:∃ k:Nat,i=k:=⟨i.toNat,by omega⟩
   have hkl:k<d.cs.length:=by omega
   obtain ⟨c,hcc⟩:∃ c,c=d.cs[k]:=⟨_,rfl⟩
   have hrd:rd d k=zoo c:=by unfold rd;rw [if_neg (by rw [hk];simp),Int.toNat_natCast,zrv hkl,hcc]
   have hop:zd6 d k=c.op:=by rw [zja hkl,hcc]
   obtain ⟨x,hl,hv,_,_⟩:=hd.look k
   rw [hop] at hv
   refine goS trivial ?_
   have hlen:=hv.len
   rw [List.length_map] at hlen
   by_cases hne:c.op=[]
   · rw [hne] at hlen
     have hrd2:zoo c=if c.bad=true then (z0,14) else (c.s,0):=by unfold zoo;rw [hne];rfl
     have hfl:=hrow.fld (i:=k) (j:=64) (by simpa using hkl) (by omega)
     have hsu:=Row.sub hrow (i:=k) (j:=0) (k:=64) (by simpa using hkl) (by omega)
     rw [List.getElem_map,← hcc] at hfl hsu
     have e1:(eC c).cells[64]?=some (.bool c.bad):=by rw [zjb,List.getElem?_append_right (by simp [z1s]),zaj];rfl
     have e2:((eC c).cells.drop 0).take 64=c.s.1.map eB:=by rw [List.drop_zero,zjb,List.take_append_of_le_length (by simp [z1s]),List.take_of_length_le (by simp [z1s])]
     rw [e1] at hfl
     rw [e2,Nat.add_zero] at hsu
     cases hb:c.bad
     all_goals
      rw [hb] at hfl hrd2
      simp only [if_true,Bool.false_eq_true,if_false] at hrd2
      (refine zb1 (nn hk (nn hc (nn hl (nn hlen (nn hcb (nn hfl (nn hsu @Int.toNat_natCast))))))) ((zeu p d k).q hs) ?_;(repeat' (with_reducible apply Br.mk<;>intro _)))
      (apply Fin.eq;(focus (simp -dsimp (disch:=first|omega|(simp only [go_sem];omega)) only [go_sem,seval,Nat.reduceEqDiff,Nat.reduceLeDiff]<;>rfl)))
      refine ⟨rfl,rfl,?_⟩
      rw [hrd,hrd2];rfl
   · obtain ⟨b,cap',cs,rfl,hb,hla⟩:=zv7 hv hne
     have hl0:0<c.op.length:=List.length_pos_iff.2 hne
     have hrd2:zoo c=(c.op.getLast hne,0):=by unfold zoo;rw [List.getLast?_eq_some_getLast hne]
     have e3:((c.op.length:Int) - 1).toNat=c.op.length - 1:=by omega
     have hfew:=hd.ok.few c (by rw [hcc];exact List.getElem_mem hkl)
     have hst:=hd.ok.st
     have hgt:(0<(c.op.length:Int))=True:=eq_true (by omega)
     (refine zb1 (nn hk (nn hc (nn hl (nn hb (nn e3 (nn hla hgt)))))) ((zeu p d k).q hs) ?_;(repeat' (with_reducible apply Br.mk<;>intro _)))
     (apply Fin.eq;(focus (simp -dsimp (disch:=first|omega|(simp only [go_sem];omega)) only [go_sem,seval,Nat.reduceEqDiff,Nat.reduceLeDiff]<;>rfl)))
     refine ⟨rfl,rfl,?_⟩
     rw [hrd,hrd2];rfl
 · have hrd:rd d i=(z0,chk d i):=by unfold rd;rw [if_pos hk]
   refine goS trivial ?_
   (refine zb1 hk ((zeu p d i).q hs) ?_;(repeat' (with_reducible apply Br.mk<;>intro _)))
   (apply Fin.eq;(focus (simp -dsimp (disch:=first|omega|(simp only [go_sem];omega)) only [go_sem,seval,Nat.reduceEqDiff,Nat.reduceLeDiff]<;>rfl)))
   refine ⟨rfl,rfl,?_⟩
   rw [hrd];rfl
end Go.Proofs.Ytlejjdbmmdghmaa
namespace Go.Proofs.Ytlejjdbmmdghmaa
open Go Go.E2 C22
set_option maxHeartbeats 1000000
section
variable {p:Nat} {d:Dk} {R:List As} {G:Gh} {cb r cap:Nat} {m:List (Int×D)}
theorem OpA.out {i:Int} {v:D} (hm:zbo m i=some v) (h:Sep (OpA d m::R) G):Sep (SlA 64 v ((zd6 d i).map eS)::OpA d (mdel m i)::R) G:=by
 have h2:=(h.app).perm (((znp hm).map fun q:Int×D=>SlA 64 q.2 ((zd6 d q.1).map eS)).append_right R)
 exact h2.cons fun _=>Sep.of_app
theorem OpA.into {i:Int} {v:D} (h:Sep (SlA 64 v ((zd6 d i).map eS)::OpA d (mdel m i)::R) G):Sep (OpA d (zjz m i v)::R) G:=by
 have h2:=(h.cons fun _=>Sep.app).perm (((zjt (m:=m) i v).map fun q:Int×D=>SlA 64 q.2 ((zd6 d q.1).map eS)).append_right R).symm
 exact Sep.of_app h2
theorem OpA.same {d':Dk} (h:∀ q∈m,zd6 d' q.1=zd6 d q.1):OpA d' m=OpA d m:=by
 unfold OpA
 congr 1
 exact List.map_congr_left fun q hq=>by rw [h q hq]
theorem zbi.grown (h:zbi p d R G cb r cap m) {i:Int} {x x':D} {es:List Sec} (hx:∀ v,zbo m i=some v→x=v) (hx0:zbo m i=none→x=.nilS∧zd6 d i=[])
 {G3:Gh} (ht:GTo x x' G G3) (hv:GV 64 G3 x' (es.map eS)) :
 Sep (SlA 64 x' (es.map eS)::OpA d (mdel m i)::zo2 [.i] eI id r m::ze p [.gs cb 0 d.cs.length cap,.mref r,eI d.steps,eI d.after,.bool d.dead]::SlA 65 (.gs cb 0 d.cs.length cap) (d.cs.map eC)::R) G3:=by
 have h1:Sep (SlA 64 x ((zd6 d i).map eS)::OpA d (mdel m i)::zo2 [.i] eI id r m::ze p [.gs cb 0 d.cs.length cap,.mref r,eI d.steps,eI d.after,.bool d.dead]::SlA 65 (.gs cb 0 d.cs.length cap) (d.cs.map eC)::R) G:=by
  have h0:Sep (OpA d m::zo2 [.i] eI id r m::ze p [.gs cb 0 d.cs.length cap,.mref r,eI d.steps,eI d.after,.bool d.dead]::SlA 65 (.gs cb 0 d.cs.length cap) (d.cs.map eC)::R) G:=h.sep.f4.cons fun _=>Sep.f3
  cases hg:zbo m i with
  | some v=>rw [hx v hg];exact OpA.out hg h0
  | none =>
   obtain ⟨e1,e2⟩:=hx0 hg
   rw [e1,e2,ze7 hg];exact h0.slNil
 exact h1.grow ht hv
theorem zbi.regrow (h:zbi p d R G cb r cap m) {d':Dk} (hok:Okd d') (hst:d'.steps=d.steps) (haf:d'.after=d.after) (hde:d'.dead=d.dead) (hcs:d'.cs.map eC=d.cs.map eC) {i:Int} {x':D} {es:List Sec}
 (hop:∀ j,zd6 d' j=if j=i then es else zd6 d j) (hne:es≠[]) {G3:Gh}
 (h2:Sep (SlA 64 x' (es.map eS)::OpA d (mdel m i)::zo2 [.i] eI id r m::ze p [.gs cb 0 d.cs.length cap,.mref r,eI d.steps,eI d.after,.bool d.dead]::SlA 65 (.gs cb 0 d.cs.length cap) (d.cs.map eC)::R) G3)
 {M:MO} (hm:zhz [.i] eI id (G3.setM r (some M)) r (zjz m i x')):zbi p d' R (G3.setM r (some M)) cb r cap (zjz m i x'):=by
 have hnd:=h.map.nodup
 have hlen:d'.cs.length=d.cs.length:=by have:=congrArg List.length hcs;simpa using this
 have h3:=(Sep.mapSet h2.f3 hm).b3
 have e1:zd6 d' i=es:=by rw [hop,if_pos rfl]
 have e2:OpA d' (mdel m i)=OpA d (mdel m i):=OpA.same fun q hq=>by rw [hop,if_neg ((zi2 hnd).1 hq).2]
 rw [← e1,← e2] at h3
 have h4:=OpA.into h3
 refine ⟨hok,⟨fun j=>?_⟩,?_⟩
 · rw [zxt,hop]
   split
   · rename_i e;subst e;simp [hne]
   · exact h.op.has j
 · rw [hlen,hst,haf,hde,hcs]
   exact (h4.f3.cons fun _=>Sep.f3).cons fun _ hh=>hh.cons fun _=>Sep.swap
end
theorem zlx {α β:Type} {l:List α} {k:Nat} {f:α→α} {g:α→β} (h:∀ x,g (f x)=g x):(l.modify k f).map g=l.map g:=by
 apply List.ext_getElem?
 intro i
 rw [List.getElem?_map,List.getElem?_map,List.getElem?_modify]
 cases l[i]? with
 | none=>rfl
 | some x=>simp only [Option.map_some];split<;>simp [h]
theorem zkn {d d':Dk} {k:Nat} {f:Cel→Cel} (h:d'.cs=d.cs.modify k f) (hk:k<d.cs.length) (j:Int):zd6 d' j=if j=k then (f d.cs[k]).op else zd6 d j:=by
 unfold zd6
 rw [h,List.getElem?_modify]
 by_cases e:j=k
 · subst e
   rw [if_pos rfl,if_neg (by omega),Int.toNat_natCast,zrv hk]
   simp
 · rw [if_neg e]
   by_cases hj:j<0
   · rw [if_pos hj,if_pos hj]
   · rw [if_neg hj,if_neg hj]
     have:¬ k=j.toNat:=by omega
     cases d.cs[j.toNat]? <;> simp [this]
theorem zrw (p:Nat) (d:Dk) (i:Int) (s:Sec) (hn:d.steps≤1000000000):zy Try.prog f_zz36 [.gp p 0,.int .i64 i,eS s] [zp p d] (fun r post=>r=.d (.int .i64 (wr d i s).2)∧post=[zp p (wr d i s).1]):=by
 refine zg fol zz36_cp fun R G σ hs=>?_
 by_cases hk:chk d i=0
 · obtain ⟨hdead,h0,h1⟩:=zru hk
   obtain ⟨k,rfl⟩:∃ k:Nat,i=k:=⟨i.toNat,by omega⟩
   have hkl:k<d.cs.length:=by omega
   obtain ⟨hwok,_⟩:=zys (d:=d) (by obtain ⟨_,_,_,_,h⟩:=zbi.open hs;exact h.ok) hn k s
   refine goS trivial ?_
   (refine zb1 hk ((zeu p d k).q hs) ?_;(repeat' (with_reducible apply Br.mk<;>intro _)))
   (refine goM (zmg p d hn) (hs) ?_)
   rintro _ _ G2 ⟨rfl,rfl⟩ hs2
   by_cases hst:(stp d).2=0
   · have hw:wr d k s=({ (stp d).1 with cs:=d.cs.modify k fun c=>{ c with op:=c.op++[s] } },0):=by unfold wr;rw [if_neg (by rw [hk];simp),if_neg (by rw [hst];simp),Int.toNat_natCast]
     rw [hw] at hwok ⊢
     obtain ⟨cb,r,cap,m,hd⟩:=zbi.open hs2
     have hc:=hd.cell
     obtain ⟨x,hl,hv,hx0,hx⟩:=hd.look k
     have hcs:(stp d).1.cs=d.cs:=by unfold stp;split<;>rfl
     have hfew:=hd.ok.few ((stp d).1.cs[k]'(by rw [hcs];exact hkl)) (List.getElem_mem _)
     have hop:zd6 (stp d).1 k=((stp d).1.cs[k]'(by rw [hcs];exact hkl)).op:=zja (by rw [hcs];exact hkl)
     have hst2:=hd.ok.st
     refine goS hst ?_
     (refine goX (nn hst (nn hc hl)) ?_;(repeat' (with_reducible apply Br.mk<;>intro _)))
     have hkl2:k<(stp d).1.cs.length:=by rw [hcs];exact hkl
     refine za0 (es2:=[eS s]) (m:=1) hv (zav (es:=[eS s]) (zzt [s])) rfl (zzt [s]) (z5s _ _) (by rw [List.length_map,hop,zo];omega) fun x' G3 hv3 hto=>?_
     have h2:=hd.grown (es:=zd6 (stp d).1 k++[s]) hx hx0 hto (by rw [List.map_append];exact hv3)
     have hc3:=h2.f4.get
     have hm3:=h2.f3.map
     (refine goX (nn hc hc3) ?_;(repeat' (with_reducible apply Br.mk<;>intro _)))
     refine zuu (emb:=eI) (vf:=id) hm3 k x' fun M hM=>?_
     (refine goX trivial ?_;(repeat' (with_reducible apply Br.mk<;>intro _)))
     refine Fin.eq rfl ⟨rfl,_,⟨rfl,rfl⟩,?_⟩
     refine (hd.regrow hwok rfl rfl rfl ?_ ?_ (by simp) h2 hM).close
     · rw [hcs];exact zlx fun c=>rfl
     · intro j
       have:=zkn (d:=(stp d).1) (d':={ (stp d).1 with cs:=d.cs.modify k fun c=>{ c with op:=c.op++[s] } }) (k:=k) (f:=fun c=>{ c with op:=c.op++[s] }) (by rw [hcs]) hkl2 j
       rw [this,hop]
   · have hw:wr d k s=stp d:=by unfold wr;rw [if_neg (by rw [hk];simp),if_pos hst]
     rw [hw]
     refine goS hst ?_
     (refine goX hst ?_;(repeat' (with_reducible apply Br.mk<;>intro _)))
     exact Fin.eq rfl ⟨rfl,_,⟨rfl,rfl⟩,hs2⟩
 · have hw:wr d i s=(d,chk d i):=by unfold wr;rw [if_pos hk]
   refine goS trivial ?_
   (refine zb1 hk ((zeu p d i).q hs) ?_;(repeat' (with_reducible apply Br.mk<;>intro _)))
   exact Fin.eq rfl ⟨rfl,_,⟨by rw [hw],by rw [hw]⟩,hs⟩
end Go.Proofs.Ytlejjdbmmdghmaa
