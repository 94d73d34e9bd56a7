/-
 Layer 21 (disk),continued: Rot,Flip.
 Conditions: of each contract as it says.
-/
import Derived.Test.YtlejjdbmmdghmaaS22
set_option linter.unusedSimpArgs false
namespace Go.Proofs.Ytlejjdbmmdghmaa
open Go Go.E2 C22
set_option maxHeartbeats 1000000
theorem Sep.slSet {sz n cap b:Nat} {es es' cs':List D} {R:List As} {G:Gh} (h:Sep (SlA sz (.gs b 0 n cap) es::R) G) (hr:Row sz n cap es' cs'):Sep (SlA sz (.gs b 0 n cap) es'::R) (G.set b (some cs')):=by
 have h2:Sep ((fun G=>∃ cs,ze b cs G)::R) G:=h.imp fun G1 e=>by
  cases e with
  | row b cap es cs hb hr=>exact ⟨cs,hb⟩
 obtain ⟨cs,h2⟩:=h2.ex
 exact Sep.toSl h2.set hr
theorem Sep.ne {a b:Nat} {x y:List D} {R:List As} {G:Gh} (h:Sep (ze a x::ze b y::R) G):a≠b:=by
 rintro rfl
 have h1:=(h.set (cs':=.nilP::y)).tail.get
 simp [upd] at h1
theorem Sep.neS {a b sz n cap:Nat} {x es:List D} {R:List As} {G:Gh} (h:Sep (ze a x::SlA sz (.gs b 0 n cap) es::R) G):a≠b:=by
 have h2:Sep ((fun G=>∃ cs,ze b cs G)::ze a x::R) G:=h.swap.imp fun G1 e=>by
  cases e with
  | row b cap es cs hb hr=>exact ⟨cs,hb⟩
 obtain ⟨cs,h2⟩:=h2.ex
 exact Sep.ne h2.swap
theorem zew {a b:Nat} (h:a≠b):∀ (f:Nat→Option (List D)) (v:Option (List D)),upd f a v b=f b:=fun _ _=>ze8 fun e=>h e.symm
theorem zhd:∀ (l l':List UInt8),l.length=l'.length→zk (kr l.length .i) (l.map eB) (l'.map eB)=some (decide (l=l'))
 | [],[],_=>rfl
 | a::l,b::l',h=>by
   have ih:=zhd l l' (by simpa using h)
   have e:kr (a::l).length .i=.i::kr l.length .i:=by simp [kr,List.replicate_succ]
   have hab:((a.toNat:Int) == (b.toNat:Int))=decide (a=b):=by
    rw [Bool.eq_iff_iff];simp only [beq_iff_eq,decide_eq_true_eq]
    exact ⟨fun h=>UInt8.toNat_inj.1 (by omega),fun h=>by rw [h]⟩
   simp only [e,List.map_cons,zk,eB,zb0,if_true,hab]
   rw [ih]
   simp
 | [],_::_,h=>by simp at h
 | _::_,[],h=>by simp at h
@[go_sem] theorem z09 (s t:Sec):zk (kr 64 .i) (s.1.map eB) (t.1.map eB)=some (decide (s=t)):=by
  have:=zhd s.1 t.1 (by rw [s.2,t.2])
  rw [s.2] at this
  rw [this]
  congr 1
  exact decide_eq_decide.2 ⟨fun h=>Subtype.ext h,fun h=>by rw [h]⟩
section
variable {p:Nat} {d:Dk} {R:List As} {G:Gh} {cb r cap:Nat} {m:List (Int×D)}
end
theorem zs5 {α:Type} {l:List α} {k:Nat} (hk:k<l.length) (f:α→α):l.modify k f=l.set k (f l[k]):=by
 apply List.ext_getElem?
 intro i
 rw [List.getElem?_modify,List.getElem?_set]
 by_cases h:k=i
 · subst h;simp [hk]
 · simp [h]
attribute [go_sem] Nat.min_self List.take_append List.drop_append List.take_nil List.drop_nil List.take_succ_cons List.drop_succ_cons
theorem z1a {cs:List Cel} {cap:Nat} {cells:List D} (hrow:Row 65 cs.length cap (cs.map eC) cells) {k:Nat} (hk:k<cs.length) (f:Cel→Cel) :
 Row 65 cs.length cap ((cs.modify k f).map eC) (cells.take (k * 65)++((f cs[k]).s.1.map eB++[.bool (f cs[k]).bad])++cells.drop (k * 65+65)):=by
 have:=hrow.set (i:=k) (by simpa using hk) (zv5 (f cs[k]))
 have e:zbv cells (eC (f cs[k])).cells (k * 65)=cells.take (k * 65)++((f cs[k]).s.1.map eB++[.bool (f cs[k]).bad])++cells.drop (k * 65+65):=by
  unfold zbv
  rw [zjb]
  have:((f cs[k]).s.1.map eB++[D.bool (f cs[k]).bad]).length=65:=by rw [List.length_append,zaj];rfl
  rw [this]
 rw [e] at this
 rw [zs5 hk,List.map_set]
 exact this
end Go.Proofs.Ytlejjdbmmdghmaa
namespace Go.Proofs.Ytlejjdbmmdghmaa
open Go Go.E2 C22
set_option maxHeartbeats 1000000
structure zi0 (p:Nat) (d:Dk) (R:List As) (G:Gh) (cb r cap:Nat) (m:List (Int×D)) (it:Nat) (sn:List Int):Prop where
 ok:Okd d
 op:OpOk d m
 sep:Sep (ze p [.gs cb 0 d.cs.length cap,.mref r,eI d.steps,eI d.after,.bool d.dead]::SlA 65 (.gs cb 0 d.cs.length cap) (d.cs.map eC)::ztj [.i] eI id r it m sn::OpA d m::R) G
section
variable {p:Nat} {d:Dk} {R:List As} {G:Gh} {cb r cap it:Nat} {m:List (Int×D)} {sn:List Int}
theorem zi0.done (h:zi0 p d R G cb r cap m it sn):zbi p d R G cb r cap m :=
 ⟨h.ok,h.op,h.sep.cons fun _ hh=>hh.cons fun _ hr=>hr.rngEnd⟩
theorem zbi.walk (h:zbi p d R G cb r cap m) {X:MO} (hit:G.m it=none) (hr:zgt [.i] eI id (G.setM it (some X)) r it m []):zi0 p d R (G.setM it (some X)) cb r cap m it [] :=
 ⟨h.ok,h.op,(Sep.rngNew h.sep.f3 hit hr).b3⟩
theorem zi0.rng (h:zi0 p d R G cb r cap m it sn):zgt [.i] eI id G r it m sn:=h.sep.f3.rngl
theorem zi0.turn (h:zi0 p d R G cb r cap m it sn) {X:MO} {sn':List Int} (hr:zgt [.i] eI id (G.setM it (some X)) r it m sn'):zi0 p d R (G.setM it (some X)) cb r cap m it sn' :=
 ⟨h.ok,h.op,(Sep.rngSet (.inr rfl) h.sep.f3 hr).b3⟩
theorem OpA.row {i:Int} {v:D} (hm:zbo m i=some v) (h:Sep (OpA d m::R) G):GV 64 G v ((zd6 d i).map eS):=(OpA.out hm h).gv
theorem zi0.one (h:zi0 p d R G cb r cap m it sn) {a:Int} {v:D} (hm:zbo m a=some v) {d':Dk} (hok:Okd d') (hst:d'.steps=d.steps) (haf:d'.after=d.after) (hde:d'.dead=d.dead) (hlen:d'.cs.length=d.cs.length)
 (hop:∀ j,zd6 d' j=if j=a then [] else zd6 d j) {cs':List D} (hr:Row 65 d.cs.length cap (d'.cs.map eC) cs') {M:MO} (hrg:zgt [.i] eI id ((G.set cb (some cs')).setM r (some M)) r it (mdel m a) sn) :
 zi0 p d' R ((G.set cb (some cs')).setM r (some M)) cb r cap (mdel m a) it sn:=by
 have hnd:=h.rng.nodup
 refine ⟨hok,⟨fun j=>?_⟩,?_⟩
 · rw [zxv hnd,hop]
   split
   · simp
   · exact h.op.has j
 · have e:OpA d' (mdel m a)=OpA d (mdel m a):=OpA.same fun q hq=>by rw [hop,if_neg ((zi2 hnd).1 hq).2]
   have h1:Sep (OpA d (mdel m a)::ze p [.gs cb 0 d.cs.length cap,.mref r,eI d.steps,eI d.after,.bool d.dead]::SlA 65 (.gs cb 0 d.cs.length cap) (d.cs.map eC)::ztj [.i] eI id r it m sn::R) G:=(OpA.out hm h.sep.f4).tail
   have h2:Sep (SlA 65 (.gs cb 0 d.cs.length cap) (d.cs.map eC)::OpA d (mdel m a)::ze p [.gs cb 0 d.cs.length cap,.mref r,eI d.steps,eI d.after,.bool d.dead]::ztj [.i] eI id r it m sn::R) G:=h1.f3
   have h3:=Sep.slSet h2 hr
   have h4:=Sep.rngSet (.inl rfl) h3.f4 hrg
   rw [hlen,hst,haf,hde,e]
   exact h4.f4.cons fun _=>Sep.swap
end
theorem zx8 (c:Cel):syC (syC c)=syC c:=by
 unfold syC
 cases h:c.op.getLast? with
 | none=>simp [h]
 | some s=>rfl
theorem zvj {d:Dk} (h:∀ i,zd6 d i=[]):d.cs.map syC=d.cs:=by
 apply List.ext_getElem
 · simp
 · intro i h1 h2
   rw [List.getElem_map]
   have:=h i
   rw [zja h2] at this
   unfold syC
   rw [this];rfl
theorem zvk (p:Nat) (d:Dk) (hn:d.steps≤1000000000):zy Try.prog f_zz49 [.gp p 0] [zp p d] (fun r post=>r=.d (.int .i64 (sy d).2)∧post=[zp p (sy d).1]):=by
 refine zg fol zz49_cp fun R G σ hs=>?_
 have hok0:Okd d:=by obtain ⟨_,_,_,_,h⟩:=zbi.open hs;exact h.ok
 by_cases hdead:d.dead=true
 · have hk:chk d 0=12:=by unfold chk;rw [if_pos hdead]
   have hw:sy d=(d,12):=by unfold sy;rw [if_pos hdead]
   refine goS trivial ?_
   (refine zb1 hk ((zeu p d 0).q hs) ?_;(repeat' (with_reducible apply Br.mk<;>intro _)))
   exact Fin.eq rfl ⟨rfl,_,⟨by rw [hw],by rw [hw]⟩,hs⟩
 · have hk:chk d 0=0:=by unfold chk;rw [if_neg hdead,if_neg (by have:=hok0.pos;omega)]
   obtain ⟨hsok,_⟩:=zyt hok0 hn
   refine goS trivial ?_
   (refine zb1 hk ((zeu p d 0).q hs) ?_;(repeat' (with_reducible apply Br.mk<;>intro _)))
   (refine goM (zmg p d hn) (hs) ?_)
   rintro _ _ G2 ⟨rfl,rfl⟩ hs2
   by_cases hst:(stp d).2=0
   · have hw:sy d=({ (stp d).1 with cs:=d.cs.map syC },0):=by unfold sy;rw [if_neg hdead,if_neg (by rw [hst];simp)]
     have hcs:(stp d).1.cs=d.cs:=by unfold stp;split<;>rfl
     rw [hw] at hsok ⊢
     obtain ⟨cb,r,cap,m,hd⟩:=zbi.open hs2
     have hc:=hd.cell
     refine goS hst ?_
     (refine goX (nn hst hc) ?_;(repeat' (with_reducible apply Br.mk<;>intro _)))
     refine zl6 hd.map fun it X hit hr=>?_
     have hq:=hd.walk hit hr
     refine goS trivial ?_
     refine goR trivial ?_
     refine W.loop (fun n st=>∃ (d':Dk) (m':List (Int×D)) (sn:List Int) (G:Gh),n=m'.length∧(∀ q∈m',q.1 ∉ sn)∧zi0 p d' R G cb r cap m' it sn∧d'.steps=(stp d).1.steps∧d'.after=(stp d).1.after∧d'.dead=(stp d).1.dead∧d'.cs.map syC=d.cs.map syC∧d'.cs.length=d.cs.length ∧
      st=(E [(0,.d (.gp p 0)),(19,.d (.gp it 0))],HB [],σ,G))
      ⟨_,_,zb7,(stp d).1,m,[],_,rfl,fun _ _=>by simp,hq,rfl,rfl,rfl,by rw [hcs],by rw [hcs],rfl⟩ ?_
     rintro n st ⟨d',m',sn,G3,rfl,hsn,hq,e1,e2,e3,e4,e5,rfl⟩
     refine goR trivial ?_
     refine zl7 hq.rng (fun hall=>?_) (fun a v X hav hns hr hent=>?_)
     · have hm0:m'=[]:=by
        cases m' with
        | nil=>rfl
        | cons q m'=>exact absurd (hall q List.mem_cons_self) (hsn q List.mem_cons_self)
       subst hm0
       have h0:∀ i,zd6 d' i=[]:=fun i=>by
        apply Classical.byContradiction
        intro e
        have:=(hq.op.has i).2 e
        simp [zbo] at this
       have e6:d'={ (stp d).1 with cs:=d.cs.map syC }:=by
        obtain ⟨a,b,c,e⟩:=d'
        simp only at e1 e2 e3 e4
        have e7:a=d.cs.map syC:=by rw [← e4];exact (zvj (d:=⟨a,b,c,e⟩) h0).symm
        subst e7 e1 e2 e3
        rfl
       subst e6
       refine goS trivial ?_
       (refine goX trivial ?_;(repeat' (with_reducible apply Br.mk<;>intro _)))
       exact Fin.eq rfl ⟨rfl,_,⟨rfl,rfl⟩,hq.done.close⟩
     · have hq2:=hq.turn hr
       have hg:=zem hq.rng.nodup hav
       have hne:zd6 d' a≠[]:=(hq.op.has a).1 (by rw [hg];rfl)
       obtain ⟨k,rfl⟩:∃ k:Nat,a=k:=⟨a.toNat,by have:=zv4 hne;omega⟩
       have hkl:k<d'.cs.length:=by have:=zv4 hne;omega
       obtain ⟨c,hcc⟩:∃ c,c=d'.cs[k]:=⟨_,rfl⟩
       have hv:=OpA.row hg hq2.sep.f4
       have hop:zd6 d' k=c.op:=by rw [zja hkl,hcc]
       rw [hop] at hv hne
       obtain ⟨b,cap',cs0,rfl,hb,hla⟩:=zv7 hv hne
       have hc3:=hq2.done.cell
       obtain ⟨cells,hcb,hrow⟩:=hq2.done.row
       have hfew:=hq.ok.few c (by rw [hcc];exact List.getElem_mem hkl)
       have hstt:=hq.ok.st
       have hl0:0<c.op.length:=List.length_pos_iff.2 hne
       have e8:((c.op.length:Int) - 1).toNat=c.op.length - 1:=by omega
       have hfit:=hrow.fits (i:=k) (by simpa using hkl)
       have hsy:syC c=⟨c.op.getLast hne,false,[]⟩:=by unfold syC;rw [List.getLast?_eq_some_getLast hne]
       have hrow2:=z1a hrow hkl syC
       rw [← hcc,hsy] at hrow2
       simp only [Gh.setM_c] at hc3 hb hcb
       have hc4:=(Sep.slSet hq2.sep.swap hrow2).swap.get
       simp only [Gh.set_c,Gh.setM_c] at hc4
       obtain ⟨M,hM,hrd⟩:=(hq2.rng.set (b:=cb) (v:=some (cells.take (k * 65)++((c.op.getLast hne).1.map eB++[.bool false])++cells.drop (k * 65+65)))).delete (k:Int)
       have hok':Okd { d' with cs:=d'.cs.modify k syC }:=by
        refine ⟨by simpa using hq.ok.pos,by simpa using hq.ok.most,fun x hx=>?_,hq.ok.st,fun x hx=>?_,hq.ok.aft⟩
        · rcases zed hx with hx|⟨y,hy,rfl⟩
          · exact hq.ok.rot x hx
          · unfold syC;split
            · simp
            · exact hq.ok.rot y hy
        · rcases zed hx with hx|⟨y,hy,rfl⟩
          · exact hq.ok.few x hx
          · have:=hq.ok.few y hy
            unfold syC;split
            · simpa using hq.ok.st.1
            · exact this
       refine goS trivial ?_
       (repeat (first|(with_reducible first|refine W.seq ?_|refine W.block ?_|refine W.scope ?_)|((with_reducible first|refine W.reg ?_|refine W.skip ?_|refine W.exit ?_|refine W.ret ?_|refine W.ifc ?_);simp -dsimp (disch:=first|omega|(simp only [go_sem];omega)) only [go_sem,seval,Nat.reduceEqDiff,Nat.reduceLeDiff,hent,id_eq,hc3,hc4,hb,hla,e8,hcb,Int.toNat_natCast,hfit,hM])))
       have hq3:=hq2.one hg (d':={ d' with cs:=d'.cs.modify k syC }) hok' rfl rfl rfl (by simp) (fun j=>by
        rw [zkn (d:=d') (d':={ d' with cs:=d'.cs.modify k syC }) (k:=k) (f:=syC) rfl hkl j,← hcc,hsy]) hrow2 hrd
       refine ⟨_,_,?_,zb7,{ d' with cs:=d'.cs.modify k syC },mdel m' k,sn++[(k:Int)],_,rfl,fun q hq'=>?_,hq3,e1,e2,e3,?_,by simpa using e5,rfl⟩
       · rw [zxw,hg];simp;have:=List.length_pos_of_mem hav;omega
       · obtain ⟨q1,q2⟩:=(zi2 hq.rng.nodup).1 hq'
         simp only [List.mem_append,List.mem_singleton,not_or]
         exact ⟨hsn q q1,q2⟩
       · rw [← e4];exact zlx zx8
   · have hw:sy d=stp d:=by unfold sy;rw [if_neg hdead,if_pos hst]
     rw [hw]
     refine goS hst ?_
     (refine goX hst ?_;(repeat' (with_reducible apply Br.mk<;>intro _)))
     exact Fin.eq rfl ⟨rfl,_,⟨rfl,rfl⟩,hs2⟩
end Go.Proofs.Ytlejjdbmmdghmaa
namespace C22
end C22
namespace C22
structure Wd (d:Dk) (n:Int):Prop where
 ok:Okd d
 len:d.cs.length=16
 live:d.dead=false
 aft:d.after=-1
 good:∀ c∈d.cs,c.bad=false
 st:d.steps≤n
theorem zrc {d:Dk} (h:d.after=-1):stp d=({ d with steps:=d.steps+1 },0):=by
 unfold stp
 rw [if_neg (by omega),if_neg (by omega)]
end C22
namespace C22
theorem z1b {d:Dk} (hd:d.dead=false) {i:Nat} {c:Cel} (h:d.cs[i]?=some c):rd d i=zoo c:=by
 have hl:=(List.getElem?_eq_some_iff.1 h).1
 have hk:chk d i=0:=by unfold chk;rw [if_neg (by rw [hd];simp),if_neg (by omega)]
 unfold rd
 rw [if_neg (by rw [hk];simp),Int.toNat_natCast,h]
section
variable {d:Dk} {n:Int} {i b:Nat}
end
end C22
namespace C22
def zkb (b:Int):UInt8:=UInt8.ofNat (b % 256).toNat
def qb (q:Int):List UInt8:=[zkb (q / 16777216),zkb (q / 65536),zkb (q / 256),zkb q]
def pad (n:Nat) (l:Str):Str:=l++List.replicate (n - l.length) 0
theorem zer {n:Nat} {l:Str} (h:l.length≤n):(pad n l).length=n:=by unfold pad;simp;omega
def mk1 (q:Int) (b:Str):Sec:=⟨(qb q++pad 28 (b.take 28)++qb q++[UInt8.ofNat b.length]++pad 27 ((b.drop 28).take 27)).take 64,by
 have h1:(pad 28 (b.take 28)).length=28:=zer (by simp;omega)
 have h2:(pad 27 ((b.drop 28).take 27)).length=27:=zer (by simp;omega)
 simp only [List.length_take,List.length_append,h1,h2,qb,List.length_cons,List.length_nil]
 omega⟩
def zaa (s:Sec) (i:Nat):Nat:=((s.1[i]?).getD 0).toNat
def zch (s:Sec) (a:Nat):Nat:=zaa s a * 16777216+zaa s (a+1) * 65536+zaa s (a+2) * 256+zaa s (a+3)
theorem zhe (s:Sec) (i:Nat):zaa s i<256:=UInt8.toNat_lt _
theorem zh7 (s:Sec) {i:Nat} (h:i<64):zaa s i=(s.1[i]'(by rw [s.2];exact h)).toNat:=by
 unfold zaa
 rw [List.getElem?_eq_getElem (by rw [s.2];exact h)];rfl
def zf6 (s:Sec):Bool:=decide (zch s 0=zch s 32) && decide (1≤zch s 0) && decide (zaa s 36≤55)
end C22
