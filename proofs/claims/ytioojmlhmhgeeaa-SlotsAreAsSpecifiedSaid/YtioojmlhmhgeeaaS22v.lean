/-
 Layer 22 (slots),plain: what stays where calls of all kinds are made.
 Conditions: of each law as it says.
-/
import Derived.Test.YtioojmlhmhgeeaaS22c
import Derived.Test.YtioojmlhmhgeeaaS22e
import Derived.Test.YtioojmlhmhgeeaaF22rl
import Derived.Test.YtioojmlhmhgeeaaF22za
namespace C22
set_option linter.unusedVariables false
structure Iv (d:Dk) (o:Bool) (f n:Int) (k:Int):Prop where
 ok:Okd d
 len:d.cs.length=12
 st:d.steps≤40*k
 part:o=true→0≤f∧f+2*n≤12
theorem openR_iv {d:Dk} {f n:Int} (h:Okd d) (hl:d.cs.length=12) (hn:d.steps≤800000000):Up d (openR d f n).1 40∧((openR d f n).2.2=0→0≤f∧f+2*n≤12):=by
 unfold openR
 split
 · exact⟨(Up.refl h).mono (by omega),fun e=>by simp at e⟩
 · rename_i hp
   obtain⟨p1,p2,p3⟩:=placeB_true (d:=d) (first:=f) (n:=n) (by simpa using hp)
   have hup:Up d (openN d f n.toNat).1 40:=(openN_up h f n.toNat (by omega)).mono (by omega)
   split
   · exact⟨hup,fun e=>by omega⟩
   · exact⟨hup,fun _=>by omega⟩
theorem fmtR_iv {d:Dk} {f n:Int} (h:Okd d) (hl:d.cs.length=12) (hn:d.steps≤800000000):Up d (fmtR d f n).1 40:=by
 by_cases hp:placeB d f n=false
 · unfold fmtR
   rw [if_pos hp]
   exact (Up.refl h).mono (by omega)
 · obtain⟨p1,p2,p3⟩:=placeB_true (d:=d) (first:=f) (n:=n) (by simpa using hp)
   exact (fmtR_up h f n (by omega)).mono (by omega)
theorem putR_iv {d:Dk} {f n i:Int} {b:Str} (h:Okd d) (hn:d.steps≤800000000):Up d (putR d f n i b).1 40:=by
 unfold putR
 split
 · exact (Up.refl h).mono (by omega)
 · exact (changeR_up h (by omega) f i b).mono (by omega)
theorem killR_iv {d:Dk} {f n i:Int} (h:Okd d) (hn:d.steps≤800000000):Up d (killR d f n i).1 40:=by
 unfold killR
 split
 · exact (Up.refl h).mono (by omega)
 · exact (changeR_up h (by omega) f i []).mono (by omega)
theorem rot_len (d:Dk) (i:Int):(rot d i).1.cs.length=d.cs.length:=by
 unfold rot
 split<;>simp
theorem flp_len (d:Dk) (i b:Int):(flp d i b).1.cs.length=d.cs.length:=by
 unfold flp
 split
 · rfl
 · split<;>simp
theorem Iv.up {d d':Dk} {o:Bool} {f n k:Int} (h:Iv d o f n k) (hu:Up d d' 40):Iv d' o f n (k+1) :=
 ⟨hu.1,hu.2.1.trans h.len,by have:=hu.2.2;have:=h.st;omega,h.part⟩
end C22
/-
 Layer 22 (slots): calls on a disk that works,as plain mathematics.
 Conditions: of each law as it says.
-/
namespace C22
structure Lv (d:Dk) (n:Int):Prop where
 ok:Okd d
 live:d.dead=false
 aft:d.after=-1
 good:∀ c∈d.cs,c.bad=false
 st:d.steps≤n
def topS (c:Cel):Sec:=(c.op.getLast?).getD c.s
def topAt (d:Dk) (i:Nat):Sec:=topS ((d.cs[i]?).getD freshC)
section
variable {d:Dk} {n:Int}
theorem Lv.mono (h:Lv d n) {m:Int} (hm:n≤m):Lv d m:=⟨h.ok,h.live,h.aft,h.good,by have:=h.st;omega⟩
theorem Lv.rd (h:Lv d n) {i:Nat} (hi:i < d.cs.length):rd d i=(topAt d i,0):=by
 rw [rd_live h.live (List.getElem?_eq_getElem hi)]
 have hg:=h.good _ (List.getElem_mem hi)
 unfold topAt topS celRd
 rw [List.getElem?_eq_getElem hi]
 simp only [Option.getD_some]
 cases d.cs[i].op.getLast? with
 | some s=>rfl
 | none=>simp [hg]
theorem Lv.chk (h:Lv d n) {i:Nat} (hi:i < d.cs.length):chk d i=0:=by
 unfold C22.chk
 rw [if_neg (by rw [h.live];simp),if_neg (by omega)]
theorem Lv.wr (h:Lv d n) (hn:n≤900000000) {a:Nat} (ha:a < d.cs.length) (s:Sec) :
 (wr d a s).2=0∧Lv (wr d a s).1 (n+1)∧(wr d a s).1.cs.length=d.cs.length∧∀ i,topAt (wr d a s).1 i=if i=a then s else topAt d i:=by
 have hs:=h.st
 have ho:=(wr_ok h.ok (by omega) a s).1
 have e:C22.wr d a s=({ d with steps:=d.steps+1,cs:=d.cs.modify a fun c=>{ c with op:=c.op ++ [s] } },0):=by
  unfold C22.wr
  rw [if_neg (by rw [h.chk ha];simp),stp_live h.aft,if_neg (by simp),Int.toNat_natCast]
 rw [e] at ho ⊢
 refine⟨rfl,⟨ho,h.live,h.aft,fun c hc=>?_,by simp only;omega⟩,by simp,fun i=>?_⟩
 · rcases mem_modify hc with hc|⟨y,hy,rfl⟩
   · exact h.good c hc
   · exact h.good y hy
 · unfold topAt
   simp only [List.getElem?_modify]
   by_cases e1:i=a
   · subst e1
     rw [if_pos rfl,List.getElem?_eq_getElem ha]
     simp [topS]
   · rw [if_neg e1]
     cases hx:d.cs[i]? with
     | none=>rfl
     | some c=>simp [Ne.symm e1]
theorem Lv.sy (h:Lv d n) (hn:n≤900000000) :
 (sy d).2=0∧Lv (sy d).1 (n+1)∧(sy d).1.cs.length=d.cs.length∧∀ i,topAt (sy d).1 i=topAt d i:=by
 have hs:=h.st
 have ho:=(sy_ok h.ok (by omega)).1
 have e:C22.sy d=({ d with steps:=d.steps+1,cs:=d.cs.map syC },0):=by
  unfold C22.sy
  rw [if_neg (by rw [h.live];simp),stp_live h.aft,if_neg (by simp)]
 rw [e] at ho ⊢
 refine⟨rfl,⟨ho,h.live,h.aft,fun c hc=>?_,by simp only;omega⟩,by simp,fun i=>?_⟩
 · obtain⟨y,hy,rfl⟩:=List.mem_map.1 hc
   unfold syC
   split
   · rfl
   · exact h.good y hy
 · unfold topAt
   simp only [List.getElem?_map]
   cases hx:d.cs[i]? with
   | none=>rfl
   | some c =>
    simp only [Option.map_some,Option.getD_some,topS,syC]
    cases hl:c.op.getLast? with
    | none=>simp [hl]
    | some s=>rfl
theorem Lv.writeR (h:Lv d n) (hn:n≤800000000) {a:Nat} (ha:a < d.cs.length) (s:Sec) :
 (writeR d a s).2=0∧Lv (writeR d a s).1 (n+2)∧(writeR d a s).1.cs.length=d.cs.length∧∀ i,topAt (writeR d a s).1 i=if i=a then s else topAt d i:=by
 obtain⟨h1,h2,h3,h4⟩:=h.wr (by omega) ha s
 obtain⟨g1,g2,g3,g4⟩:=h2.sy (by omega)
 unfold C22.writeR
 rw [if_neg (by rw [h1];simp)]
 exact⟨g1,g2.mono (by omega),g3.trans h3,fun i=>by rw [g4,h4]⟩
theorem Lv.readC (h:Lv d n) {a:Nat} (ha:a < d.cs.length):readC d a=(⟨topAt d a,a,goodS (topAt d a)⟩,0):=by
 unfold C22.readC
 rw [h.rd ha]
 simp
def fOf (d:Dk) (a:Nat):Fnd:=⟨topAt d a,a,goodS (topAt d a)⟩
theorem Lv.slotR (h:Lv d n) {f i:Nat} (hi:f+2*i+1 < d.cs.length) :
 slotR d f i=if goodS (topAt d (f+2*i+1))=true∧(goodS (topAt d (f+2*i))=false∨numAt (topAt d (f+2*i)) 0 < numAt (topAt d (f+2*i+1)) 0) then (fOf d (f+2*i+1),fOf d (f+2*i),0) else (fOf d (f+2*i),fOf d (f+2*i+1),0):=by
 have h0:=h.readC (a:=f+2*i) (by omega)
 have h1:=h.readC (a:=f+2*i+1) hi
 have e0:((f+2*i:Nat):Int)=(f:Int)+2*(i:Int):=by omega
 have e1:((f+2*i+1:Nat):Int)=(f:Int)+2*(i:Int)+1:=by omega
 rw [e0] at h0
 rw [e1] at h1
 unfold C22.slotR
 rw [h0,h1,if_neg (by simp),if_neg (by simp)]
 unfold fOf
 rw [e0,e1]
theorem Lv.slot2 (h:Lv d n) {f i:Nat} (hi:f+2*i+1 < d.cs.length) :
 ∃ a b:Nat,(a=f+2*i∧b=f+2*i+1∨a=f+2*i+1∧b=f+2*i)∧C22.slotR d f i=(fOf d a,fOf d b,0):=by
 rw [h.slotR hi]
 split
 · exact⟨_,_,.inr ⟨rfl,rfl⟩,rfl⟩
 · exact⟨_,_,.inl ⟨rfl,rfl⟩,rfl⟩
theorem Lv.healR (h:Lv d n) (hn:n≤800000000) {a b:Nat} (hb:b < d.cs.length) :
 (healR d (fOf d a) (fOf d b)).2=0∧Lv (healR d (fOf d a) (fOf d b)).1 (n+2)∧(healR d (fOf d a) (fOf d b)).1.cs.length=d.cs.length∧∀ i,i≠b→topAt (healR d (fOf d a) (fOf d b)).1 i=topAt d i:=by
 unfold C22.healR
 split
 · exact⟨rfl,h.mono (by omega),rfl,fun _ _=>rfl⟩
 · obtain⟨h1,h2,h3,h4⟩:=h.writeR hn hb (fOf d a).s
   exact⟨h1,h2,h3,fun i hi=>by rw [show (fOf d b).at'=(b:Int) from rfl,h4,if_neg hi]⟩
theorem Lv.changeR (h:Lv d n) (hn:n≤700000000) {f i:Nat} (hi:f+2*i+1 < d.cs.length) (b:Str) :
 (changeR d f i b).2=0∧Lv (changeR d f i b).1 (n+6)∧(changeR d f i b).1.cs.length=d.cs.length∧∀ j,j≠f+2*i→j≠f+2*i+1→topAt (changeR d f i b).1 j=topAt d j:=by
 obtain⟨a,c,hac,hs⟩:=h.slot2 hi
 unfold C22.changeR
 rw [hs]
 obtain⟨h1,h2,h3,h4⟩:=h.healR (by omega) (a:=a) (b:=c) (by omega)
 simp only
 rw [if_neg (by simp),if_neg (by rw [h1];simp)]
 generalize (C22.healR d (fOf d a) (fOf d c)).1=d2 at h2 h3 h4
 generalize mk1 (nextQ (fOf d a)) b=s
 have e0:(f:Int)+2*(i:Int)=((f+2*i:Nat):Int):=by omega
 have e1:(f:Int)+2*(i:Int)+1=((f+2*i+1:Nat):Int):=by omega
 unfold change2
 rw [e1,e0]
 obtain⟨g1,g2,g3,g4⟩:=h2.writeR (by omega) (a:=f+2*i+1) (by omega) s
 rw [if_neg (by rw [g1];simp)]
 obtain⟨k1,k2,k3,k4⟩:=g2.writeR (by omega) (a:=f+2*i) (by omega) s
 refine⟨k1,k2.mono (by omega),by omega,fun j hj hj2=>?_⟩
 rw [k4,if_neg hj,g4,if_neg hj2,h4 j (by omega)]
theorem Lv.fmtL (h:Lv d n) {f:Nat}:∀ (k:Nat),n+k≤800000000→f+k≤d.cs.length →
 (fmtL d f k).2=0∧Lv (fmtL d f k).1 (n+k)∧(fmtL d f k).1.cs.length=d.cs.length∧∀ j,topAt (fmtL d f k).1 j=if f≤j∧j < f+k then mk1 1 [] else topAt d j
 | 0,_,_=>⟨rfl,h.mono (by omega),rfl,fun j=>by rw [if_neg (by omega)];rfl⟩
 | k+1,hn,hk=>by
   obtain⟨h1,h2,h3,h4⟩:=h.fmtL (f:=f) k (by omega) (by omega)
   unfold C22.fmtL
   rw [if_neg (by rw [h1];simp)]
   obtain⟨g1,g2,g3,g4⟩:=h2.wr (by omega) (a:=f+k) (by omega) (mk1 1 [])
   have e:(f:Int)+(k:Int)=((f+k:Nat):Int):=by omega
   rw [e]
   refine⟨g1,g2.mono (by omega),by omega,fun j=>?_⟩
   rw [g4,h4]
   by_cases e1:j=f+k
   · rw [if_pos e1,if_pos (by omega)]
   · rw [if_neg e1]
     by_cases e2:f≤j∧j < f+k
     · rw [if_pos e2,if_pos (by omega)]
     · rw [if_neg e2,if_neg (by omega)]
theorem Lv.fmtR (h:Lv d n) (hn:n≤700000000) {f m:Nat} (hm:1≤m) (hl:f+2*m≤d.cs.length) :
 (fmtR d f m).2=0∧Lv (fmtR d f m).1 (n+2*m+1)∧(fmtR d f m).1.cs.length=d.cs.length∧∀ j,topAt (fmtR d f m).1 j=if f≤j∧j < f+2*m then mk1 1 [] else topAt d j:=by
 have hp:placeB d f m=true:=by
  unfold placeB
  simp
  omega
 have hmost:=h.ok.most
 obtain⟨h1,h2,h3,h4⟩:=h.fmtL (f:=f) (2*m) (by omega) hl
 obtain⟨g1,g2,g3,g4⟩:=h2.sy (by omega)
 unfold C22.fmtR
 rw [if_neg (by rw [hp];simp),Int.toNat_natCast,if_neg (by rw [h1];simp)]
 exact⟨g1,g2.mono (by omega),by omega,fun j=>by rw [g4,h4]⟩
end
theorem Lv.openN {d:Dk} {n:Int} (h:Lv d n) {f:Nat}:∀ (k:Nat),f+2*k≤d.cs.length→(∀ i,i < k→topAt d (f+2*i)=topAt d (f+2*i+1)∧goodS (topAt d (f+2*i))=true)→openN d f k=(d,[],0)
 | 0,_,_=>rfl
 | k+1,hk,hg=>by
   have ih:=h.openN k (by omega) fun i hi=>hg i (by omega)
   obtain⟨e1,e2⟩:=hg k (by omega)
   have ho:open1 d f k=(d,false,0):=by
    have hsl:C22.slotR d f k=(fOf d (f+2*k),fOf d (f+2*k+1),0):=by rw [h.slotR (by omega),if_neg (by rw [← e1,e2];simp)]
    have hg2:(fOf d (f+2*k)).good=true:=e2
    unfold open1
    rw [hsl]
    simp only [hg2,if_true]
    rw [if_neg (by simp)]
    have:C22.healR d (fOf d (f+2*k)) (fOf d (f+2*k+1))=(d,0):=by
     unfold C22.healR
     rw [if_pos (.inr ⟨by unfold fOf;simp only;rw [← e1];exact e2,by unfold fOf;exact e1.symm⟩)]
    rw [this]
   unfold C22.openN
   rw [ih,if_neg (by simp),ho]
   simp
end C22
/-
 Layer 22 (slots): the statement SlotsAreAsSpecified,walked.
 Conditions: none;every input.
-/
namespace Go.Proofs.Ytioojmlhmhgeeaa
open Go Go.E2 C22
set_option linter.unusedSimpArgs false
set_option maxHeartbeats 1000000
theorem doR_iv {d:Dk} {o:Bool} {f n k:Int} (h:Iv d o f n k) (hk:0≤k∧k≤1000) (x:Op5) (hx:WfO x):Iv (doR d o f n x).1 (doR d o f n x).2 f n (k+1):=by
 have hn:d.steps≤800000000:=by have:=h.st;omega
 unfold doR
 split
 · have hc:=crash_ok h.ok x.keep
   have hs:(arm (crash d x.keep) x.a).steps=0:=rfl
   have hl:(arm (crash d x.keep) x.a).cs.length=12:=(crash_len d x.keep).trans h.len
   have hu:=openR_iv (f:=f) (n:=n) (arm_ok hc.1 (n:=x.a) hx.a1) hl (by rw [hs];omega)
   generalize arm (crash d x.keep) x.a=d1 at hs hl hu ⊢
   exact⟨hu.1.1,hu.1.2.1.trans hl,by have:=hu.1.2.2;show (openR d1 f n).1.steps≤_;omega,fun e=>hu.2 (by simpa using e)⟩
 · have hid:Iv d o f n (k+1):=h.up ((Up.refl h.ok).mono (by omega))
   split
   · exact hid
   split
   · exact h.up (putR_iv h.ok hn)
   split
   · exact h.up (killR_iv h.ok hn)
   split
   · exact hid
   split
   · exact h.up ⟨arm_ok h.ok hx.a1,rfl,by show d.steps≤_;omega⟩
   split
   · exact h.up ⟨(rot_ok h.ok x.a).1,rot_len _ _,by rw [(rot_ok h.ok x.a).2];omega⟩
   split
   · exact h.up ⟨(flp_ok h.ok x.a _).1,flp_len _ _ _,by rw [(flp_ok h.ok x.a _).2];omega⟩
   · exact hid
theorem same22W_ok (w p m q:Nat) (d:Dk) (o:Bool) (f n:Int) {R:List As} {G:Gh} (hs:Sep (WO w p m d f n o q ++ R) G):CallQ Try.prog f_zz3 [.gp w 0] G (·=.d (.bool true)):=by
 obtain⟨s,r1,r2,r3,R',hs1,_⟩:=WO_any hs
 exact (same22_ok w p m d s r1 r2 r3 f n).q hs1
def flR (l:List Int):Nat→Dk
 | 0=>fresh 12
 | k+1=>(wr (flR l k) k (filled ((l[k]?).getD 0))).1
theorem flR_ok (l:List Int):∀ k:Nat,k≤12→Lv (flR l k) k∧(flR l k).cs.length=12
 | 0,_=>⟨⟨okd_fresh (by decide) (by decide),rfl,rfl,fun c hc=>by obtain rfl:=(List.mem_replicate.1 hc).2;rfl,Int.le_refl _⟩,rfl⟩
 | k+1,hk=>by
   obtain⟨h1,h2⟩:=flR_ok l k (by omega)
   have hw:=h1.wr (by omega) (a:=k) (by omega) (filled ((l[k]?).getD 0))
   exact⟨hw.2.1,(wr_len _ _ _).trans h2⟩
def eU (n:Int):D:=.int .u8 n
attribute [go_sem] eU
@[go_sem] theorem eU_all (l:List Int):(l.map eU).all (sizeOk 1)=true:=by rw [List.all_eq_true];intro x hx;obtain⟨s,_,rfl⟩:=List.mem_map.1 hx;rfl
def w0C (p m:Nat) (f n:Int):List D:=[.gp p 0,.nilP,.gp m 0,.nilP,.int .i64 0,.int .i64 0,.int .i64 f,.int .i64 n]
theorem areas_ok (f n:Int) (fl:List Int) (hfl:∀ b∈fl,0≤b∧b < 256) (fm:Bool) (l:List Op5) (hw:∀ o∈l,WfO o) :
 CallP Try.prog f_zz0 [.agg [.int .i64 f,.int .i64 n],.list (fl.map eU),.bool fm,.list (l.map eQ)] (·=.d (.bool true)):=by
 refine CallP.of_deep (callT_of_W fol zz0_cp ?_)
 have hs:Sep ([] ++ []) noGh:=trivial
 have hh:((12 < (fl.length:Int))=True∧True=True∧True)∨((12 < (fl.length:Int))=False∧(30 < (l.length:Int))=True∧True)∨((12 < (fl.length:Int))=False∧(30 < (l.length:Int))=False∧(fl.length≤12∧l.length≤30)):=by
  by_cases a1:12 < (fl.length:Int)
  · exact .inl ⟨eq_true a1,rfl,trivial⟩
  by_cases a2:30 < (l.length:Int)
  · exact .inr (.inl ⟨eq_false a1,eq_true a2,trivial⟩)
  · exact .inr (.inr ⟨eq_false a1,eq_false a2,by omega⟩)
 rcases hh with ⟨a1,a2,a3⟩|⟨a1,a2,a3⟩|⟨a1,a2,l12,l30⟩
 all_goals
  refine goS (nn a1 a2) ?_
  refine goR (nn a1 a2) ?_
 iterate 2
  · (refine goM (sanity22_ok) (hs) ?_)
    rintro _ _ G3 ⟨rfl,rfl⟩ hs3
    refine goS trivial ?_
    refine goR trivial ?_
    exact Fin.eq rfl ⟨rfl,_,.refl _,rfl⟩
 (refine goM (New_ok 12 (by omega) (by omega)) (hs) ?_)
 rintro _ _ G1 ⟨p,rfl,rfl⟩ hs1'
 have hs1:Sep (DiskA p (flR fl 0)::[]) G1:=hs1'
 clear hs1'
 refine goS trivial ?_
 refine goR trivial ?_
 (refine goM (rNew_ok 12 (by omega) (by omega)) ((show Sep ([] ++ (DiskA p (flR fl 0)::[])) G1 from hs1)) ?_)
 rintro _ _ G2 ⟨m,rfl,rfl⟩ hs2'
 have hs2:Sep (RefA m (flR fl 0)::DiskA p (flR fl 0)::[]) G2:=hs2'
 clear hs2'
 refine goS trivial ?_
 refine goR trivial ?_
 refine wNew_mk fun w hwn=>?_
 have hs3:Sep (CellA w (w0C p m f n)::DiskA p (flR fl 0)::RefA m (flR fl 0)::[]) _:=Sep.new (cs:=w0C p m f n) hwn hs2.swap
 unfold w0C at hs3
 generalize G2.set w (some [.gp p 0,.nilP,.gp m 0,.nilP,.int .i64 0,.int .i64 0,.int .i64 f,.int .i64 n])=G3 at hs3 ⊢
 have hc3:=hs3.get
 clear hs1 hs2 hwn
 refine goS hc3 ?_
 refine goR hc3 ?_
 refine W.loop (fun z st=>∃ (k:Nat) (b4:Blk) (G:Gh),k≤fl.length∧z=fl.length - k∧Sep (CellA w [.gp p 0,.nilP,.gp m 0,.nilP,.int .i64 0,.int .i64 0,.int .i64 f,.int .i64 n]::DiskA p (flR fl k)::RefA m (flR fl k)::[]) G ∧
  st=(E [(2,.d (.bool fm)),(3,.d (.list (l.map eQ))),(9,.d (.gp w 0)),(36,.d (.list (fl.map eU))),(37,.d (.int .i64 fl.length)),(38,.d (.int .i64 k))],HB [(4,b4)],[],G))
  ⟨_,_,stle,0,_,G3,by omega,rfl,hs3,rfl⟩ ?_
 rintro z st ⟨k,b4,G4,hk,rfl,hs4,rfl⟩
 clear hs3 hc3
 obtain⟨hL,hlen⟩:=flR_ok fl k (by omega)
 have hc4:=hs4.get
 refine goR trivial ?_
 refine wG_dec (fun g1=>?_) (fun g1=>?_)
 · have hk':k < fl.length:=by omega
   have hn:(List.map eU fl)[k]?=some (eU fl[k]):=by rw [List.getElem?_map,List.getElem?_eq_getElem hk'];rfl
   obtain⟨u0,u1⟩:=hfl fl[k] (List.getElem_mem hk')
   have hst:=hL.st
   have hw1:=(hL.wr (by omega) (a:=k) (by omega) (filled fl[k])).1
   have hfd:(wr (flR fl k) k (filled fl[k])).1=flR fl (k+1):=by
    show _=(wr (flR fl k) k (filled ((fl[k]?).getD 0))).1
    rw [List.getElem?_eq_getElem hk'];rfl
   (repeat' (first|(with_reducible first|refine W.seq ?_|refine W.block ?_)|((first|(with_reducible first|refine W.reg ?_|refine W.skip ?_|refine W.exit ?_|refine W.ret ?_|refine W.ifc ?_)|(apply wC_P (Filled_ok fl[k]);(focus (simp -dsimp (disch:=first|omega|(simp only [go_sem];omega)) only [go_sem,seval,Nat.reduceEqDiff,Nat.reduceLeDiff]<;>rfl));rintro _ rfl)|((with_reducible first|refine wG_decE (fun _ hG=>?_) (fun _ hG=>?_)|refine wG_decFE (fun _ hG=>?_) (fun _ hG=>?_))<;>(try simp -dsimp only [hG,decide_true,decide_false,not_true_eq_false,not_false_eq_true])<;>clear hG))<;>(try simp -dsimp (disch:=first|omega|(simp only [go_sem];omega)) only [go_sem,seval,Nat.reduceEqDiff,Nat.reduceLeDiff,hn,hc4]))|simp -dsimp (disch:=first|omega|(simp only [go_sem];omega)) only [go_sem,seval,Nat.reduceEqDiff,Nat.reduceLeDiff,hn,hc4]))
   (refine goM (rWrite_ok m (flR fl k) k (filled fl[k]) (by omega)) ((hs4.perm (l':=RefA m (flR fl k)::CellA w [.gp p 0,.nilP,.gp m 0,.nilP,.int .i64 0,.int .i64 0,.int .i64 f,.int .i64 n]::DiskA p (flR fl k)::[]) (by (repeat (first|exact List.Perm.refl _|with_reducible refine sp0 ?_|with_reducible refine sp1 ?_|with_reducible refine sp2 ?_|with_reducible refine sp3 ?_|with_reducible refine sp4 ?_|with_reducible refine sp5 ?_|with_reducible refine sp6 ?_|with_reducible refine sp7 ?_|with_reducible refine sp8 ?_|with_reducible refine sp9 ?_|with_reducible refine sp10 ?_|with_reducible refine sp11 ?_))))) ?_)
   rintro _ _ G5 ⟨rfl,rfl⟩ hs5'
   rw [hfd] at hs5'
   have hs5:Sep (RefA m (flR fl (k+1))::CellA w [.gp p 0,.nilP,.gp m 0,.nilP,.int .i64 0,.int .i64 0,.int .i64 f,.int .i64 n]::DiskA p (flR fl k)::[]) G5:=hs5'
   clear hs5'
   have hc5:=hs5.swap.get
   refine goS hc5 ?_
   (repeat' (first|(with_reducible first|refine W.seq ?_|refine W.block ?_)|((first|(with_reducible first|refine W.reg ?_|refine W.skip ?_|refine W.exit ?_|refine W.ret ?_|refine W.ifc ?_)|(apply wC_P (Filled_ok fl[k]);(focus (simp -dsimp (disch:=first|omega|(simp only [go_sem];omega)) only [go_sem,seval,Nat.reduceEqDiff,Nat.reduceLeDiff]<;>rfl));rintro _ rfl)|((with_reducible first|refine wG_decE (fun _ hG=>?_) (fun _ hG=>?_)|refine wG_decFE (fun _ hG=>?_) (fun _ hG=>?_))<;>(try simp -dsimp only [hG,decide_true,decide_false,not_true_eq_false,not_false_eq_true])<;>clear hG))<;>(try simp -dsimp (disch:=first|omega|(simp only [go_sem];omega)) only [go_sem,seval,Nat.reduceEqDiff,Nat.reduceLeDiff,hc5]))|simp -dsimp (disch:=first|omega|(simp only [go_sem];omega)) only [go_sem,seval,Nat.reduceEqDiff,Nat.reduceLeDiff,hc5]))
   (refine goM (Write_ok p (flR fl k) k (filled fl[k]) (by omega)) ((hs5.perm (l':=DiskA p (flR fl k)::CellA w [.gp p 0,.nilP,.gp m 0,.nilP,.int .i64 0,.int .i64 0,.int .i64 f,.int .i64 n]::RefA m (flR fl (k+1))::[]) (by (repeat (first|exact List.Perm.refl _|with_reducible refine sp0 ?_|with_reducible refine sp1 ?_|with_reducible refine sp2 ?_|with_reducible refine sp3 ?_|with_reducible refine sp4 ?_|with_reducible refine sp5 ?_|with_reducible refine sp6 ?_|with_reducible refine sp7 ?_|with_reducible refine sp8 ?_|with_reducible refine sp9 ?_|with_reducible refine sp10 ?_|with_reducible refine sp11 ?_))))) ?_)
   rintro _ _ G6 ⟨rfl,rfl⟩ hs6'
   rw [hfd] at hs6'
   have hs6:Sep (DiskA p (flR fl (k+1))::CellA w [.gp p 0,.nilP,.gp m 0,.nilP,.int .i64 0,.int .i64 0,.int .i64 f,.int .i64 n]::RefA m (flR fl (k+1))::[]) G6:=hs6'
   clear hs6'
   refine goS hw1 ?_
   (repeat' (first|(with_reducible first|refine W.seq ?_|refine W.block ?_)|((first|(with_reducible first|refine W.reg ?_|refine W.skip ?_|refine W.exit ?_|refine W.ret ?_|refine W.ifc ?_)|((with_reducible first|refine wG_decE (fun _ hG=>?_) (fun _ hG=>?_)|refine wG_decFE (fun _ hG=>?_) (fun _ hG=>?_))<;>(try simp -dsimp only [hG,decide_true,decide_false,not_true_eq_false,not_false_eq_true])<;>clear hG))<;>(try simp -dsimp (disch:=first|omega|(simp only [go_sem];omega)) only [go_sem,seval,Nat.reduceEqDiff,Nat.reduceLeDiff,hw1]))|simp -dsimp (disch:=first|omega|(simp only [go_sem];omega)) only [go_sem,seval,Nat.reduceEqDiff,Nat.reduceLeDiff,hw1]))
   refine⟨_,_,?_,stle,k+1,_,G6,by omega,rfl,hs6.swap,rfl⟩
   omega
 obtain rfl:k=fl.length:=by omega
 refine goR trivial ?_
 have hiv0:Iv (flR fl fl.length) false f n 1:=⟨hL.ok,hlen,by have:=hL.st;omega,fun e=>by cases e⟩
 clear hlen hc4
 generalize flR fl fl.length=d0 at hs4 hL hiv0
 have hst0:=hiv0.st
 cases fm
 case' true =>
  have hc4:=hs4.get
  have hiv1:Iv (fmtR d0 f n).1 false f n 2:=hiv0.up (fmtR_iv hiv0.ok hiv0.len (by omega))
  refine goS hc4 ?_
  (repeat' (first|(with_reducible first|refine W.seq ?_|refine W.block ?_)|((first|(with_reducible first|refine W.reg ?_|refine W.skip ?_|refine W.exit ?_|refine W.ret ?_|refine W.ifc ?_)|((with_reducible first|refine wG_decE (fun _ hG=>?_) (fun _ hG=>?_)|refine wG_decFE (fun _ hG=>?_) (fun _ hG=>?_))<;>(try simp -dsimp only [hG,decide_true,decide_false,not_true_eq_false,not_false_eq_true])<;>clear hG))<;>(try simp -dsimp (disch:=first|omega|(simp only [go_sem];omega)) only [go_sem,seval,Nat.reduceEqDiff,Nat.reduceLeDiff,hc4]))|simp -dsimp (disch:=first|omega|(simp only [go_sem];omega)) only [go_sem,seval,Nat.reduceEqDiff,Nat.reduceLeDiff,hc4]))
  (refine goM (Format_ok p d0 f n (by omega)) ((hs4.perm (l':=DiskA p d0::CellA w [.gp p 0,.nilP,.gp m 0,.nilP,.int .i64 0,.int .i64 0,.int .i64 f,.int .i64 n]::RefA m d0::[]) (by (repeat (first|exact List.Perm.refl _|with_reducible refine sp0 ?_|with_reducible refine sp1 ?_|with_reducible refine sp2 ?_|with_reducible refine sp3 ?_|with_reducible refine sp4 ?_|with_reducible refine sp5 ?_|with_reducible refine sp6 ?_|with_reducible refine sp7 ?_|with_reducible refine sp8 ?_|with_reducible refine sp9 ?_|with_reducible refine sp10 ?_|with_reducible refine sp11 ?_))))) ?_)
  rintro _ _ G5 ⟨rfl,rfl⟩ hs5'
  have hs5:Sep (DiskA p (fmtR d0 f n).1::CellA w [.gp p 0,.nilP,.gp m 0,.nilP,.int .i64 0,.int .i64 0,.int .i64 f,.int .i64 n]::RefA m d0::[]) G5:=hs5'
  clear hs5'
  have hc5:=hs5.swap.get
  refine goS (nn hc4 hc5) ?_
  refine goR (nn hc4 hc5) ?_
  (refine goM (rFormat_ok m d0 f n (by omega)) ((hs5.perm (l':=RefA m d0::CellA w [.gp p 0,.nilP,.gp m 0,.nilP,.int .i64 0,.int .i64 0,.int .i64 f,.int .i64 n]::DiskA p (fmtR d0 f n).1::[]) (by (repeat (first|exact List.Perm.refl _|with_reducible refine sp0 ?_|with_reducible refine sp1 ?_|with_reducible refine sp2 ?_|with_reducible refine sp3 ?_|with_reducible refine sp4 ?_|with_reducible refine sp5 ?_|with_reducible refine sp6 ?_|with_reducible refine sp7 ?_|with_reducible refine sp8 ?_|with_reducible refine sp9 ?_|with_reducible refine sp10 ?_|with_reducible refine sp11 ?_))))) ?_)
  rintro _ _ G6 ⟨rfl,rfl⟩ hs6'
  have hs6:Sep (RefA m (fmtR d0 f n).1::CellA w [.gp p 0,.nilP,.gp m 0,.nilP,.int .i64 0,.int .i64 0,.int .i64 f,.int .i64 n]::DiskA p (fmtR d0 f n).1::[]) G6:=hs6'
  clear hs6'
  have hs7:Sep (CellA w [.gp p 0,.nilP,.gp m 0,.nilP,.int .i64 0,.int .i64 0,.int .i64 f,.int .i64 n]::DiskA p (fmtR d0 f n).1::RefA m (fmtR d0 f n).1::[]) G6:=hs6.perm (by (repeat (first|exact List.Perm.refl _|with_reducible refine sp0 ?_|with_reducible refine sp1 ?_|with_reducible refine sp2 ?_|with_reducible refine sp3 ?_|with_reducible refine sp4 ?_|with_reducible refine sp5 ?_|with_reducible refine sp6 ?_|with_reducible refine sp7 ?_|with_reducible refine sp8 ?_|with_reducible refine sp9 ?_|with_reducible refine sp10 ?_|with_reducible refine sp11 ?_)))
  refine goS trivial ?_
  (repeat' (first|(with_reducible first|refine W.seq ?_|refine W.block ?_)|((first|(with_reducible first|refine W.reg ?_|refine W.skip ?_|refine W.exit ?_|refine W.ret ?_|refine W.ifc ?_)|((with_reducible first|refine wG_decE (fun _ hG=>?_) (fun _ hG=>?_)|refine wG_decFE (fun _ hG=>?_) (fun _ hG=>?_))<;>(try simp -dsimp only [hG,decide_true,decide_false,not_true_eq_false,not_false_eq_true])<;>clear hG))<;>(try simp -dsimp (disch:=first|omega|(simp only [go_sem];omega)) only [go_sem,seval,Nat.reduceEqDiff,Nat.reduceLeDiff]))|simp -dsimp (disch:=first|omega|(simp only [go_sem];omega)) only [go_sem,seval,Nat.reduceEqDiff,Nat.reduceLeDiff]))
  clear hs5 hs6 hs4 hc4 hc5 hiv0 hL
  generalize (fmtR d0 f n).1=d1 at hs7 hiv1 ⊢
 case' false =>
  have hiv1:Iv d0 false f n 2:=hiv0.up ((Up.refl hiv0.ok).mono (by omega))
  have hs7:=hs4
  refine goS trivial ?_
  (repeat' (first|(with_reducible first|refine W.seq ?_|refine W.block ?_)|((first|(with_reducible first|refine W.reg ?_|refine W.skip ?_|refine W.exit ?_|refine W.ret ?_|refine W.ifc ?_)|((with_reducible first|refine wG_decE (fun _ hG=>?_) (fun _ hG=>?_)|refine wG_decFE (fun _ hG=>?_) (fun _ hG=>?_))<;>(try simp -dsimp only [hG,decide_true,decide_false,not_true_eq_false,not_false_eq_true])<;>clear hG))<;>(try simp -dsimp (disch:=first|omega|(simp only [go_sem];omega)) only [go_sem,seval,Nat.reduceEqDiff,Nat.reduceLeDiff]))|simp -dsimp (disch:=first|omega|(simp only [go_sem];omega)) only [go_sem,seval,Nat.reduceEqDiff,Nat.reduceLeDiff]))
  clear hs4 hiv0 hL
  revert hs7 hiv1
  generalize d0=d1
  generalize G4=G6
  intro hiv1 hs7
 all_goals
  have hst1:=hiv1.st
  have hu:=openR_iv (f:=f) (n:=n) hiv1.ok hiv1.len (by omega)
  have hiv2:Iv (openR d1 f n).1 (decide ((openR d1 f n).2.2=0)) f n 3:=⟨hu.1.1,hu.1.2.1.trans hiv1.len,by have:=hu.1.2.2;omega,fun e=>hu.2 (by simpa using e)⟩
  (refine goM (open22_ok w p m d1 .nilP .nilP (.int .i64 0) (.int .i64 0) f n (by omega)) ((show Sep ([CellA w [.gp p 0,.nilP,.gp m 0,.nilP,.int .i64 0,.int .i64 0,.int .i64 f,.int .i64 n],DiskA p d1,RefA m d1] ++ []) G6 from hs7)) ?_)
  rintro _ _ G7 ⟨rfl,q,rfl⟩ hs8
  clear hs7 hu hst1
  generalize (openR d1 f n).1=d2 at hs8 hiv2
  generalize decide ((openR d1 f n).2.2=0)=o2 at hs8 hiv2
  refine goS trivial ?_
  (repeat' (first|(with_reducible first|refine W.seq ?_|refine W.block ?_)|((first|(with_reducible first|refine W.reg ?_|refine W.skip ?_|refine W.exit ?_|refine W.ret ?_|refine W.ifc ?_)|((with_reducible first|refine wG_decE (fun _ hG=>?_) (fun _ hG=>?_)|refine wG_decFE (fun _ hG=>?_) (fun _ hG=>?_))<;>(try simp -dsimp only [hG,decide_true,decide_false,not_true_eq_false,not_false_eq_true])<;>clear hG))<;>(try simp -dsimp (disch:=first|omega|(simp only [go_sem];omega)) only [go_sem,seval,Nat.reduceEqDiff,Nat.reduceLeDiff]))|simp -dsimp (disch:=first|omega|(simp only [go_sem];omega)) only [go_sem,seval,Nat.reduceEqDiff,Nat.reduceLeDiff]))
  refine W.loop (fun z st=>∃ (k p m q:Nat) (d:Dk) (o:Bool) (b4 b13:Blk) (G:Gh),k≤l.length∧z=l.length - k∧Iv d o f n (k+3)∧Sep (WO w p m d f n o q ++ []) G ∧
   st=(E [(9,.d (.gp w 0)),(96,.d (.list (l.map eQ))),(97,.d (.int .i64 l.length)),(98,.d (.int .i64 k))],HB [(4,b4),(13,b13)],[],G))
   ⟨_,_,stleB (HB_pad [(4,b4)] [13] rfl).symm,0,p,m,q,d2,o2,_,_,G7,by omega,rfl,hiv2,hs8,rfl⟩ ?_
  clear hs8 hiv2 hiv1
  rintro z st ⟨k,p1,m1,q1,d,o,c4,c13,G8,hk,rfl,hiv,hs9,rfl⟩
  have hstd:=hiv.st
  refine goR trivial ?_
  refine wG_dec (fun g2=>?_) (fun g2=>?_)
  · have hk':k < l.length:=by omega
    have hn:(List.map eQ l)[k]?=some (eQ l[k]):=by rw [List.getElem?_map,List.getElem?_eq_getElem hk'];rfl
    have hwk:=hw l[k] (List.getElem_mem hk')
    have hivn:=doR_iv hiv (by omega) l[k] hwk
    have hpt:=hiv.part
    have hdo:=do22_ok w p1 m1 q1 d o f n l[k] hwk (by omega) (fun e=>by have:=hpt e;omega)
    generalize doR d o f n l[k]=dd at hivn hdo
    (repeat' (first|(with_reducible first|refine W.seq ?_|refine W.block ?_)|((first|(with_reducible first|refine W.reg ?_|refine W.skip ?_|refine W.exit ?_|refine W.ret ?_|refine W.ifc ?_)|((with_reducible first|refine wG_decE (fun _ hG=>?_) (fun _ hG=>?_)|refine wG_decFE (fun _ hG=>?_) (fun _ hG=>?_))<;>(try simp -dsimp only [hG,decide_true,decide_false,not_true_eq_false,not_false_eq_true])<;>clear hG))<;>(try simp -dsimp (disch:=first|omega|(simp only [go_sem];omega)) only [go_sem,seval,Nat.reduceEqDiff,Nat.reduceLeDiff,hn]))|simp -dsimp (disch:=first|omega|(simp only [go_sem];omega)) only [go_sem,seval,Nat.reduceEqDiff,Nat.reduceLeDiff,hn]))
    (refine goM (hdo) (hs9) ?_)
    rintro _ _ G9 ⟨rfl,p2,m2,q2,rfl⟩ hs10
    have hq:=same22W_ok w p2 m2 q2 dd.1 dd.2 f n hs10
    refine goS trivial ?_
    (repeat' (first|(with_reducible first|refine W.seq ?_|refine W.block ?_)|((first|(with_reducible first|refine W.reg ?_|refine W.skip ?_|refine W.exit ?_|refine W.ret ?_|refine W.ifc ?_)|(apply wC_Q (hq);(focus (simp -dsimp (disch:=first|omega|(simp only [go_sem];omega)) only [go_sem,seval,Nat.reduceEqDiff,Nat.reduceLeDiff]<;>rfl));rintro _ rfl)|((with_reducible first|refine wG_decE (fun _ hG=>?_) (fun _ hG=>?_)|refine wG_decFE (fun _ hG=>?_) (fun _ hG=>?_))<;>(try simp -dsimp only [hG,decide_true,decide_false,not_true_eq_false,not_false_eq_true])<;>clear hG))<;>(try simp -dsimp (disch:=first|omega|(simp only [go_sem];omega)) only [go_sem,seval,Nat.reduceEqDiff,Nat.reduceLeDiff]))|simp -dsimp (disch:=first|omega|(simp only [go_sem];omega)) only [go_sem,seval,Nat.reduceEqDiff,Nat.reduceLeDiff]))
    refine⟨_,_,?_,stle,k+1,p2,m2,q2,dd.1,dd.2,_,_,G9,by omega,rfl,?_,hs10,rfl⟩
    · omega
    · have e:((k+1:Nat):Int)+3=(k:Int)+3+1:=by omega
      rw [e];exact hivn
  · obtain rfl:k=l.length:=by omega
    refine goR trivial ?_
    (refine goM (sanity22_ok) ((show Sep ([] ++ (WO w p1 m1 d f n o q1 ++ [])) G8 from hs9)) ?_)
    rintro _ _ G9 ⟨rfl,rfl⟩ hs10
    have hq:=same22W_ok w p1 m1 q1 d o f n (R:=[]) hs10
    refine goS trivial ?_
    (repeat' (first|(with_reducible first|refine W.seq ?_|refine W.block ?_)|((first|(with_reducible first|refine W.reg ?_|refine W.skip ?_|refine W.exit ?_|refine W.ret ?_|refine W.ifc ?_)|(apply wC_Q (hq);(focus (simp -dsimp (disch:=first|omega|(simp only [go_sem];omega)) only [go_sem,seval,Nat.reduceEqDiff,Nat.reduceLeDiff]<;>rfl));rintro _ rfl)|((with_reducible first|refine wG_decE (fun _ hG=>?_) (fun _ hG=>?_)|refine wG_decFE (fun _ hG=>?_) (fun _ hG=>?_))<;>(try simp -dsimp only [hG,decide_true,decide_false,not_true_eq_false,not_false_eq_true])<;>clear hG))<;>(try simp -dsimp (disch:=first|omega|(simp only [go_sem];omega)) only [go_sem,seval,Nat.reduceEqDiff,Nat.reduceLeDiff]))|simp -dsimp (disch:=first|omega|(simp only [go_sem];omega)) only [go_sem,seval,Nat.reduceEqDiff,Nat.reduceLeDiff]))
    exact Fin.eq rfl ⟨rfl,_,.refl _,rfl⟩
end Go.Proofs.Ytioojmlhmhgeeaa
