/-
 Layer 40 (txn): the specification's Run.
 Conditions: of each contract as it says.
-/
import Derived.Test.YtlejjdbmmdghmaaQ4
import Derived.Test.YtlejjdbmmdghmaaX12
import Derived.Test.YtlejjdbmmdghmaaF22c
set_option linter.unusedSimpArgs false
namespace Go.Proofs.Ytlejjdbmmdghmaa
open Go Go.E2 C22 C40
set_option maxHeartbeats 4000000
structure RunP where
 is:Bool
 e:Int
 r0:RS
 r1:RS
def qE (l:List Tw) (id:Int) (r:RS):Int:=if l=[] then 0 else (zet r id l).1
def qS (l:List Tw) (id:Int) (r:RS):RS:=if l=[] then r else (zet r id l).2
def qD (l:List Tw) (id:Int) (c:Bool) (r:RS):RS:=if l=[] then r else (zki r id c).2
def zi1 (d:RD) (r0 r1:RS) (id:Int) (l0 l1:List Tw):RunP :=
 if zc2 [l0,l1]=false∨¬ zb8 id then ⟨false,1,r0,r1⟩ else
 if id∈d.1 then ⟨false,9,r0,r1⟩ else
 if qE l0 id r0≠0 then ⟨false,qE l0 id r0,r0,r1⟩ else
 if qE l1 id r1≠0 then ⟨false,qE l1 id r1,qD l0 id false (qS l0 id r0),r1⟩ else
 if (zib d id).1≠0 then ⟨false,(zib d id).1,qS l0 id r0,qS l1 id r1⟩ else
 ⟨true,0,qD l0 id true (qS l0 id r0),qD l1 id true (qS l1 id r1)⟩
abbrev gS (b c:Nat):D:=.gs b 0 2 c
abbrev z1p (d:RD) (x:D) (is:Bool) (e:Int):D:=.agg [.list (d.1.map eI),.int .i64 d.2,x,.bool is,.int .i64 e]
theorem ztc {ps:List (List Tw)} {k:Nat} (hk:k<ps.length):zc2 (ps.take (k+1))=(zc2 (ps.take k) || decide (ps[k]≠[])):=by
 have htk:ps.take (k+1)=ps.take k++[ps[k]]:=by rw [List.take_add_one,List.getElem?_eq_getElem hk];rfl
 unfold zc2
 rw [htk,List.any_append]
 simp only [List.any_cons,List.any_nil,Bool.or_false]
theorem zyn (d:RD) (b9 c9:Nat) (id:Int) (ps:List (List Tw)) (hL:ps.length≤9223372036854775807) (hd:d.1.length≤1000) (h:ps.length≠2∨zc2 ps=false∨¬ zb8 id) :
 zba Try.prog f_zz30 [eRD d,gS b9 c9,.int .i64 id,.list (ps.map eL)] (·=.d (z1p d (gS b9 c9) false 1)):=by
 refine zal fol zz30_cp ?_
 have hposs:=zfz id
 have hall:=zry ps
 obtain ⟨dl,room⟩:=d
 refine goS trivial ?_
 refine goR trivial ?_
 refine W.loop (fun z st=>∃ (k:Nat) (b:Bool),z+k=ps.length∧b=zc2 (ps.take k) ∧
  st=(E [(1,.d (gS b9 c9)),(2,.d (.int .i64 id)),(3,.d (.list (ps.map eL))),(4,.ptr 0 4 1 0),(8,.ptr 0 8 1 0),(9,.d (.bool b)),(10,.d (.int .i64 (k:Nat)))],HB [(4,⟨1,some [.list (dl.map eI),.int .i64 room]⟩),(8,⟨1,some [.nilS,.int .i64 0,.nilS,.bool false,.int .i64 0]⟩)],[],zdi))
  ⟨_,_,zt rfl,0,false,rfl,rfl,rfl⟩ ?_
 rintro z st ⟨k,b,hk,hb,rfl⟩
 by_cases hlt:k<ps.length
 · have hlt':(k:Int)<(ps.length:Int):=by omega
   have hst:=ztc hlt
   rw [← hb] at hst
   cases b with
   | true =>
    (refine goX (nn hlt' hall) ?_;(repeat' (with_reducible apply Br.mk<;>intro _)))
    exact ⟨z - 1,_,by omega,zt rfl,k+1,true,by omega,hst.symm,rfl⟩
   | false =>
    by_cases he:ps[k]=[]
    · have e1:(0<(ps[k].length:Int))=False:=eq_false (by rw [he];simp)
      rw [decide_eq_false (by simpa using he)] at hst
      (refine goX (nn hlt' (nn hall e1)) ?_;(repeat' (with_reducible apply Br.mk<;>intro _)))
      exact ⟨z - 1,_,by omega,zt rfl,k+1,false,by omega,hst.symm,rfl⟩
    · have e1:(0<(ps[k].length:Int))=True:=eq_true (by have:=List.length_pos_iff.2 he;omega)
      rw [decide_eq_true he] at hst
      (refine goX (nn hlt' (nn hall e1)) ?_;(repeat' (with_reducible apply Br.mk<;>intro _)))
      exact ⟨z - 1,_,by omega,zt rfl,k+1,true,by omega,hst.symm,rfl⟩
 have hx:((k:Int)<(ps.length:Int))=False:=eq_false (by omega)
 rw [show k=ps.length by omega,List.take_length] at hb
 by_cases c1:ps.length=2
 · have e1:((ps.length:Int)=2)=True:=eq_true (by omega)
   cases b with
   | false =>
    by_cases c2:zb8 id
    · rw [decide_eq_true c2] at hposs
      (refine zb1 (nn hx e1) (hposs) ?_;(repeat' (with_reducible apply Br.mk<;>intro _)))
      exact Fin.p rfl rfl
    · rw [decide_eq_false c2] at hposs
      (refine zb1 (nn hx e1) (hposs) ?_;(repeat' (with_reducible apply Br.mk<;>intro _)))
      exact Fin.p rfl rfl
   | true =>
    have c2:¬ zb8 id:=by
     rcases h with h|h|h
     · exact absurd c1 h
     · rw [← hb] at h;cases h
     · exact h
    rw [decide_eq_false c2] at hposs
    (refine zb1 (nn hx e1) (hposs) ?_;(repeat' (with_reducible apply Br.mk<;>intro _)))
    exact Fin.p rfl rfl
 · have e1:((ps.length:Int)=2)=False:=eq_false (by omega)
   by_cases c2:zb8 id
   · rw [decide_eq_true c2] at hposs
     (refine zb1 (nn hx e1) (hposs) ?_;(repeat' (with_reducible apply Br.mk<;>intro _)))
     exact Fin.p rfl rfl
   · rw [decide_eq_false c2] at hposs
     (refine zb1 (nn hx e1) (hposs) ?_;(repeat' (with_reducible apply Br.mk<;>intro _)))
     exact Fin.p rfl rfl
theorem NowP.get0 {cap:Nat} {t0 t1:RS} {cs:List D} (h:Row 2 2 cap [eRS t0,eRS t1] cs):zbg true 2 (some cs) 0=some (.d (eRS t0))∧(2≤cs.length):=by
 have:=h.idx (i:=0) (by simp)
 have h2:=h.fits (i:=0) (by simp)
 exact ⟨this,by omega⟩
theorem NowP.get1 {cap:Nat} {t0 t1:RS} {cs:List D} (h:Row 2 2 cap [eRS t0,eRS t1] cs):zbg true 2 (some cs) 2=some (.d (eRS t1))∧(4≤cs.length):=by
 have:=h.idx (i:=1) (by simp)
 have h2:=h.fits (i:=1) (by simp)
 exact ⟨this,by omega⟩
theorem zi9 {b cap:Nat} {t0 t1:RS} {Q:List As} {G:Gh} {cs:List D} (h:Sep (SlA 2 (gS b cap) [eRS t0,eRS t1]::Q) G) (hr:Row 2 2 cap [eRS t0,eRS t1] cs) (t:RS):Sep (SlA 2 (gS b cap) [eRS t,eRS t1]::Q) (G.set b (some (zbv cs (eRS t).cells 0))):=by
 have:=hr.set (i:=0) (x:=eRS t) (by simp) rfl
 exact Sep.slSet h this
theorem zmt {b cap:Nat} {t0 t1:RS} {Q:List As} {G:Gh} {cs:List D} (h:Sep (SlA 2 (gS b cap) [eRS t0,eRS t1]::Q) G) (hr:Row 2 2 cap [eRS t0,eRS t1] cs) (t:RS):Sep (SlA 2 (gS b cap) [eRS t0,eRS t]::Q) (G.set b (some (zbv cs (eRS t).cells 2))):=by
 have:=hr.set (i:=1) (x:=eRS t) (by simp) rfl
 exact Sep.slSet h this
theorem zby {b cap:Nat} {t0 t1:RS} {Q:List As} {G:Gh} (h:Sep (SlA 2 (gS b cap) [eRS t0,eRS t1]::Q) G):∃ cs,G.c b=some cs∧Row 2 2 cap [eRS t0,eRS t1] cs:=by
 obtain ⟨b',cap',cs,e,hb,hr⟩:=h.gv.inv (by simp)
 injection e with e1 _ _ e4
 subst e1;subst e4
 exact ⟨cs,hb,hr⟩
structure RSm (r:RS):Prop where
 v1:1≤r.1.length
 v2:r.1.length≤1000
 p:r.2.length≤900
 rg:∀ p∈r.2,Rgt r.1.length p.2
theorem RSm.pl {r:RS} (h:RSm r):∀ p∈r.2,p.2.length≤1000:=fun p hp=>by have:=(h.rg p hp).2.2.2;omega
theorem zrq {r:RS} (h:RSm r) (id:Int) {l:List Tw} (hl:l≠[]) (hL:l.length≤9223372036854775807):zba Try.prog f_zz10 [eRS r,.int .i64 id,eL l] (·=.d (.agg [.list ((qS l id r).1.map eVl),.list ((qS l id r).2.map ePr),.int .i64 (qE l id r)])):=by
 have:=zmq r id l hL (by have:=h.p;omega) h.pl
 unfold qS qE
 rw [if_neg hl,if_neg hl]
 exact this
theorem zp7 {r:RS} (h:RSm r) (id:Int) (c:Bool) {l:List Tw} (hl:l≠[]):zba Try.prog f_zz12 [eRS r,.int .i64 id,.bool c] (·=.d (.agg [.list ((qD l id c r).1.map eVl),.list ((qD l id c r).2.map ePr),.int .i64 (zki r id c).1])):=by
 have:=zp5 r id c h.v1 h.v2 (by have:=h.p;omega) h.rg
 unfold qD
 rw [if_neg hl]
 exact this
theorem zrr {id:Int} {l:List Tw}:∀ {ps:List (Int×List Tw)} {p:Int×List Tw},p∈zmp id l ps↔p=(id,l)∨p∈ps
 | [],p=>by simp [zmp]
 | q::ps,p=>by
   unfold zmp
   split
   · simp
   · rw [List.mem_cons,zrr];simp only [List.mem_cons]
     constructor
     · rintro (h|h|h)
       · exact .inr (.inl h)
       · exact .inl h
       · exact .inr (.inr h)
     · rintro (h|h|h)
       · exact .inr (.inl h)
       · exact .inl h
       · exact .inr (.inr h)
theorem zrs (id:Int) (l:List Tw):∀ ps:List (Int×List Tw),(zmp id l ps).length=ps.length+1
 | []=>rfl
 | q::ps=>by
   unfold zmp
   split
   · simp
   · simp [zrs id l ps]
theorem RSm.qS {r:RS} (h:RSm r) (l:List Tw) (id:Int):RSm (qS l id r):=by
 unfold Ytlejjdbmmdghmaa.qS
 split
 · exact h
 unfold zet
 (repeat' split)<;>first|exact h|skip
 rename_i c1 c2 c3 c4 c5
 have hr:Rgt r.1.length l:=Classical.byContradiction fun h'=>c1 (.inr h')
 refine ⟨h.v1,h.v2,?_,fun p hp=>?_⟩
 · show (zmp id l r.2).length≤900
   rw [zrs];omega
 · rcases zrr.1 hp with rfl|hp
   · exact hr
   · exact h.rg p hp
theorem zyo (b9 c9:Nat) (d:RD) (r0 r1:RS) (id:Int) (l0 l1:List Tw) (hd:d.1.length≤900) (h0:RSm r0) (h1:RSm r1) (hl0:l0.length≤9223372036854775807) (hl1:l1.length≤9223372036854775807) (hid:zb8 id) (hso:zc2 [l0,l1]=true) :
 zy Try.prog f_zz30 [eRD d,gS b9 c9,.int .i64 id,.list [eL l0,eL l1]] [SlA 2 (gS b9 c9) [eRS r0,eRS r1]]
  (fun x post=>∃ b cap,x=.d (z1p d (gS b cap) (zi1 d r0 r1 id l0 l1).is (zi1 d r0 r1 id l0 l1).e)∧post=[SlA 2 (gS b cap) [eRS (zi1 d r0 r1 id l0 l1).r0,eRS (zi1 d r0 r1 id l0 l1).r1]]):=by
 refine zg fol zz30_cp fun Q0 G9 σ hs=>?_
 have hs:Sep (SlA 2 (gS b9 c9) [eRS r0,eRS r1]::Q0) G9:=hs
 have hposs:=zfz id
 have hhas:=zkk d id (by omega)
 have hrec:=zv0 d id (by omega)
 rw [decide_eq_true hid] at hposs
 have hall:([r0,r1].map eRS).all (zb 2)=true:=rfl
 have hR:zi1 d r0 r1 id l0 l1=if id∈d.1 then ⟨false,9,r0,r1⟩ else
  if qE l0 id r0≠0 then ⟨false,qE l0 id r0,r0,r1⟩ else
  if qE l1 id r1≠0 then ⟨false,qE l1 id r1,qD l0 id false (qS l0 id r0),r1⟩ else
  if (zib d id).1≠0 then ⟨false,(zib d id).1,qS l0 id r0,qS l1 id r1⟩ else
  ⟨true,0,qD l0 id true (qS l0 id r0),qD l1 id true (qS l1 id r1)⟩:=if_neg (by rintro (h|h);rw [hso] at h;cases h;exact h hid)
 generalize zi1 d r0 r1 id l0 l1=RR at hR ⊢
 obtain ⟨dl,room⟩:=d
 simp only at hhas hR hd
 refine goS trivial ?_
 refine goR trivial ?_
 refine W.loop (fun z st=>∃ (k:Nat) (b:Bool),z+k=2∧(k=0∧b=false∨k=1∧b=decide (l0≠[])∨k=2∧b=true) ∧
  st=(E [(1,.d (gS b9 c9)),(2,.d (.int .i64 id)),(3,.d (.list [eL l0,eL l1])),(4,.ptr 0 4 1 0),(8,.ptr 0 8 1 0),(9,.d (.bool b)),(10,.d (.int .i64 (k:Nat)))],HB [(4,⟨1,some [.list (dl.map eI),.int .i64 room]⟩),(8,⟨1,some [.nilS,.int .i64 0,.nilS,.bool false,.int .i64 0]⟩)],σ,G9))
  ⟨2,_,zt rfl,0,false,rfl,.inl ⟨rfl,rfl⟩,rfl⟩ ?_
 rintro z st ⟨k,b,hk,hb,rfl⟩
 rcases hb with ⟨rfl,rfl⟩|⟨rfl,hb⟩|⟨rfl,rfl⟩
 · by_cases hl:l0=[]
   · have e1:(0<(l0.length:Int))=False:=eq_false (by rw [hl];simp)
     (refine goX e1 ?_;(repeat' (with_reducible apply Br.mk<;>intro _)))
     exact ⟨z - 1,_,by omega,zt rfl,1,false,by omega,.inr (.inl ⟨rfl,by rw [decide_eq_false (by simpa using hl)]⟩),rfl⟩
   · have e1:(0<(l0.length:Int))=True:=eq_true (by have:=List.length_pos_iff.2 hl;omega)
     (refine goX e1 ?_;(repeat' (with_reducible apply Br.mk<;>intro _)))
     exact ⟨z - 1,_,by omega,zt rfl,1,true,by omega,.inr (.inl ⟨rfl,by rw [decide_eq_true hl]⟩),rfl⟩
 · cases b with
   | true =>
    (refine goX trivial ?_;(repeat' (with_reducible apply Br.mk<;>intro _)))
    exact ⟨z - 1,_,by omega,zt rfl,2,true,by omega,.inr (.inr ⟨rfl,rfl⟩),rfl⟩
   | false =>
    have hl:l1≠[]:=fun h=>by
     have h0:l0=[]:=Classical.byContradiction fun h'=>by rw [decide_eq_true h'] at hb;cases hb
     rw [h0,h] at hso;simp [zc2] at hso
    have e1:(0<(l1.length:Int))=True:=eq_true (by have:=List.length_pos_iff.2 hl;omega)
    (refine goX e1 ?_;(repeat' (with_reducible apply Br.mk<;>intro _)))
    exact ⟨z - 1,_,by omega,zt rfl,2,true,by omega,.inr (.inr ⟨rfl,rfl⟩),rfl⟩
 by_cases c1:id∈dl
 · rw [decide_eq_true c1] at hhas
   rw [if_pos c1] at hR
   (refine znq trivial (hposs) (hhas) ?_;(repeat' (with_reducible apply Br.mk<;>intro _)))
   subst hR
   exact Fin.eq rfl ⟨rfl,_,⟨b9,c9,rfl,rfl⟩,hs⟩
 rw [decide_eq_false c1] at hhas
 rw [if_neg c1] at hR
 (refine znq trivial (hposs) (hhas) ?_;(repeat' (with_reducible apply Br.mk<;>intro _)))
 refine zam fun b0 hb0=>?_
 have h00:Sep (SlA 2 (.gs b0 0 0 0) []::SlA 2 (gS b9 c9) [eRS r0,eRS r1]::Q0) (G9.set b0 (some (zag []))):=Sep.toSl (Sep.new hb0 hs) (Row.mk' (sz:=2) (n:=0) (cap:=0) (es:=[]) (rest:=[]) rfl rfl (by omega) (by simp [zag]))
 have hv9:=h00.tail.gv.view
 refine goS trivial ?_
 (refine goX trivial ?_;(repeat' (with_reducible apply Br.mk<;>intro _)))
 refine za0 (es2:=[eRS r0,eRS r1]) (m:=2) h00.gv hv9 rfl rfl rfl (by rw [zo];decide) fun x G hv hto=>?_
 have hN9:=h00.grow hto hv
 obtain ⟨b,cap,cs0,rfl,_,_⟩:=hv.inv (by simp)
 have hN0:Sep (SlA 2 (gS b cap) [eRS r0,eRS r1]::SlA 2 (gS b9 c9) [eRS r0,eRS r1]::Q0) G:=hN9
 clear hN9 hv hto hv9 h00
 have hl2:([]++[eRS r0,eRS r1]:List D).length=2:=rfl
 rw [hl2]
 refine goS trivial ?_
 (refine goX trivial ?_;(repeat' (with_reducible apply Br.mk<;>intro _)))
 refine W.loop (fun z st=>∃ (i:Nat) (t0 t1:RS) (b15:Blk) (G:Gh),z+i=2∧(i=0∧t0=r0∧t1=r1∨i=1∧qE l0 id r0=0∧t0=qS l0 id r0∧t1=r1∨i=2∧qE l0 id r0=0∧qE l1 id r1=0∧t0=qS l0 id r0∧t1=qS l1 id r1)∧Sep (SlA 2 (gS b cap) [eRS t0,eRS t1]::SlA 2 (gS b9 c9) [eRS r0,eRS r1]::Q0) G ∧
  st=(E [(2,.d (.int .i64 id)),(3,.d (.list [eL l0,eL l1])),(4,.ptr 0 4 1 0),(8,.ptr 0 8 1 0),(13,.d (.gs b 0 2 cap)),(14,.d (.int .i64 (i:Nat)))],HB [(4,⟨1,some [.list (dl.map eI),.int .i64 room]⟩),(8,⟨1,some [.nilS,.int .i64 0,.nilS,.bool false,.int .i64 0]⟩),(15,b15)],σ,G))
  ⟨2,_,zt (zcx [(4,⟨1,some [.list (dl.map eI),.int .i64 room]⟩),(8,⟨1,some [.nilS,.int .i64 0,.nilS,.bool false,.int .i64 0]⟩)] [15] rfl).symm,0,r0,r1,_,G,rfl,.inl ⟨rfl,rfl,rfl⟩,hN0,rfl⟩ ?_
 rintro z2 st ⟨i,t0,t1,b15,G1,hz2,hi,hN,rfl⟩
 clear hN0 hs
 generalize hQ2:SlA 2 (gS b9 c9) [eRS r0,eRS r1]::Q0=Q2 at hN
 have done:∀ {A B:RS} {G:Gh},Sep (SlA 2 (gS b cap) [eRS A,eRS B]::Q2) G→Sep ([SlA 2 (gS b cap) [eRS A,eRS B]]++Q0) G:=fun h=>by
  subst hQ2
  exact h.swap.tail
 rcases hi with ⟨rfl,rfl,rfl⟩|⟨rfl,q0,rfl,rfl⟩|⟨rfl,q0,q1,rfl,rfl⟩
 · by_cases hl:l0=[]
   · have e1:(0<(l0.length:Int))=False:=eq_false (by rw [hl];simp)
     (refine goX e1 ?_;(repeat' (with_reducible apply Br.mk<;>intro _)))
     exact ⟨z2 - 1,_,by omega,zt rfl,1,t0,t1,_,G1,by omega,.inr (.inl ⟨rfl,by unfold qE;rw [if_pos hl],by unfold qS;rw [if_pos hl],rfl⟩),hN,rfl⟩
   have e1:(0<(l0.length:Int))=True:=eq_true (by have:=List.length_pos_iff.2 hl;omega)
   have hprep:=zrq h0 id hl hl0
   obtain ⟨cs,hbc,hrow⟩:=zby hN
   obtain ⟨hc0,hc1⟩:=NowP.get0 hrow
   have zey:=zi9 hN hrow (qS l0 id t0)
   by_cases hz:qE l0 id t0=0
   · rw [hz] at hprep
     generalize hq:qS l0 id t0=tn at hprep zey
     (refine zb1 (nn e1 (nn hbc (nn hc0 hc1))) (hprep) ?_;(repeat' (with_reducible apply Br.mk<;>intro _)))
     exact ⟨z2 - 1,_,by omega,zt rfl,1,tn,t1,_,_,by omega,.inr (.inl ⟨rfl,hz,rfl,rfl⟩),zey,rfl⟩
   · rw [if_pos hz] at hR
     generalize qS l0 id t0=tn at hprep
     generalize qE l0 id t0=pe at hprep hR hz
     have hz':(pe=0)=False:=eq_false hz
     (refine zb1 (nn e1 (nn hbc (nn hc0 (nn hc1 hz')))) (hprep) ?_;(repeat' (with_reducible apply Br.mk<;>intro _)))
     refine W.loop (fun z st=>st=(E [(2,.d (.int .i64 id)),(3,.d (.list [eL l0,eL l1])),(4,.ptr 0 4 1 0),(8,.ptr 0 8 1 0),(13,.d (.gs b 0 2 cap)),(14,.d (.int .i64 0)),(15,.ptr 0 15 (b15.g+1) 0),(16,.d (.int .i64 0))],HB [(4,⟨1,some [.list (dl.map eI),.int .i64 room]⟩),(8,⟨1,some [.nilS,.int .i64 0,.nilS,.bool false,.int .i64 0]⟩),(15,⟨b15.g+1,some [.list (tn.1.map eVl),.list (tn.2.map ePr),.int .i64 pe]⟩)],σ,G1)) ⟨0,_,zt rfl,rfl⟩ ?_
     rintro z3 st rfl
     (refine goX trivial ?_;(repeat' (with_reducible apply Br.mk<;>intro _)))
     subst hR
     exact Fin.eq rfl ⟨rfl,_,⟨b,cap,rfl,rfl⟩,done hN⟩
 · have h0':=h0.qS l0 id
   rw [if_neg (by rw [q0];simp)] at hR
   generalize hT:qS l0 id r0=T0 at hN hR h0'
   by_cases hl:l1=[]
   · have e1:(0<(l1.length:Int))=False:=eq_false (by rw [hl];simp)
     (refine goX e1 ?_;(repeat' (with_reducible apply Br.mk<;>intro _)))
     exact ⟨z2 - 1,_,by omega,zt rfl,2,T0,t1,_,G1,by omega,.inr (.inr ⟨rfl,q0,by unfold qE;rw [if_pos hl],rfl,by unfold qS;rw [if_pos hl]⟩),hN,rfl⟩
   have e1:(0<(l1.length:Int))=True:=eq_true (by have:=List.length_pos_iff.2 hl;omega)
   have hprep:=zrq h1 id hl hl1
   obtain ⟨cs,hbc,hrow⟩:=zby hN
   obtain ⟨hc0,hc1⟩:=NowP.get1 hrow
   have zey:=zmt hN hrow (qS l1 id t1)
   by_cases hz:qE l1 id t1=0
   · rw [hz] at hprep
     generalize hq:qS l1 id t1=tn at hprep zey
     (refine zb1 (nn e1 (nn hbc (nn hc0 hc1))) (hprep) ?_;(repeat' (with_reducible apply Br.mk<;>intro _)))
     exact ⟨z2 - 1,_,by omega,zt rfl,2,T0,tn,_,_,by omega,.inr (.inr ⟨rfl,q0,hz,rfl,rfl⟩),zey,rfl⟩
   · rw [if_pos hz] at hR
     generalize qS l1 id t1=tn at hprep
     generalize qE l1 id t1=pe at hprep hR hz
     have hz':(pe=0)=False:=eq_false hz
     (refine zb1 (nn e1 (nn hbc (nn hc0 (nn hc1 hz')))) (hprep) ?_;(repeat' (with_reducible apply Br.mk<;>intro _)))
     refine W.loop (fun z st=>∃ (x:Nat) (U:RS) (G:Gh),z+x=1∧(x=0∧U=T0∨x=1∧U=qD l0 id false T0)∧Sep (SlA 2 (gS b cap) [eRS U,eRS t1]::Q2) G ∧
      st=(E [(2,.d (.int .i64 id)),(3,.d (.list [eL l0,eL l1])),(4,.ptr 0 4 1 0),(8,.ptr 0 8 1 0),(13,.d (.gs b 0 2 cap)),(14,.d (.int .i64 1)),(15,.ptr 0 15 (b15.g+1) 0),(16,.d (.int .i64 (x:Nat)))],HB [(4,⟨1,some [.list (dl.map eI),.int .i64 room]⟩),(8,⟨1,some [.nilS,.int .i64 0,.nilS,.bool false,.int .i64 0]⟩),(15,⟨b15.g+1,some [.list (tn.1.map eVl),.list (tn.2.map ePr),.int .i64 pe]⟩)],σ,G))
      ⟨1,_,zt rfl,0,T0,G1,rfl,.inl ⟨rfl,rfl⟩,hN,rfl⟩ ?_
     rintro z3 st ⟨x,U,G2,hx,hU,hN3,rfl⟩
     clear hN hbc hrow hc0 hc1 zey
     rcases hU with ⟨rfl,rfl⟩|⟨rfl,rfl⟩
     · obtain ⟨cs,hbc,hrow⟩:=zby hN3
       by_cases hl2:l0=[]
       · have e2:(0<(l0.length:Int))=False:=eq_false (by rw [hl2];simp)
         have e3:qD l0 id false U=U:=if_pos hl2
         (refine goX e2 ?_;(repeat' (with_reducible apply Br.mk<;>intro _)))
         exact ⟨z3 - 1,_,by omega,zt rfl,1,U,G2,by omega,.inr ⟨rfl,e3.symm⟩,hN3,rfl⟩
       · have e2:(0<(l0.length:Int))=True:=eq_true (by have:=List.length_pos_iff.2 hl2;omega)
         have hdec:=zp7 h0' id false hl2
         obtain ⟨hc0,hc1⟩:=NowP.get0 hrow
         have zey:=zi9 hN3 hrow (qD l0 id false U)
         generalize hqd:qD l0 id false U=td at hdec zey
         generalize (zki U id false).1=de at hdec
         (refine zb1 (nn e2 (nn hbc (nn hc0 hc1))) (hdec) ?_;(repeat' (with_reducible apply Br.mk<;>intro _)))
         exact ⟨z3 - 1,_,by omega,zt rfl,1,td,_,by omega,.inr ⟨rfl,rfl⟩,zey,rfl⟩
     · obtain ⟨cs,hbc,hrow⟩:=zby hN3
       generalize qD l0 id false T0=td at hN3 hR
       (refine goX trivial ?_;(repeat' (with_reducible apply Br.mk<;>intro _)))
       subst hR
       exact Fin.eq rfl ⟨rfl,_,⟨b,cap,rfl,rfl⟩,done hN3⟩
 · rw [if_neg (by rw [q0];simp),if_neg (by rw [q1];simp)] at hR
   have h0':=h0.qS l0 id
   have h1':=h1.qS l1 id
   generalize qS l0 id r0=T0 at hN hR h0'
   generalize qS l1 id r1=T1 at hN hR h1'
   by_cases hz:(zib (dl,room) id).1=0
   case neg =>
    rw [if_pos hz] at hR
    generalize (zib (dl,room) id).1=pe at hrec hR hz
    generalize (zib (dl,room) id).2=dn at hrec
    have hz':(pe=0)=False:=eq_false hz
    obtain ⟨cs,hbc,hrow⟩:=zby hN
    (refine zb1 hz' (hrec) ?_;(repeat' (with_reducible apply Br.mk<;>intro _)))
    subst hR
    exact Fin.eq rfl ⟨rfl,_,⟨b,cap,rfl,rfl⟩,done hN⟩
   rw [if_neg (by rw [hz];simp)] at hR
   rw [hz] at hrec
   generalize (zib (dl,room) id).2=dn at hrec
   (refine zb1 trivial (hrec) ?_;(repeat' (with_reducible apply Br.mk<;>intro _)))
   refine W.loop (fun z st=>∃ (x:Nat) (U0 U1:RS) (G:Gh),z+x=2∧(x=0∧U0=T0∧U1=T1∨x=1∧U0=qD l0 id true T0∧U1=T1∨x=2∧U0=qD l0 id true T0∧U1=qD l1 id true T1)∧Sep (SlA 2 (gS b cap) [eRS U0,eRS U1]::Q2) G ∧
    st=(E [(2,.d (.int .i64 id)),(3,.d (.list [eL l0,eL l1])),(4,.ptr 0 4 1 0),(8,.ptr 0 8 1 0),(13,.d (.gs b 0 2 cap)),(18,.d (.int .i64 (x:Nat)))],HB [(4,⟨1,some [.list (dl.map eI),.int .i64 room]⟩),(8,⟨1,some [.nilS,.int .i64 0,.nilS,.bool false,.int .i64 0]⟩),(15,b15),(17,⟨1,some [.list (dn.1.map eI),.int .i64 dn.2,.int .i64 0]⟩)],σ,G))
    ⟨2,_,zt rfl,0,T0,T1,G1,rfl,.inl ⟨rfl,rfl,rfl⟩,hN,rfl⟩ ?_
   rintro z3 st ⟨x,U0,U1,G2,hx,hU,hN2,rfl⟩
   clear hN
   rcases hU with ⟨rfl,rfl,rfl⟩|⟨rfl,rfl,rfl⟩|⟨rfl,rfl,rfl⟩
   · obtain ⟨cs,hbc,hrow⟩:=zby hN2
     by_cases hl2:l0=[]
     · have e2:(0<(l0.length:Int))=False:=eq_false (by rw [hl2];simp)
       have e3:qD l0 id true U0=U0:=if_pos hl2
       (refine goX e2 ?_;(repeat' (with_reducible apply Br.mk<;>intro _)))
       exact ⟨z3 - 1,_,by omega,zt rfl,1,U0,U1,G2,by omega,.inr (.inl ⟨rfl,e3.symm,rfl⟩),hN2,rfl⟩
     · have e2:(0<(l0.length:Int))=True:=eq_true (by have:=List.length_pos_iff.2 hl2;omega)
       have hdec:=zp7 h0' id true hl2
       obtain ⟨hc0,hc1⟩:=NowP.get0 hrow
       have zey:=zi9 hN2 hrow (qD l0 id true U0)
       generalize hqd:qD l0 id true U0=td at hdec zey
       generalize (zki U0 id true).1=de at hdec
       (refine zb1 (nn e2 (nn hbc (nn hc0 hc1))) (hdec) ?_;(repeat' (with_reducible apply Br.mk<;>intro _)))
       exact ⟨z3 - 1,_,by omega,zt rfl,1,td,U1,_,by omega,.inr (.inl ⟨rfl,rfl,rfl⟩),zey,rfl⟩
   · obtain ⟨cs,hbc,hrow⟩:=zby hN2
     generalize qD l0 id true T0=V0 at hN2 hrow ⊢
     by_cases hl2:l1=[]
     · have e2:(0<(l1.length:Int))=False:=eq_false (by rw [hl2];simp)
       have e3:qD l1 id true U1=U1:=if_pos hl2
       (refine goX e2 ?_;(repeat' (with_reducible apply Br.mk<;>intro _)))
       exact ⟨z3 - 1,_,by omega,zt rfl,2,V0,U1,G2,by omega,.inr (.inr ⟨rfl,rfl,e3.symm⟩),hN2,rfl⟩
     · have e2:(0<(l1.length:Int))=True:=eq_true (by have:=List.length_pos_iff.2 hl2;omega)
       have hdec:=zp7 h1' id true hl2
       obtain ⟨hc0,hc1⟩:=NowP.get1 hrow
       have zey:=zmt hN2 hrow (qD l1 id true U1)
       generalize hqd:qD l1 id true U1=td at hdec zey
       generalize (zki U1 id true).1=de at hdec
       (refine zb1 (nn e2 (nn hbc (nn hc0 hc1))) (hdec) ?_;(repeat' (with_reducible apply Br.mk<;>intro _)))
       exact ⟨z3 - 1,_,by omega,zt rfl,2,V0,td,_,by omega,.inr (.inr ⟨rfl,rfl,rfl⟩),zey,rfl⟩
   · obtain ⟨cs,hbc,hrow⟩:=zby hN2
     generalize qD l0 id true T0=td at hN2 hR
     generalize qD l1 id true T1=te at hN2 hR
     (refine goX trivial ?_;(repeat' (with_reducible apply Br.mk<;>intro _)))
     subst hR
     exact Fin.eq rfl ⟨rfl,_,⟨b,cap,rfl,rfl⟩,done hN2⟩
end Go.Proofs.Ytlejjdbmmdghmaa
namespace Go.Proofs.Ytlejjdbmmdghmaa
open Go Go.E2 C22 C40
set_option maxHeartbeats 4000000
def zhj (d:RD) (l:List Int) (r:RS):RS:=l.foldl (fun r id=>(zki r id (decide (id∈d.1))).2) r
def zec (d:RD) (r:RS):RS:=zhj d (r.2.map (·.1)) r
theorem zv1 {α:Type} {l:List α} {a:Nat} {x:α} (h:x∈l.eraseIdx a):x∈l:=(List.eraseIdx_sublist l a).subset h
theorem RSm.dec {r:RS} (h:RSm r) (id:Int) (c:Bool):RSm (zki r id c).2:=by
 unfold zki
 split
 · exact h
 split
 · exact h
 · have hl:(if c then zis (r.2.getD (fdP id r.2 0).toNat (0,[])).2 r.1 else r.1).length=r.1.length:=by
    split
    · exact zmo _ _
    · rfl
   refine ⟨by rw [hl];exact h.v1,by rw [hl];exact h.v2,?_,fun p hp=>by rw [hl];exact h.rg p (zv1 hp)⟩
   have:=List.length_eraseIdx_le r.2 (fdP id r.2 0).toNat
   have:=h.p
   show (r.2.eraseIdx _).length≤900
   omega
@[go_sem] theorem viR0 (a b:RS):zcn 2 (some (.list [eRS a,eRS b])) (.d (.int .i64 0))=some (.cptr [.list (a.1.map eVl),.list (a.2.map ePr)]):=rfl
@[go_sem] theorem viR1 (a b:RS):zcn 2 (some (.list [eRS a,eRS b])) (.d (.int .i64 1))=some (.cptr [.list (b.1.map eVl),.list (b.2.map ePr)]):=rfl
theorem ztd (b9 c9:Nat) (d:RD) (r0 r1:RS) (hd:d.1.length≤900) (h0:RSm r0) (h1:RSm r1) :
 zy Try.prog f_zz15 [eRD d,gS b9 c9] [SlA 2 (gS b9 c9) [eRS r0,eRS r1]]
  (fun x post=>∃ b cap,x=.d (z1p ([],d.2) (gS b cap) false 0)∧post=[SlA 2 (gS b cap) [eRS (zec d r0),eRS (zec d r1)]]):=by
 refine zg fol zz15_cp fun Q0 G σ hs=>?_
 have hs:Sep (SlA 2 (gS b9 c9) [eRS r0,eRS r1]::Q0) G:=hs
 have hs0:Sep (SlA 2 .nilS []::SlA 2 (gS b9 c9) [eRS r0,eRS r1]::Q0) G:=Sep.slNil hs
 refine goS trivial ?_
 refine goR trivial ?_
 refine W.loop (fun z st=>∃ (i:Nat) (b7:Blk) (es:List D) (x5:D) (G:Gh),z+i=2∧(i=0∧es=[]∨i=1∧es=[eRS (zec d r0)]∨i=2∧es=[eRS (zec d r0),eRS (zec d r1)])∧Sep (SlA 2 x5 es::SlA 2 (gS b9 c9) [eRS r0,eRS r1]::Q0) G ∧
  st=(E [(1,.d (gS b9 c9)),(2,.ptr 0 2 1 0),(4,.ptr 0 4 1 0),(5,.d x5),(6,.d (.int .i64 (i:Nat)))],HB [(2,⟨1,some [.list (d.1.map eI),.int .i64 d.2]⟩),(4,⟨1,some [.nilS,.int .i64 0,.nilS,.bool false,.int .i64 0]⟩),(7,b7)],σ,G))
  ⟨2,_,zt (zcx [(2,⟨1,some [.list (d.1.map eI),.int .i64 d.2]⟩),(4,⟨1,some [.nilS,.int .i64 0,.nilS,.bool false,.int .i64 0]⟩)] [7] rfl).symm,0,_,[],.nilS,G,rfl,.inl ⟨rfl,rfl⟩,hs0,rfl⟩ ?_
 clear hs hs0
 rintro z st ⟨i,b7,es,x5,G,hz,hes,hN,rfl⟩
 rcases hes with ⟨rfl,rfl⟩|⟨rfl,rfl⟩|⟨rfl,rfl⟩
 · -- the first site
   have hpl:=zmr r0 (by have:=h0.p;omega)
   have hall1:=zkj (r0.2.map (·.1))
   have hll:(r0.2.map (·.1)).length≤900:=by rw [List.length_map];exact h0.p
   have hS:zec d r0=zhj d (r0.2.map (·.1)) r0:=rfl
   generalize r0.2.map (·.1)=pl at hpl hall1 hll hS
   obtain ⟨cs,hbc,hrow⟩:=zby hN.tail
   obtain ⟨hc0,hc1⟩:=NowP.get0 hrow
   (refine zb1 (nn hbc (nn hc0 hc1)) (hpl) ?_;(repeat' (with_reducible apply Br.mk<;>intro _)))
   refine W.loop (fun z st=>∃ (t:Nat) (u:RS),z+t=pl.length∧RSm u∧u=zhj d (pl.take t) r0 ∧
    st=(E [(1,.d (gS b9 c9)),(2,.ptr 0 2 1 0),(4,.ptr 0 4 1 0),(5,.d x5),(6,.d (.int .i64 0)),(7,.ptr 0 7 (b7.g+1) 0),(8,.d (.list (pl.map eI))),(9,.d (.int .i64 (t:Nat)))],HB [(2,⟨1,some [.list (d.1.map eI),.int .i64 d.2]⟩),(4,⟨1,some [.nilS,.int .i64 0,.nilS,.bool false,.int .i64 0]⟩),(7,⟨b7.g+1,some [.list (u.1.map eVl),.list (u.2.map ePr)]⟩)],σ,G))
    ⟨_,_,zt rfl,0,r0,rfl,h0,rfl,rfl⟩ ?_
   rintro z2 st ⟨t,u,ht,hu,hue,rfl⟩
   by_cases htl:t<pl.length
   · have hlt':(t:Int)<(pl.length:Int):=by omega
     have htk:pl.take (t+1)=pl.take t++[pl[t]]:=by rw [List.take_add_one,List.getElem?_eq_getElem htl];rfl
     have hnx:zhj d (pl.take (t+1)) r0=(zki u pl[t] (decide (pl[t]∈d.1))).2:=by rw [htk];unfold zhj;rw [List.foldl_append];unfold zhj at hue;rw [← hue];rfl
     have hhas:=zkk d pl[t] (by omega)
     have hdec:=zp5 u pl[t] (decide (pl[t]∈d.1)) hu.v1 hu.v2 (by have:=hu.p;omega) hu.rg
     have hu2:=hu.dec pl[t] (decide (pl[t]∈d.1))
     rw [← hnx] at hdec hu2
     generalize hun:zhj d (pl.take (t+1)) r0=un at hdec hu2
     generalize (zki u pl[t] (decide (pl[t]∈d.1))).1=e at hdec
     generalize decide (pl[t]∈d.1)=c at hhas hdec
     generalize hid:pl[t]=id at hhas hdec
     obtain ⟨dl,room⟩:=d
     (refine znq (nn hlt' (nn hall1 hid)) (hhas) (hdec) ?_;(repeat' (with_reducible apply Br.mk<;>intro _)))
     exact ⟨z2 - 1,_,by omega,zt rfl,t+1,un,by omega,hu2,hun.symm,rfl⟩
   · have hx:((t:Int)<(pl.length:Int))=False:=eq_false (by omega)
     rw [show t=pl.length by omega,List.take_length,← hS] at hue
     have hsz:=hue
     subst hue
     (refine goX hx ?_;(repeat' (with_reducible apply Br.mk<;>intro _)))
     refine za0 (es2:=[eRS (zec d r0)]) (m:=1) hN.gv (zav (es:=[eRS (zec d r0)]) rfl) rfl rfl rfl (by rw [zo];simp only [List.length_cons,List.length_nil];omega) fun x6 G6 hv6 hto6=>?_
     have hN6:=hN.grow hto6 hv6
     obtain ⟨bx6,n6,cap6,rfl⟩:∃ b n c,x6=.gs b 0 n c:=by
      obtain ⟨b,c,cs,h,_⟩:=hv6.inv (by simp)
      exact ⟨b,_,c,h⟩
     refine goS trivial ?_
     (refine goX trivial ?_;(repeat' (with_reducible apply Br.mk<;>intro _)))
     exact ⟨z - 1,_,by omega,zt rfl,1,_,[eRS (zec d r0)],_,G6,by omega,.inr (.inl ⟨rfl,rfl⟩),hN6,rfl⟩
 · -- the second site
   have hpl:=zmr r1 (by have:=h1.p;omega)
   have hall1:=zkj (r1.2.map (·.1))
   have hll:(r1.2.map (·.1)).length≤900:=by rw [List.length_map];exact h1.p
   have hS:zec d r1=zhj d (r1.2.map (·.1)) r1:=rfl
   generalize r1.2.map (·.1)=pl at hpl hall1 hll hS
   obtain ⟨cs,hbc,hrow⟩:=zby hN.tail
   obtain ⟨hc0,hc1⟩:=NowP.get1 hrow
   (refine zb1 (nn hbc (nn hc0 hc1)) (hpl) ?_;(repeat' (with_reducible apply Br.mk<;>intro _)))
   refine W.loop (fun z st=>∃ (t:Nat) (u:RS),z+t=pl.length∧RSm u∧u=zhj d (pl.take t) r1 ∧
    st=(E [(1,.d (gS b9 c9)),(2,.ptr 0 2 1 0),(4,.ptr 0 4 1 0),(5,.d x5),(6,.d (.int .i64 1)),(7,.ptr 0 7 (b7.g+1) 0),(8,.d (.list (pl.map eI))),(9,.d (.int .i64 (t:Nat)))],HB [(2,⟨1,some [.list (d.1.map eI),.int .i64 d.2]⟩),(4,⟨1,some [.nilS,.int .i64 0,.nilS,.bool false,.int .i64 0]⟩),(7,⟨b7.g+1,some [.list (u.1.map eVl),.list (u.2.map ePr)]⟩)],σ,G))
    ⟨_,_,zt rfl,0,r1,rfl,h1,rfl,rfl⟩ ?_
   rintro z2 st ⟨t,u,ht,hu,hue,rfl⟩
   by_cases htl:t<pl.length
   · have hlt':(t:Int)<(pl.length:Int):=by omega
     have htk:pl.take (t+1)=pl.take t++[pl[t]]:=by rw [List.take_add_one,List.getElem?_eq_getElem htl];rfl
     have hnx:zhj d (pl.take (t+1)) r1=(zki u pl[t] (decide (pl[t]∈d.1))).2:=by rw [htk];unfold zhj;rw [List.foldl_append];unfold zhj at hue;rw [← hue];rfl
     have hhas:=zkk d pl[t] (by omega)
     have hdec:=zp5 u pl[t] (decide (pl[t]∈d.1)) hu.v1 hu.v2 (by have:=hu.p;omega) hu.rg
     have hu2:=hu.dec pl[t] (decide (pl[t]∈d.1))
     rw [← hnx] at hdec hu2
     generalize hun:zhj d (pl.take (t+1)) r1=un at hdec hu2
     generalize (zki u pl[t] (decide (pl[t]∈d.1))).1=e at hdec
     generalize decide (pl[t]∈d.1)=c at hhas hdec
     generalize hid:pl[t]=id at hhas hdec
     obtain ⟨dl,room⟩:=d
     (refine znq (nn hlt' (nn hall1 hid)) (hhas) (hdec) ?_;(repeat' (with_reducible apply Br.mk<;>intro _)))
     exact ⟨z2 - 1,_,by omega,zt rfl,t+1,un,by omega,hu2,hun.symm,rfl⟩
   · have hx:((t:Int)<(pl.length:Int))=False:=eq_false (by omega)
     rw [show t=pl.length by omega,List.take_length,← hS] at hue
     have hsz:=hue
     subst hue
     (refine goX hx ?_;(repeat' (with_reducible apply Br.mk<;>intro _)))
     refine za0 (es2:=[eRS (zec d r1)]) (m:=1) hN.gv (zav (es:=[eRS (zec d r1)]) rfl) rfl rfl rfl (by rw [zo];simp only [List.length_cons,List.length_nil];omega) fun x6 G6 hv6 hto6=>?_
     have hN6:=hN.grow hto6 hv6
     obtain ⟨bx6,n6,cap6,rfl⟩:∃ b n c,x6=.gs b 0 n c:=by
      obtain ⟨b,c,cs,h,_⟩:=hv6.inv (by simp)
      exact ⟨b,_,c,h⟩
     refine goS trivial ?_
     (refine goX trivial ?_;(repeat' (with_reducible apply Br.mk<;>intro _)))
     exact ⟨z - 1,_,by omega,zt rfl,2,_,[eRS (zec d r0),eRS (zec d r1)],_,G6,by omega,.inr (.inr ⟨rfl,rfl⟩),hN6,rfl⟩
 · obtain ⟨bx,cx,_,rfl,_,_⟩:=hN.gv.inv (by simp)
   have hR:Sep ([SlA 2 (gS bx cx) [eRS (zec d r0),eRS (zec d r1)]]++Q0) G:=hN.swap.tail
   (refine goX trivial ?_;(repeat' (with_reducible apply Br.mk<;>intro _)))
   exact Fin.nT rfl ⟨rfl,_,⟨bx,cx,rfl,rfl⟩,hR⟩
end Go.Proofs.Ytlejjdbmmdghmaa
namespace Go.Proofs.Ytlejjdbmmdghmaa
open Go Go.E2 C22 C40
theorem zlv (ws:List (Int×Wr)):(zd5 ws).Perm (ws.map (·.1)):=List.mergeSort_perm _ _
theorem zol (ws:List (Int×Wr)):(zd5 ws).length=ws.length:=by rw [(zlv ws).length_eq,List.length_map]
theorem zhi.pendOk {n:Nat} {c:List Str} {ws:List (Int×Wr)} {V:List Vl} (h:zhi n c ws V):∀ id∈zd5 ws,zb8 id:=by
 intro id hid
 obtain ⟨p,hp,rfl⟩:=List.mem_map.1 ((zlv ws).mem_iff.1 hid)
 exact h.ids p hp
theorem zkm {ws:List (Int×Wr)} (h1:(ws.map (·.1)).Nodup) (h2:∀ p∈ws,∀ p'∈ws,p.2.slot=p'.2.slot→p.1=p'.1):(ws.map fun p=>p.2.slot).Nodup:=by
 induction ws with
 | nil=>exact List.nodup_nil
 | cons p ws ih =>
  rw [List.map_cons,List.nodup_cons] at h1 ⊢
  refine ⟨fun hm=>?_,ih h1.2 fun a ha b hb=>h2 a (List.mem_cons_of_mem _ ha) b (List.mem_cons_of_mem _ hb)⟩
  obtain ⟨p',hp',he⟩:=List.mem_map.1 hm
  have:=h2 p List.mem_cons_self p' (List.mem_cons_of_mem _ hp') he.symm
  exact h1.1 (this▸List.mem_map_of_mem hp')
theorem zhi.len4 {n:Nat} {c:List Str} {ws:List (Int×Wr)} {V:List Vl} (h:zhi n c ws V):ws.length≤4:=by
 have h1:=zci (zkm h.wsn h.dif) (l':=[2 * (n:Int),2 * (n:Int)+1,2 * (n:Int)+2,2 * (n:Int)+3]) (fun s hs=>by
  obtain ⟨p,hp,rfl⟩:=List.mem_map.1 hs
  have:=h.ins p hp
  simp only [List.mem_cons,List.not_mem_nil,or_false]
  omega)
 simpa using h1
def setL (dc:List Str):List Int→SS→SS
 | [],s=>s
 | id::l,s=>setL dc l (zfl id (zix dc id) s)
theorem zmu (dc:List Str):∀ (a b:List Int) (s:SS),setL dc (a++b) s=setL dc b (setL dc a s)
 | [],b,s=>rfl
 | x::a,b,s=>by rw [List.cons_append,setL,setL,zmu dc a b]
def zex (dc:List Str) (s:SS):SS:=setL dc (zd5 s.2) s
theorem zc1.setL {n:Nat} (dc:List Str):∀ (l:List Int) {s:SS} {V:List Vl},zc1 n s V→∃ V',zc1 n (setL dc l s) V'
 | [],_s,V,g=>⟨V,g⟩
 | id::l,_s,_V,g=>zc1.setL dc l (g.decS id (zix dc id))
def zom (i:Nat) (c:List Str):List Str:=List.replicate i []++c.drop i
theorem zrt {i:Nat} {c:List Str} (h:i≤c.length):(zom i c).length=c.length:=by
 simp [zom];omega
theorem z1q {i:Nat} {c:List Str} (h:i<c.length):(zom i c)[i]'(by rw [zrt (by omega)];exact h)=c[i]:=by
 simp [zom,List.getElem_append_right]
theorem zyp {i:Nat} {c:List Str} (h:i<c.length):(zom i c).set i []=zom (i+1) c:=by
 unfold zom
 rw [List.drop_eq_getElem_cons h,List.set_append_right _ _ (by simp),List.length_replicate,Nat.sub_self,List.set_cons_zero,List.replicate_succ',List.append_assoc]
 rfl
theorem zv2 {i:Nat} {c:List Str} (h:i<c.length) (he:c[i]=[]):zom i c=zom (i+1) c:=by
 unfold zom
 rw [List.drop_eq_getElem_cons h,he,List.replicate_succ',List.append_assoc]
 rfl
theorem zyq (c:List Str):zom c.length c=rep c.length:=by simp [zom,rep]
end Go.Proofs.Ytlejjdbmmdghmaa
