/-
 Layer 21 (disk),continued: Sync.
 Conditions: of each contract as it says.
-/
import Derived.Test.YtpplfpnjfjnkdaaGreatDoorF22a
import Derived.Test.YtpplfpnjfjnkdaaGreatDoorS22
set_option linter.unusedSimpArgs false
namespace Go.Proofs.YtpplfpnjfjnkdaaGreatDoor
open Go Go.E2 C22
set_option maxHeartbeats 1000000
structure zik (p:Nat) (d:Dk) (R:List As) (G:Gh) (cb r cap:Nat) (m:List (Int×D)) (it:Nat) (sn:List Int):Prop where
 ok:Okd d
 op:OpOk d m
 sep:Sep (za p [.gs cb 0 d.cs.length cap,.mref r,eI d.steps,eI d.after,.bool d.dead]::SlA 65 (.gs cb 0 d.cs.length cap) (d.cs.map eC)::z1a [.i] eI id r it m sn::OpA d m::R) G
section
variable {p:Nat} {d:Dk} {R:List As} {G:Gh} {cb r cap it:Nat} {m:List (Int×D)} {sn:List Int}
theorem zik.done (h:zik p d R G cb r cap m it sn):za2 p d R G cb r cap m :=
 ⟨h.ok,h.op,h.sep.cons fun _ hh=>hh.cons fun _ hr=>hr.rngEnd⟩
theorem za2.walk (h:za2 p d R G cb r cap m) {X:MO} (hit:G.m it=none) (hr:zg9 [.i] eI id (G.setM it (some X)) r it m []):zik p d R (G.setM it (some X)) cb r cap m it [] :=
 ⟨h.ok,h.op,(Sep.rngNew h.sep.f3 hit hr).b3⟩
theorem zik.rng (h:zik p d R G cb r cap m it sn):zg9 [.i] eI id G r it m sn:=h.sep.f3.rngl
theorem zik.turn (h:zik p d R G cb r cap m it sn) {X:MO} {sn':List Int} (hr:zg9 [.i] eI id (G.setM it (some X)) r it m sn'):zik p d R (G.setM it (some X)) cb r cap m it sn' :=
 ⟨h.ok,h.op,(Sep.rngSet (.inr rfl) h.sep.f3 hr).b3⟩
theorem OpA.row {i:Int} {v:D} (hm:zd9 m i=some v) (h:Sep (OpA d m::R) G):GV 64 G v ((zcs d i).map eS):=(OpA.out hm h).gv
theorem zik.one (h:zik p d R G cb r cap m it sn) {a:Int} {v:D} (hm:zd9 m a=some v) {d':Dk} (hok:Okd d') (hst:d'.steps=d.steps) (haf:d'.after=d.after) (hde:d'.dead=d.dead) (hlen:d'.cs.length=d.cs.length)
 (hop:∀ j,zcs d' j=if j=a then [] else zcs d j) {cs':List D} (hr:Row 65 d.cs.length cap (d'.cs.map eC) cs') {M:MO} (hrg:zg9 [.i] eI id ((G.set cb (some cs')).setM r (some M)) r it (mdel m a) sn) :
 zik p d' R ((G.set cb (some cs')).setM r (some M)) cb r cap (mdel m a) it sn:=by
 have hnd:=h.rng.nodup
 refine ⟨hok,⟨fun j=>?_⟩,?_⟩
 · rw [zzk hnd,hop]
   split
   · simp
   · exact h.op.has j
 · have e:OpA d' (mdel m a)=OpA d (mdel m a):=OpA.same fun q hq=>by rw [hop,if_neg ((zmv hnd).1 hq).2]
   have h1:Sep (OpA d (mdel m a)::za p [.gs cb 0 d.cs.length cap,.mref r,eI d.steps,eI d.after,.bool d.dead]::SlA 65 (.gs cb 0 d.cs.length cap) (d.cs.map eC)::z1a [.i] eI id r it m sn::R) G:=(OpA.out hm h.sep.f4).tail
   have h2:Sep (SlA 65 (.gs cb 0 d.cs.length cap) (d.cs.map eC)::OpA d (mdel m a)::za p [.gs cb 0 d.cs.length cap,.mref r,eI d.steps,eI d.after,.bool d.dead]::z1a [.i] eI id r it m sn::R) G:=h1.f3
   have h3:=Sep.slSet h2 hr
   have h4:=Sep.rngSet (.inl rfl) h3.f4 hrg
   rw [hlen,hst,haf,hde,e]
   exact h4.f4.cons fun _=>Sep.swap
end
theorem zzx (c:Cel):syC (syC c)=syC c:=by
 unfold syC
 cases h:c.op.getLast? with
 | none=>simp [h]
 | some s=>rfl
theorem zwn {d:Dk} (h:∀ i,zcs d i=[]):d.cs.map syC=d.cs:=by
 apply List.ext_getElem
 · simp
 · intro i h1 h2
   rw [List.getElem_map]
   have:=h i
   rw [zdo h2] at this
   unfold syC
   rw [this];rfl
theorem zko (p:Nat) (d:Dk) (hn:d.steps≤1000000000):zaq Tryz.prog f_zz88 [.gp p 0] [zf p d] (fun r post=>r=.d (.int .i64 (sy d).2)∧post=[zf p (sy d).1]):=by
 refine zu fol zz88_cp fun R G σ hs=>?_
 have hok0:Okd d:=by obtain ⟨_,_,_,_,h⟩:=za2.open hs;exact h.ok
 by_cases hdead:d.dead=true
 · have hk:chk d 0=12:=by unfold chk;rw [if_pos hdead]
   have hw:sy d=(d,12):=by unfold sy;rw [if_pos hdead]
   refine goS trivial ?_
   (refine zb7 hk ((zdl p d 0).q hs) ?_;(repeat' (with_reducible apply Br.mk<;>intro _)))
   exact Fin.eq rfl ⟨rfl,_,⟨by rw [hw],by rw [hw]⟩,hs⟩
 · have hk:chk d 0=0:=by unfold chk;rw [if_neg hdead,if_neg (by have:=hok0.pos;omega)]
   obtain ⟨hsok,_⟩:=z4z hok0 hn
   refine goS trivial ?_
   (refine zb7 hk ((zdl p d 0).q hs) ?_;(repeat' (with_reducible apply Br.mk<;>intro _)))
   (refine goM (zm2 p d hn) (hs) ?_)
   rintro _ _ G2 ⟨rfl,rfl⟩ hs2
   by_cases hst:(stp d).2=0
   · have hw:sy d=({ (stp d).1 with cs:=d.cs.map syC },0):=by unfold sy;rw [if_neg hdead,if_neg (by rw [hst];simp)]
     have hcs:(stp d).1.cs=d.cs:=by unfold stp;split<;>rfl
     rw [hw] at hsok ⊢
     obtain ⟨cb,r,cap,m,hd⟩:=za2.open hs2
     have hc:=hd.cell
     refine goS hst ?_
     (refine goX (nn hst hc) ?_;(repeat' (with_reducible apply Br.mk<;>intro _)))
     refine zvk hd.map fun it X hit hr=>?_
     have hq:=hd.walk hit hr
     refine goS trivial ?_
     refine goR trivial ?_
     refine W.loop (fun n st=>∃ (d':Dk) (m':List (Int×D)) (sn:List Int) (G:Gh),n=m'.length∧(∀ q∈m',q.1 ∉ sn)∧zik p d' R G cb r cap m' it sn∧d'.steps=(stp d).1.steps∧d'.after=(stp d).1.after∧d'.dead=(stp d).1.dead∧d'.cs.map syC=d.cs.map syC∧d'.cs.length=d.cs.length ∧
      st=(E [(0,.d (.gp p 0)),(19,.d (.gp it 0))],HB [],σ,G))
      ⟨_,_,zk9,(stp d).1,m,[],_,rfl,fun _ _=>by simp,hq,rfl,rfl,rfl,by rw [hcs],by rw [hcs],rfl⟩ ?_
     rintro n st ⟨d',m',sn,G3,rfl,hsn,hq,e1,e2,e3,e4,e5,rfl⟩
     refine goR trivial ?_
     refine zvl hq.rng (fun hall=>?_) (fun a v X hav hns hr hent=>?_)
     · have hm0:m'=[]:=by
        cases m' with
        | nil=>rfl
        | cons q m'=>exact absurd (hall q ylpQ) (hsn q ylpQ)
       subst hm0
       have h0:∀ i,zcs d' i=[]:=fun i=>by
        apply Classical.byContradiction
        intro e
        have:=(hq.op.has i).2 e
        simp [zd9] at this
       have e6:d'={ (stp d).1 with cs:=d.cs.map syC }:=by
        obtain ⟨a,b,c,e⟩:=d'
        simp only at e1 e2 e3 e4
        have e7:a=d.cs.map syC:=by rw [← e4];exact (zwn (d:=⟨a,b,c,e⟩) h0).symm
        subst e7 e1 e2 e3
        rfl
       subst e6
       refine goS trivial ?_
       (refine goX trivial ?_;(repeat' (with_reducible apply Br.mk<;>intro _)))
       exact Fin.eq rfl ⟨rfl,_,⟨rfl,rfl⟩,hq.done.close⟩
     · have hq2:=hq.turn hr
       have hg:=zke hq.rng.nodup hav
       have hne:zcs d' a≠[]:=(hq.op.has a).1 (by rw [hg];rfl)
       obtain ⟨k,rfl⟩:∃ k:Nat,a=k:=⟨a.toNat,by have:=zni hne;omega⟩
       have hkl:k<d'.cs.length:=by have:=zni hne;omega
       obtain ⟨c,hcc⟩:∃ c,c=d'.cs[k]:=⟨_,rfl⟩
       have hv:=OpA.row hg hq2.sep.f4
       have hop:zcs d' k=c.op:=by rw [zdo hkl,hcc]
       rw [hop] at hv hne
       obtain ⟨b,cap',cs0,rfl,hb,hla⟩:=zwk hv hne
       have hc3:=hq2.done.cell
       obtain ⟨cells,hcb,hrow⟩:=hq2.done.row
       have hfew:=hq.ok.few c (by rw [hcc];exact List.getElem_mem hkl)
       have hstt:=hq.ok.st
       have hl0:0<c.op.length:=List.length_pos_iff.2 hne
       have e8:((c.op.length:Int) - 1).toNat=c.op.length - 1:=by omega
       have hfit:=hrow.fits (i:=k) (by simpa using hkl)
       have hsy:syC c=⟨c.op.getLast hne,false,[]⟩:=by unfold syC;rw [List.getLast?_eq_some_getLast hne]
       have hrow2:=zm6 hrow hkl syC
       rw [← hcc,hsy] at hrow2
       simp only [Gh.setM_c] at hc3 hb hcb
       have hc4:=(Sep.slSet hq2.sep.swap hrow2).swap.get
       simp only [Gh.set_c,Gh.setM_c] at hc4
       obtain ⟨M,hM,hrd⟩:=(hq2.rng.set (b:=cb) (v:=some (cells.take (k * 65)++((c.op.getLast hne).1.map eB++[.bool false])++cells.drop (k * 65+65)))).delete (k:Int)
       have hok':Okd { d' with cs:=d'.cs.modify k syC }:=by
        refine ⟨by simpa using hq.ok.pos,by simpa using hq.ok.most,fun x hx=>?_,hq.ok.st,fun x hx=>?_,hq.ok.aft⟩
        · rcases mem_modify hx with hx|⟨y,hy,rfl⟩
          · exact hq.ok.rot x hx
          · unfold syC;split
            · simp
            · exact hq.ok.rot y hy
        · rcases mem_modify hx with hx|⟨y,hy,rfl⟩
          · exact hq.ok.few x hx
          · have:=hq.ok.few y hy
            unfold syC;split
            · simpa using hq.ok.st.1
            · exact this
       refine goS trivial ?_
       (repeat (first|(with_reducible first|refine W.seq ?_|refine W.block ?_|refine W.scope ?_)|((with_reducible first|refine W.reg ?_|refine W.skip ?_|refine W.exit ?_|refine W.ret ?_|refine W.ifc ?_);simp -dsimp (disch:=first|omega|(simp only [go_sem];omega)) only [go_sem,seval,Nat.reduceEqDiff,Nat.reduceLeDiff,hent,id_eq,hc3,hc4,hb,hla,e8,hcb,yleQ,hfit,hM])))
       have hq3:=hq2.one hg (d':={ d' with cs:=d'.cs.modify k syC }) hok' rfl rfl rfl (by simp) (fun j=>by
        rw [zkn (d:=d') (d':={ d' with cs:=d'.cs.modify k syC }) (k:=k) (f:=syC) rfl hkl j,← hcc,hsy]) hrow2 hrd
       refine ⟨_,_,?_,zk9,{ d' with cs:=d'.cs.modify k syC },mdel m' k,sn++[(k:Int)],_,rfl,fun q hq'=>?_,hq3,e1,e2,e3,?_,by simpa using e5,rfl⟩
       · rw [zzl,hg];simp;have:=List.length_pos_of_mem hav;omega
       · obtain ⟨q1,q2⟩:=(zmv hq.rng.nodup).1 hq'
         simp only [ylcQ,List.mem_singleton,not_or]
         exact ⟨hsn q q1,q2⟩
       · rw [← e4];exact zma zzx
   · have hw:sy d=stp d:=by unfold sy;rw [if_neg hdead,if_pos hst]
     rw [hw]
     refine goS hst ?_
     (refine goX hst ?_;(repeat' (with_reducible apply Br.mk<;>intro _)))
     exact Fin.eq rfl ⟨rfl,_,⟨rfl,rfl⟩,hs2⟩
end Go.Proofs.YtpplfpnjfjnkdaaGreatDoor
namespace Go.Proofs.YtpplfpnjfjnkdaaGreatDoor
open Go Go.E2 C22
set_option maxHeartbeats 1000000
theorem zmb (n:Nat) (x:Int):-((n:Int)+3)<x.tmod (n+3)∧x.tmod (n+3)<n+3:=by
 have h:=Int.tmod_lt_of_pos x (by omega:(0:Int)<n+3)
 have h2:=Int.lt_tmod_of_pos x (by omega:(0:Int)<n+3)
 omega
theorem z3v (n:Nat) (x:Int):0≤remOf n x∧remOf n x<n+3:=by
 obtain ⟨h1,h2⟩:=zmb n x
 unfold remOf
 exact ⟨Int.tmod_nonneg _ (by omega),Int.tmod_lt_of_pos _ (by omega)⟩
theorem zox (s:Sec):z9q s s=s:=Subtype.ext (List.take_append_drop 32 s.1)
theorem zoy (b l:Sec):zau (l.1.map eB) (((b.1.map eB).drop 32).take 32) 32=(z9q b l).1.map eB:=by
 have h1:((b.1.map eB).drop 32).take 32=(b.1.map eB).drop 32:=yk1Q (by rw [ylfQ,zj];decide)
 rw [h1]
 unfold zau z9q
 have h2:32+((b.1.map eB).drop 32).length=64:=by rw [ylfQ,zj]
 have h3:(l.1.map eB).drop 64=[]:=z8p l 64 (by decide)
 rw [h2,h3,ylvQ]
 simp only [yk6Q,List.map_take,List.map_drop]
theorem zoz (G:Gh) (g:Nat) (s:Sec) (h:G.c g=some (s.1.map eB)) (cap:Nat):zbn G 1 (.gs g 32 32 cap)=some (32,((s.1.map eB).drop 32).take 32):=by
 simp only [zbn,h,zj]
 simp
theorem zzy (c:Cel) (x:Int) (hne:c.op≠[]) (hl:c.op.length≤2000000000):zw Tryz.prog f_zz108 [eC c,.list (c.op.map eS),.int .i64 x] (·=.d (eC (kept c x))):=by
 refine zw.of_deep (zm fol zz108_cp ?_)
 have hl0:0<c.op.length:=List.length_pos_iff.2 hne
 obtain ⟨b1,b2⟩:=zmb c.op.length x
 obtain ⟨b3,b4⟩:=z3v c.op.length x
 have hr:((x.tmod (c.op.length+3)+c.op.length)+3).tmod (c.op.length+3)=remOf c.op.length x:=rfl
 refine goS trivial ?_
 (refine goX hr ?_;(repeat' (with_reducible apply Br.mk<;>intro _)))
 · rename_i h
   have hk:kept c x=⟨c.s,c.bad,[]⟩:=by unfold kept;rw [if_pos h]
   (apply Fin.eq;(focus (simp -dsimp (disch:=first|omega|(simp only [go_sem];omega)) only [go_sem,seval,Nat.reduceEqDiff,Nat.reduceLeDiff]<;>rfl)))
   exact ⟨rfl,_,.refl _,by rw [hk];rfl⟩
 · rename_i h h'
   have e1:(remOf c.op.length x - 1).toNat=(remOf c.op.length x).toNat - 1:=by omega
   have hk:kept c x=⟨c.op[(remOf c.op.length x - 1).toNat],false,[]⟩:=by
    unfold kept;rw [if_neg h,if_pos h',← e1,yliQ (by omega)];rfl
   (apply Fin.eq;(focus (simp -dsimp (disch:=first|omega|(simp only [go_sem];omega)) only [go_sem,seval,Nat.reduceEqDiff,Nat.reduceLeDiff]<;>rfl)))
   exact ⟨rfl,_,.refl _,by rw [hk];rfl⟩
 · rename_i h h' h''
   have hk:kept c x=⟨z0,true,[]⟩:=by unfold kept;rw [if_neg h,if_neg h',if_pos h'']
   (apply Fin.eq;(focus (simp -dsimp (disch:=first|omega|(simp only [go_sem];omega)) only [go_sem,seval,Nat.reduceEqDiff,Nat.reduceLeDiff]<;>rfl)))
   exact ⟨rfl,_,.refl _,by rw [hk];rfl⟩
 · rename_i h h' h''
   have hk:kept c x=⟨z9q (if 1<c.op.length then (c.op[c.op.length - 2]?).getD z0 else c.s) ((c.op[c.op.length - 1]?).getD z0),false,[]⟩:=by unfold kept;rw [if_neg h,if_neg h',if_neg h'']
   have hlast:(c.op[c.op.length - 1]?).getD z0=c.op[((c.op.length:Int) - 1).toNat]'(by omega):=by
    have e:((c.op.length:Int) - 1).toNat=c.op.length - 1:=by omega
    simp only [e]
    rw [yliQ (by omega)];rfl
   rw [hlast] at hk
   generalize hlv:c.op[((c.op.length:Int) - 1).toNat]'(by omega)=lv at hk
   refine zx fun g1 hg1=>?_
   refine goS trivial ?_
   refine goR trivial ?_
   refine zx fun g2 hg2=>?_
   have hgg:g1≠g2:=by rintro rfl;simp at hg2
   have hu1:∀ (f:Nat→Option (List D)) (v:Option (List D)),upd f g2 v g1=f g1:=fun f v=>zcm hgg
   have hu2:∀ (f:Nat→Option (List D)) (v:Option (List D)),upd f g1 v g2=f g2:=fun f v=>zcm hgg.symm
   by_cases h1:1<c.op.length
   · have e1:(1<(c.op.length:Int))=True:=eq_true (by omega)
     have hb:(if 1<c.op.length then (c.op[c.op.length - 2]?).getD z0 else c.s)=c.op[((c.op.length:Int) - 2).toNat]'(by omega):=by
      have e:((c.op.length:Int) - 2).toNat=c.op.length - 2:=by omega
      simp only [e]
      rw [if_pos h1,yliQ (by omega)];rfl
     rw [hb] at hk
     generalize hbv:c.op[((c.op.length:Int) - 2).toNat]'(by omega)=bv at hk
     refine goS trivial ?_
     (refine goX (nn hu1 (nn hu2 (nn e1 (nn hlv hbv)))) ?_;(repeat' (with_reducible apply Br.mk<;>intro _)))
     · rename_i he
       (apply Fin.eq;(focus (simp -dsimp (disch:=first|omega|(simp only [go_sem];omega)) only [go_sem,seval,Nat.reduceEqDiff,Nat.reduceLeDiff]<;>rfl)))
       refine ⟨rfl,_,.refl _,?_⟩
       rw [hk,he,zox];rfl
     · refine zi4 (m:=32) (cs:=lv.1.map eB) (by simp only [Gh.set_c,hu1,hu2,zbp]) (zoz _ _ bv (by simp only [Gh.set_c,hu1,hu2,zbp]) _) (by rw [zj];decide) ?_
       simp only [Nat.min_self,ylsQ,List.take_take,zoy]
       refine goS trivial ?_
       (refine goX (nn hu1 hu2) ?_;(repeat' (with_reducible apply Br.mk<;>intro _)))
       (apply Fin.eq;(focus (simp -dsimp (disch:=first|omega|(simp only [go_sem];omega)) only [go_sem,seval,Nat.reduceEqDiff,Nat.reduceLeDiff]<;>rfl)))
       exact ⟨rfl,_,.refl _,by rw [hk];rfl⟩
   · have e1:(1<(c.op.length:Int))=False:=eq_false (by omega)
     rw [if_neg h1] at hk
     refine goS trivial ?_
     (refine goX (nn hu1 (nn hu2 (nn e1 hlv))) ?_;(repeat' (with_reducible apply Br.mk<;>intro _)))
     · rename_i he
       (apply Fin.eq;(focus (simp -dsimp (disch:=first|omega|(simp only [go_sem];omega)) only [go_sem,seval,Nat.reduceEqDiff,Nat.reduceLeDiff]<;>rfl)))
       refine ⟨rfl,_,.refl _,?_⟩
       rw [hk,he,zox];rfl
     · refine zi4 (m:=32) (cs:=lv.1.map eB) (by simp only [Gh.set_c,hu1,hu2,zbp]) (zoz _ _ c.s (by simp only [Gh.set_c,hu1,hu2,zbp]) _) (by rw [zj];decide) ?_
       simp only [Nat.min_self,ylsQ,List.take_take,zoy]
       refine goS trivial ?_
       (refine goX (nn hu1 hu2) ?_;(repeat' (with_reducible apply Br.mk<;>intro _)))
       (apply Fin.eq;(focus (simp -dsimp (disch:=first|omega|(simp only [go_sem];omega)) only [go_sem,seval,Nat.reduceEqDiff,Nat.reduceLeDiff]<;>rfl)))
       exact ⟨rfl,_,.refl _,by rw [hk];rfl⟩
end Go.Proofs.YtpplfpnjfjnkdaaGreatDoor
namespace Go.Proofs.YtpplfpnjfjnkdaaGreatDoor
open Go Go.E2 C22
set_option maxHeartbeats 1000000
theorem zqp {d:Dk} {m:List (Int×D)} (hop:OpOk d m) (hnd:(m.map (·.1)).Nodup) {l:List Int} (hp:l.Perm (m.map (·.1))):zc8 l=zbl d:=by
 have s1:(zc8 l).Pairwise (·≤·):=by
  have:=List.pairwise_mergeSort (le:=fun x y:Int=>decide (x≤y)) (by intro a b c;simp;omega) (by intro a b;simp;omega) l
  exact this.imp (by simp)
 have p1:(zc8 l).Perm l:=List.mergeSort_perm _ _
 have s2:(zbl d).Pairwise (·<·):=by
  unfold zbl
  rw [List.pairwise_map]
  exact (List.pairwise_lt_range.filter _).imp (by omega)
 have n2:(zbl d).Nodup:=s2.imp (by omega)
 have n1:(zc8 l).Nodup:=((p1.trans hp).nodup_iff).2 hnd
 have mem:∀ i,i∈zc8 l↔i∈zbl d:=by
  intro i
  rw [(p1.trans hp).mem_iff]
  have hk:i∈m.map (·.1)↔zcs d i≠[]:=by
   rw [← hop.has i]
   cases hg:zd9 m i with
   | none=>simp [zog.1 hg]
   | some v=>simp [List.mem_map.2 ⟨_,zry hg,rfl⟩]
  rw [hk]
  unfold zbl
  simp only [List.mem_map,List.mem_filter,List.mem_range,decide_eq_true_eq]
  constructor
  · intro h
    have:=zni h
    exact ⟨i.toNat,⟨by omega,by rw [show ((i.toNat:Nat):Int)=i from by omega];exact h⟩,by omega⟩
  · rintro ⟨k,⟨_,h⟩,rfl⟩;exact h
 have pm:(zc8 l).Perm (zbl d):=(List.perm_ext_iff_of_nodup n1 n2).2 mem
 exact pm.eq_of_pairwise (le:=(·≤·)) (fun a b _ _ h1 h2=>by omega) s1 (s2.imp (by omega))
theorem ze4:∀ {l l':List Int},l.Nodup→l ⊆ l'→l.length≤l'.length
 | [],_,_,_=>by simp
 | a::l,l',hn,hs=>by
   rw [List.nodup_cons] at hn
   have ha:a∈l':=hs ylpQ
   have ih:=ze4 (l':=l'.erase a) hn.2 fun x hx=>(List.mem_erase_of_ne (fun (e:x=a)=>hn.1 (by rw [← e];exact hx))).2 (hs (List.mem_cons_of_mem _ hx))
   rw [List.length_erase_of_mem ha] at ih
   have:=List.length_pos_of_mem ha
   simp only [List.length_cons]
   omega
theorem zqq {l l':List Int} (h1:l.Nodup) (h2:l'.Nodup) (h3:∀ i∈l,i∈l') (h4:∀ i∈l',i∈l):l.Perm l':=(List.perm_ext_iff_of_nodup h1 h2).2 fun i=>⟨h3 i,h4 i⟩
theorem ztv (p:Nat) (d:Dk):zaq Tryz.prog f_zz61 [.gp p 0] [zf p d] (fun r post=>∃ x,r=.d x∧post=[SlA 1 x ((zbl d).map eI),zf p d]):=by
 refine zu fol zz61_cp fun R G σ hs=>?_
 obtain ⟨cb,r,cap,m,hd⟩:=za2.open hs
 have hc:=hd.cell
 have hmost:=hd.ok.most
 refine goS trivial ?_
 refine goR hc ?_
 refine zvk hd.map fun it X hit hr=>?_
 have hq:=hd.walk hit hr
 refine goS trivial ?_
 refine goR trivial ?_
 have hml:m.length≤65536:=by
  have h1:(m.map (·.1)).Nodup:=hd.map.nodup
  have h2:(m.map (·.1)) ⊆ (List.range d.cs.length).map fun (i:Nat)=>(i:Int):=by
   intro i hi
   obtain ⟨q,hq,rfl⟩:=List.mem_map.1 hi
   have:=(hd.op.has q.1).1 (by rw [zke h1 (v:=q.2) hq];rfl)
   have:=zni this
   exact List.mem_map.2 ⟨q.1.toNat,List.mem_range.2 (by omega),by omega⟩
  have:=ze4 h1 h2
  simp at this
  omega
 refine W.loop (fun n st=>∃ (sn:List Int) (x:D) (G:Gh),n=m.length - sn.length∧sn.length≤m.length∧sn.Nodup∧(∀ i∈sn,i∈m.map (·.1))∧zik p d (SlA 1 x (sn.map eI)::R) G cb r cap m it sn ∧
  st=(E [(3,.d x),(9,.d (.gp it 0))],HB [],σ,G))
  ⟨_,_,zk9,[],.nilS,_,rfl,by simp,by simp,by simp,?_,rfl⟩ ?_
 · exact ⟨hq.ok,hq.op,hq.sep.cons fun _ hh=>hh.cons fun _ hh=>hh.cons fun _ hh=>hh.cons fun _=>Sep.slNil⟩
 rintro n st ⟨sn,x,G3,rfl,hsl,hsn,hsk,hq,rfl⟩
 refine goR trivial ?_
 have hv:=(Sep.f5 hq.sep).gv
 refine zvl hq.rng (fun hall=>?_) (fun a v X hav hns hr hent=>?_)
 · refine goS trivial ?_
   refine goR trivial ?_
   have hperm:sn.Perm (m.map (·.1)):=zqq hsn hq.rng.nodup hsk fun i hi=>by
    obtain ⟨q,hq',rfl⟩:=List.mem_map.1 hi
    exact hall q hq'
   have hso:=zqp hd.op hq.rng.nodup hperm
   have h5:Sep ([SlA 1 x (sn.map eI)]++(zf p d::R)) G3:=(hq.done.sep.f5).cons fun G h=>(za2.close ⟨hq.ok,hq.op,h⟩)
   (refine goM (z4v x sn (by omega)) (h5) ?_)
   rintro _ _ G4 rfl hs4
   refine goS trivial ?_
   (refine goX trivial ?_;(repeat' (with_reducible apply Br.mk<;>intro _)))
   rw [hso] at hs4
   exact Fin.eq rfl ⟨rfl,_,⟨x,rfl,rfl⟩,hs4⟩
 · have hq2:=hq.turn hr
   have hv2:GV 1 (G3.setM it (some X)) x (sn.map eI):=hv.of fun b c o n k _ e=>e
   have hal:a∈m.map (·.1):=List.mem_map.2 ⟨_,hav,rfl⟩
   have hsn':(sn++[a]).Nodup:=by
    rw [List.nodup_append]
    exact ⟨hsn,by simp,fun x hx y hy=>by rw [List.mem_singleton] at hy;subst hy;exact fun e=>hns (e▸hx)⟩
   have hlen':=ze4 hsn' (l':=m.map (·.1)) (fun i hi=>by
    rcases List.mem_append.1 hi with hi|hi
    · exact hsk i hi
    · rw [List.mem_singleton] at hi;subst hi;exact hal)
   rw [yk2Q,yk3Q] at hlen'
   simp only [List.length_cons,List.length_nil] at hlen'
   refine goS trivial ?_
   refine goR hent ?_
   refine zcb (es2:=[eI a]) (m:=1) hv2 (zba (es:=[eI a]) rfl) rfl rfl rfl (by rw [yk3Q,z2];omega) fun x' G4 hv3 hto=>?_
   refine goS trivial ?_
   refine goR trivial ?_
   have hs5:=(Sep.f5 hq2.sep).grow hto (by rw [← List.map_singleton (f:=eI),← yk6Q] at hv3;exact hv3)
   refine ⟨_,_,?_,zk9,sn++[a],x',G4,rfl,by rw [yk2Q];simpa using hlen',hsn',fun i hi=>?_,⟨hq.ok,hq.op,hs5.b5⟩,rfl⟩
   · rw [yk2Q];simp;omega
   · rcases List.mem_append.1 hi with hi|hi
     · exact hsk i hi
     · rw [List.mem_singleton] at hi;subst hi;exact hal
end Go.Proofs.YtpplfpnjfjnkdaaGreatDoor
namespace Go.Proofs.YtpplfpnjfjnkdaaGreatDoor
open Go Go.E2 C22
set_option maxHeartbeats 1000000
theorem zwo (c:Cel):zoc (.d (eC c))=true:=by
 have h:∀ l:List UInt8,zlz (l.map eB)=true:=by
  intro l
  induction l with
  | nil=>rfl
  | cons a l ih=>simp only [List.map_cons,zlz,eB,zmu,Bool.true_and];exact ih
 simp only [zoc,eC,zmu,zf4,ylmQ]
 have:=h c.s.1
 rw [zf4] at this
 rw [this];rfl
theorem zzz (p:Nat) (d:Dk) (keep:List Int) (hk:keep.length≤9223372036854775807):zaq Tryz.prog f_zz79 [.gp p 0,.list (keep.map eI)] [zf p d] (fun r post=>∃ q,r=.d (.gp q 0)∧post=[zf q (zir d keep),zf p d]):=by
 refine zu fol zz79_cp fun R G σ hs=>?_
 have hok:Okd d:=by obtain ⟨_,_,_,_,h⟩:=za2.open hs;exact h.ok
 have hpos:=hok.pos
 have hmost:=hok.most
 obtain ⟨cb0,r0,cap0,m0,hd0⟩:=za2.open hs
 have hc0:=hd0.cell
 refine goS trivial ?_
 refine goR hc0 ?_
 (refine goM (zwj d.cs.length (by omega) (by omega)) ((show Sep ([]++(zf p d::R)) G from hs)) ?_)
 rintro _ _ G2 ⟨q,rfl,rfl⟩ hs2
 simp only [yleQ] at hs2
 obtain ⟨cb,r,cap,m,hd⟩:=za2.open (Sep.swap hs2)
 have hc:=hd.cell
 obtain ⟨cells,hcb,hrow⟩:=hd.row
 obtain ⟨cbq,rq,capq,mq,hdq⟩:=za2.open hs2
 have hcq:=hdq.cell
 obtain ⟨cellsq,hcbq,hrowq⟩:=hdq.row
 have hlq:(fresh d.cs.length).cs.length=d.cs.length:=by simp [fresh]
 rw [hlq] at hcq hrowq
 refine goS trivial ?_
 refine goR (nn hc hcq) ?_
 have hfl:(flat (d.cs.map eC)).length=d.cs.length * 65:=by rw [zy (zsa _),yk3Q]
 refine zi4 (m:=d.cs.length) hcbq (hrow.view0 hcb) (by have:=hrowq.ncs;omega) ?_
 have hrow2:=hrowq.copyv (i:=0) (m:=d.cs.length) (len:=d.cs.length) (ys:=d.cs.map eC) (zsa _) (by simp) (by omega) (by omega)
 simp only [List.take_zero,List.nil_append,yltQ,Nat.zero_mul] at hrow2
 rw [yk7Q (by rw [yk3Q];omega),ylvQ] at hrow2
 obtain ⟨hokj,hopj⟩:=zky hok keep 0
 have e0:(zis d keep 0).map eC=d.cs.map eC:=by rw [zx0,List.map_map];rfl
 have hq0:=hdq.setC (d':=⟨zis d keep 0,0,-1,false⟩) hokj rfl rfl rfl (by rw [zbj,hlq]) (fun i=>by rw [hopj,zl9]) (by rw [hlq,e0];exact hrow2)
 have hs3:=hq0.close
 generalize hG3:G2.set cbq (some (zau cellsq ((flat (d.cs.map eC)).take (min d.cs.length d.cs.length * 65)) 0))=G3 at hs3 ⊢
 clear hG3 hq0 hrow2 hd hdq hrow hrowq hcb hcbq hc hcq hs2
 refine goS trivial ?_
 refine goR trivial ?_
 (refine goM (ztv p d) ((show Sep ([zf p d]++(zf q ⟨zis d keep 0,0,-1,false⟩::R)) G3 from Sep.swap hs3)) ?_)
 rintro _ _ G4 ⟨x,rfl,rfl⟩ hs4
 have hs4:Sep (SlA 1 x ((zbl d).map eI)::zf p d::zf q ⟨zis d keep 0,0,-1,false⟩::R) G4:=hs4
 have hol:(zbl d).length≤65536:=by
  unfold zbl
  rw [yk3Q]
  have:=List.length_filter_le (fun (i:Nat)=>decide (zcs d (i:Int)≠[])) (List.range d.cs.length)
  rw [List.length_range] at this
  omega
 have hxl:=hs4.gv.len
 rw [yk3Q] at hxl
 refine goS hxl ?_
 refine goR trivial ?_
 refine W.loop (fun n st=>∃ (j:Nat) (G:Gh),j≤(zbl d).length∧n=(zbl d).length - j∧Sep (zf q ⟨zis d keep j,0,-1,false⟩::SlA 1 x ((zbl d).map eI)::zf p d::R) G ∧
  st=(E [(0,.d (.gp p 0)),(1,.d (.list (keep.map eI))),(5,.d (.gp q 0)),(25,.d x),(26,.d (.int .i64 (zbl d).length)),(27,.d (.int .i64 j))],HB [],σ,G))
  ⟨_,_,zk9,0,G4,by omega,rfl,hs4.f3,rfl⟩ ?_
 rintro n st ⟨j,G5,hj,rfl,hs5,rfl⟩
 refine goR trivial ?_
 refine zl0 (fun h1=>?_) (fun h1=>?_)
 · have hj':j<(zbl d).length:=by omega
   obtain ⟨k,hk1,hk2,hk3,hk4⟩:=zmi (yliQ hj')
   have hv:=(Sep.swap hs5).gv
   have hgx:=hv.inv (by intro e;rw [List.map_eq_nil_iff] at e;rw [e] at hj';simp at hj')
   obtain ⟨bx,capx,csx,hx,hbx,hrx⟩:=hgx
   rw [yk3Q] at hx hrx
   have hldx:=hrx.fld (i:=j) (j:=0) (by simpa using hj') (by omega)
   rw [List.getElem_map,hk1] at hldx
   simp only [D.cells,List.getElem?_cons_zero,Option.map_some,ylsQ,Nat.add_zero] at hldx
   obtain ⟨cb,r,cap,m,hd⟩:=za2.open (Sep.f3 hs5)
   have hc:=hd.cell
   obtain ⟨cells,hcb,hrow⟩:=hd.row
   obtain ⟨cbq,rq,capq,mq,hdq⟩:=za2.open hs5
   have hcq:=hdq.cell
   obtain ⟨cellsq,hcbq,hrowq⟩:=hdq.row
   have hlq:(⟨zis d keep j,0,-1,false⟩:Dk).cs.length=d.cs.length:=zbj d keep j
   rw [hlq] at hcq hrowq
   obtain ⟨c,hcc⟩:∃ c,c=d.cs[k]:=⟨_,rfl⟩
   have hsu:=Row.sub hrow (i:=k) (j:=0) (k:=65) (by simpa using hk2) (by omega)
   rw [List.getElem_map,← hcc] at hsu
   have e2:((eC c).cells.drop 0).take 65=c.s.1.map eB++[.bool c.bad]:=by rw [List.drop_zero,zhr,yk1Q (by simp [zzw])]
   rw [e2,Nat.add_zero] at hsu
   have hop:zcs d k=c.op:=by rw [zdo hk2,hcc]
   obtain ⟨y,hl,hvy,_,_⟩:=hd.look k
   rw [hop] at hvy hk3
   have hfew:=hok.few c (by rw [hcc];exact List.getElem_mem hk2)
   have hst:=hok.st
   have hfit:=hrowq.fits (i:=k) (by rw [yk3Q,zbj];exact hk2)
   have hcel:zrd d k=c:=by rw [zh1 hk2,hcc]
   have hfound:=fun z=>zzy c z hk3 (by omega)
   subst hx
   by_cases hke:keep=[]
   · have hka:keepAt keep j=0:=by simp [keepAt,hke]
     have hkl0:(0<(keep.length:Int))=False:=eq_false (by rw [hke];simp)
     (refine goX (nn hldx (nn hbx (nn @Nat.mul_one (nn hc (nn hcb (nn hcq (nn hcbq (nn hsu (nn hl (nn hkl0 @Int.toNat_natCast)))))))))) ?_;(repeat' (with_reducible apply Br.mk<;>intro _)))
     refine zgw (xs:=[eC c,y,.int .i64 (0)]) (hfound (0)) goD goD (zj9.cons (.refl _) (.cons hvy.lend (.cons (.refl _) .nil))) (by rintro _ rfl;exact zwo _) ?_
     rintro _ rfl
     have hrow3:=zm6 (cs:=zis d keep j) (by rw [zbj];exact hrowq) (k:=k) (by rw [zbj];exact hk2) (fun _=>kept c (keepAt keep j))
     rw [zdw (by rw [zbj];exact hk2),← hcel,← zpi (by rw [yliQ hj',hk1]),hcel] at hrow3
     obtain ⟨hokj,hopj⟩:=zky hok keep (j+1)
     obtain ⟨_,hopj0⟩:=zky hok keep j
     have hq3:=hdq.setC (d':=⟨zis d keep (j+1),0,-1,false⟩) hokj rfl rfl rfl (by rw [zbj,hlq]) (fun i=>by rw [hopj,hopj0]) (by rw [hlq];rw [zbj] at hrow3;exact hrow3)
     rw [hka] at hq3
     refine goS (nn hcbq hfit) ?_
     refine goR trivial ?_
     refine ⟨_,_,?_,zk9,j+1,_,by omega,rfl,hq3.close,rfl⟩
     omega
   · have hkl1:0<keep.length:=List.length_pos_iff.2 hke
     have hkl0:(0<(keep.length:Int))=True:=eq_true (by omega)
     have hmod:j % keep.length<keep.length:=Nat.mod_lt _ hkl1
     have hm:(j:Int).tmod keep.length=((j % keep.length:Nat):Int):=by rw [Int.tmod_eq_emod_of_nonneg (by omega)];rfl
     have hka:keepAt keep j=keep[j % keep.length]:=by simp [keepAt,hke,hmod]
     (refine goX (nn hldx (nn hbx (nn @Nat.mul_one (nn hc (nn hcb (nn hcq (nn hcbq (nn hsu (nn hl (nn hkl0 (nn hm (nn z1t @Int.toNat_natCast)))))))))))) ?_;(repeat' (with_reducible apply Br.mk<;>intro _)))
     refine zgw (xs:=[eC c,y,.int .i64 (keep[j % keep.length])]) (hfound (keep[j % keep.length])) goD goD (zj9.cons (.refl _) (.cons hvy.lend (.cons (.refl _) .nil))) (by rintro _ rfl;exact zwo _) ?_
     rintro _ rfl
     have hrow3:=zm6 (cs:=zis d keep j) (by rw [zbj];exact hrowq) (k:=k) (by rw [zbj];exact hk2) (fun _=>kept c (keepAt keep j))
     rw [zdw (by rw [zbj];exact hk2),← hcel,← zpi (by rw [yliQ hj',hk1]),hcel] at hrow3
     obtain ⟨hokj,hopj⟩:=zky hok keep (j+1)
     obtain ⟨_,hopj0⟩:=zky hok keep j
     have hq3:=hdq.setC (d':=⟨zis d keep (j+1),0,-1,false⟩) hokj rfl rfl rfl (by rw [zbj,hlq]) (fun i=>by rw [hopj,hopj0]) (by rw [hlq];rw [zbj] at hrow3;exact hrow3)
     rw [hka] at hq3
     refine goS (nn hcbq hfit) ?_
     refine goR trivial ?_
     refine ⟨_,_,?_,zk9,j+1,_,by omega,rfl,hq3.close,rfl⟩
     omega
 · obtain rfl:j=(zbl d).length:=by omega
   rw [z0r] at hs5
   refine goR trivial ?_
   exact Fin.eq rfl ⟨rfl,_,⟨q,rfl,rfl⟩,(hs5.cons fun _=>Sep.tail)⟩
