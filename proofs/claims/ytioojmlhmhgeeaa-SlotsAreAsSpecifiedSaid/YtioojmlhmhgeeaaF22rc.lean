/-
 Layer 21 (disk): the disk of the specification: Rot,Flip,Sync.
 Conditions: of each contract as it says.
-/
import Derived.Test.YtioojmlhmhgeeaaF22ra
import Derived.Test.YtioojmlhmhgeeaaS22c
import Derived.Test.YtioojmlhmhgeeaaF22c
namespace Go.Proofs.Ytioojmlhmhgeeaa
open Go Go.E2 C22
set_option linter.unusedSimpArgs false
set_option maxHeartbeats 1000000
theorem row_tail {cs:List Cel} {cap:Nat} {cells:List D} (hrow:Row 66 cs.length cap (cs.map eR) cells) {k:Nat} (hk:k < cs.length) :
 cells.drop (k*66+64)=[D.bool cs[k].bad,eL cs[k].op] ++ cells.drop (k*66+66):=by
 have hg:=hrow.get (i:=k) (by simpa using hk)
 rw [List.getElem_map] at hg
 have e1:cells.drop (k*66)=(eR cs[k]).cells ++ cells.drop (k*66+66):=by
  rw [← hg,← List.drop_drop,List.take_append_drop]
 rw [← List.drop_drop,e1,eR_cells,List.append_assoc,List.drop_left' (sec_len _)]
theorem row_sec {cs:List Cel} {cap:Nat} {cells:List D} (hrow:Row 66 cs.length cap (cs.map eR) cells) {k:Nat} (hk:k < cs.length) (t:Sec) :
 Row 66 cs.length cap ((cs.modify k fun c=>{ c with s:=t }).map eR) (cells.take (k*66) ++ t.1.map eB ++ cells.drop (k*66+64)):=by
 have:=row_rel hrow hk fun c=>{ c with s:=t }
 rw [row_tail hrow hk]
 simpa only [List.append_assoc] using this
theorem modify_both {α:Type} (l:List α) (k:Nat) (f g:α→α):(l.modify k f).modify k g=l.modify k fun x=>g (f x):=by
 apply List.ext_getElem?
 intro i
 rw [List.getElem?_modify,List.getElem?_modify,List.getElem?_modify]
 by_cases h:k=i
 · subst h;cases l[k]? <;> simp
 · cases l[i]? <;> simp [h]
theorem rRot_ok (p:Nat) (d:Dk) (i:Int):CallS Try.prog f_zz18 [.gp p 0,.int .i64 i] [RefA p d] (fun r post=>r=.d (.int .i64 (rot d i).2)∧post=[RefA p (rot d i).1]):=by
 refine callS_of_W fol zz18_cp fun R G σ hs=>?_
 obtain⟨cb,cap,hd⟩:=RefP.open hs
 have hc:=hd.cell
 obtain⟨cells,hcb,hrow⟩:=hd.row
 by_cases hk:chk d i=0
 · obtain⟨hdead,h0,h1⟩:=chk_zero hk
   obtain⟨k,rfl⟩:∃ k:Nat,i=k:=⟨i.toNat,by omega⟩
   have hkl:k < d.cs.length:=by omega
   obtain⟨hok,_⟩:=rot_ok hd.ok k
   have hw:rot d k=({ d with cs:=d.cs.modify k fun c=>{ c with s:=z0,bad:=true } },0):=by unfold rot;rw [if_neg (by rw [hk];simp),Int.toNat_natCast]
   rw [hw] at hok ⊢
   have hfit:=hrow.fits (i:=k) (by simpa using hkl)
   have e66:k*66+(64+(0+1))≤cells.length:=by omega
   have r1:=row_fld hrow hkl (j:=64) (by omega) (v:=.bool true) rfl (fun c=>{ c with bad:=true }) (by
    rw [eR_cells,eR_cells,List.set_append_right _ _ (by rw [sec_len];decide),sec_len];rfl)
   have hl1:(d.cs.modify k fun c=>{ c with bad:=true }).length=d.cs.length:=by simp
   rw [← hl1] at r1
   have r2:=row_sec r1 (k:=k) (by rw [hl1];exact hkl) z0
   rw [modify_both,hl1] at r2
   obtain⟨cells1,hc1⟩:∃ cells1,cells1=cells.take (k*66+64) ++ [D.bool true] ++ cells.drop (k*66+64+1):=⟨_,rfl⟩
   rw [← hc1] at r2
   have hlen1:cells1.length=cells.length:=by rw [hc1];simp;omega
   have e64:k*66+(0+64)≤cells1.length:=by omega
   have e64':k*66+64≤cells1.length:=by omega
   have hne:=Sep.neS hd.sep
   have hun:=upd_ne hne.symm
   have eset:(D.bool true)=.bool true:=rfl
   have fin:∀ G',G'=G.set cb (some (cells1.take (k*66) ++ z0.1.map eB ++ cells1.drop (k*66+64)))→Sep ([RefA p { d with cs:=d.cs.modify k fun c=>{ c with s:=z0,bad:=true } }] ++ R) G':=fun G' h=>by
    rw [h]
    exact (hd.setC hok rfl rfl rfl (by simp) r2).close
   refine goS trivial ?_
   (repeat' (first|(with_reducible first|refine W.seq ?_|refine W.block ?_)|((first|(with_reducible first|refine W.reg ?_|refine W.skip ?_|refine W.exit ?_|refine W.ret ?_|refine W.ifc ?_)|(apply wC_Q ((rcheck_ok p d k).q hs);(focus (simp -dsimp (disch:=first|omega|(simp only [go_sem];omega)) only [go_sem,seval,Nat.reduceEqDiff,Nat.reduceLeDiff,hk]<;>rfl));rintro _ rfl;try simp -dsimp (disch:=first|omega|(simp only [go_sem];omega)) only [go_sem,seval,Nat.reduceEqDiff,Nat.reduceLeDiff,hk])|((with_reducible first|refine wG_decE (fun _ hG=>?_) (fun _ hG=>?_)|refine wG_decFE (fun _ hG=>?_) (fun _ hG=>?_))<;>(try simp -dsimp only [hG,decide_true,decide_false,not_true_eq_false,not_false_eq_true])<;>clear hG))<;>(try simp -dsimp (disch:=first|omega|(simp only [go_sem];omega)) only [go_sem,seval,Nat.reduceEqDiff,Nat.reduceLeDiff,hk,hc,hcb,Int.toNat_natCast,e66,hun,← hc1,e64,e64']))|simp -dsimp (disch:=first|omega|(simp only [go_sem];omega)) only [go_sem,seval,Nat.reduceEqDiff,Nat.reduceLeDiff,hk,hc,hcb,Int.toNat_natCast,e66,hun,← hc1,e64,e64']))
   exact Fin.eq rfl ⟨rfl,_,⟨rfl,rfl⟩,fin _ rfl⟩
 · have hw:rot d i=(d,chk d i):=by unfold rot;rw [if_pos hk]
   refine goS trivial ?_
   (repeat' (first|(with_reducible first|refine W.seq ?_|refine W.block ?_)|((first|(with_reducible first|refine W.reg ?_|refine W.skip ?_|refine W.exit ?_|refine W.ret ?_|refine W.ifc ?_)|(apply wC_Q ((rcheck_ok p d i).q hs);(focus (simp -dsimp (disch:=first|omega|(simp only [go_sem];omega)) only [go_sem,seval,Nat.reduceEqDiff,Nat.reduceLeDiff,hk]<;>rfl));rintro _ rfl;try simp -dsimp (disch:=first|omega|(simp only [go_sem];omega)) only [go_sem,seval,Nat.reduceEqDiff,Nat.reduceLeDiff,hk])|((with_reducible first|refine wG_decE (fun _ hG=>?_) (fun _ hG=>?_)|refine wG_decFE (fun _ hG=>?_) (fun _ hG=>?_))<;>(try simp -dsimp only [hG,decide_true,decide_false,not_true_eq_false,not_false_eq_true])<;>clear hG))<;>(try simp -dsimp (disch:=first|omega|(simp only [go_sem];omega)) only [go_sem,seval,Nat.reduceEqDiff,Nat.reduceLeDiff,hk]))|simp -dsimp (disch:=first|omega|(simp only [go_sem];omega)) only [go_sem,seval,Nat.reduceEqDiff,Nat.reduceLeDiff,hk]))
   exact Fin.eq rfl ⟨rfl,_,⟨by rw [hw],by rw [hw]⟩,hs⟩
theorem rFlip_ok (p:Nat) (d:Dk) (i bit:Int):CallS Try.prog f_zz10 [.gp p 0,.int .i64 i,.int .i64 bit] [RefA p d] (fun r post=>r=.d (.int .i64 (flp d i bit).2)∧post=[RefA p (flp d i bit).1]):=by
 refine callS_of_W fol zz10_cp fun R G σ hs=>?_
 obtain⟨cb,cap,hd⟩:=RefP.open hs
 have hc:=hd.cell
 obtain⟨cells,hcb,hrow⟩:=hd.row
 by_cases hk:chk d i=0
 · obtain⟨hdead,h0,h1⟩:=chk_zero hk
   obtain⟨k,rfl⟩:∃ k:Nat,i=k:=⟨i.toNat,by omega⟩
   have hkl:k < d.cs.length:=by omega
   obtain⟨hok,_⟩:=flp_ok hd.ok k bit
   by_cases hb:bit < 0∨512≤bit
   · have hw:flp d k bit=(d,1):=by unfold flp;rw [if_neg (by rw [hk];simp),if_pos hb]
     rw [hw]
     refine goS trivial ?_
     (repeat' (first|(with_reducible first|refine W.seq ?_|refine W.block ?_)|((first|(with_reducible first|refine W.reg ?_|refine W.skip ?_|refine W.exit ?_|refine W.ret ?_|refine W.ifc ?_)|(apply wC_Q ((rcheck_ok p d k).q hs);(focus (simp -dsimp (disch:=first|omega|(simp only [go_sem];omega)) only [go_sem,seval,Nat.reduceEqDiff,Nat.reduceLeDiff,hk]<;>rfl));rintro _ rfl;try simp -dsimp (disch:=first|omega|(simp only [go_sem];omega)) only [go_sem,seval,Nat.reduceEqDiff,Nat.reduceLeDiff,hk])|((with_reducible first|refine wG_decE (fun _ hG=>?_) (fun _ hG=>?_)|refine wG_decFE (fun _ hG=>?_) (fun _ hG=>?_))<;>(try simp -dsimp only [hG,decide_true,decide_false,not_true_eq_false,not_false_eq_true])<;>clear hG))<;>(try simp -dsimp (disch:=first|omega|(simp only [go_sem];omega)) only [go_sem,seval,Nat.reduceEqDiff,Nat.reduceLeDiff,hk]))|simp -dsimp (disch:=first|omega|(simp only [go_sem];omega)) only [go_sem,seval,Nat.reduceEqDiff,Nat.reduceLeDiff,hk]))
     all_goals first|exact Fin.eq rfl ⟨rfl,_,⟨rfl,rfl⟩,hs⟩|(exfalso;omega)
   · have hw:flp d k bit=({ d with cs:=d.cs.modify k fun c=>if c.bad=true then c else { c with s:=flipS c.s bit.toNat } },0):=by unfold flp;rw [if_neg (by rw [hk];simp),if_neg hb,Int.toNat_natCast]
     rw [hw] at hok ⊢
     obtain⟨r1,r2,r3⟩:=rRow hrow hkl
     obtain⟨c,hcc⟩:∃ c,c=d.cs[k]:=⟨_,rfl⟩
     rw [← hcc] at r1 r2 r3
     obtain⟨t,rfl⟩:∃ t:Nat,bit=t:=⟨bit.toNat,by omega⟩
     have ht:t < 512:=by omega
     have hj:t / 8 < 64:=by omega
     have hlt:t / 8 < c.s.1.length:=by rw [c.s.2];exact hj
     have hq:(t:Int).tdiv 8=((t / 8:Nat):Int):=by rw [Int.tdiv_eq_ediv_of_nonneg (by omega)];omega
     have hm:(t:Int).tmod 8=((t % 8:Nat):Int):=by rw [Int.tmod_eq_emod_of_nonneg (by omega)];omega
     have hfl:=hrow.fld (i:=k) (j:=t / 8) (by simpa using hkl) (by omega)
     rw [List.getElem_map,← hcc] at hfl
     have e3:(eR c).cells[t / 8]?=some (eB c.s.1[t / 8]):=by rw [eR_cells,List.getElem?_append_left (by rw [sec_len];exact hj),List.getElem?_map,List.getElem?_eq_getElem hlt];rfl
     rw [e3] at hfl
     have hshl:=shl_u8 (n:=((t % 8:Nat):Int)) (by omega) (by omega)
     have hxor:binD .xor (.int .u8 (c.s.1[t / 8].toNat:Int)) (.int .u8 ((2 ^ (t % 8):Nat):Int))=some (eB (c.s.1[t / 8] ^^^ (1 <<< UInt8.ofNat (t % 8)))):=by
      have hp:2 ^ (t % 8)≤128:=by
       have:t % 8≤7:=by omega
       exact Nat.pow_le_pow_right (by omega) this
      rw [xor_u8 (Int.natCast_nonneg _) (Int.natCast_nonneg _) (by have:=c.s.1[t / 8].toNat_lt;omega) (Int.ofNat_le.2 (Nat.le_trans hp (by decide))),eB,bit_xor _ (Nat.mod_lt _ (by omega))]
      rfl
     simp only [eB] at hfl hxor
     have hb1:((t:Int) < 0)=False:=eq_false (by omega)
     have hb2:(511 < (t:Int))=False:=eq_false (by omega)
     cases hbd:c.bad
     · rw [hbd] at r2
       have e1:k*66+t / 8+1≤cells.length:=by have:=hrow.fits (i:=k) (by simpa using hkl);omega
       have hset:=row_fld hrow hkl (j:=t / 8) (by omega) (v:=eB (c.s.1[t / 8] ^^^ (1 <<< UInt8.ofNat (t % 8)))) rfl (fun c=>if c.bad=true then c else { c with s:=flipS c.s t }) (by
        simp only [← hcc,hbd,Bool.false_eq_true,if_false,eR_cells,flipS]
        rw [modify_set hlt,List.map_set]
        exact List.set_append_left _ _ (by rw [sec_len];exact hj))
       simp only [eB] at hset
       have fin:∀ G',G'=G.set cb (some (cells.take (k*66+t / 8) ++ [.int .u8 ((c.s.1[t / 8] ^^^ (1 <<< UInt8.ofNat (t % 8))).toNat:Int)] ++ cells.drop (k*66+t / 8+1)))→Sep ([RefA p { d with cs:=d.cs.modify k fun c=>if c.bad=true then c else { c with s:=flipS c.s (t:Int).toNat } }] ++ R) G':=fun G' h=>by
        rw [h]
        exact (hd.setC hok rfl rfl rfl (by simp) hset).close
       refine goS trivial ?_
       (repeat' (first|(with_reducible first|refine W.seq ?_|refine W.block ?_)|((first|(with_reducible first|refine W.reg ?_|refine W.skip ?_|refine W.exit ?_|refine W.ret ?_|refine W.ifc ?_)|(apply wC_Q ((rcheck_ok p d k).q hs);(focus (simp -dsimp (disch:=first|omega|(simp only [go_sem];omega)) only [go_sem,seval,Nat.reduceEqDiff,Nat.reduceLeDiff,hk]<;>rfl));rintro _ rfl;try simp -dsimp (disch:=first|omega|(simp only [go_sem];omega)) only [go_sem,seval,Nat.reduceEqDiff,Nat.reduceLeDiff,hk])|((with_reducible first|refine wG_decE (fun _ hG=>?_) (fun _ hG=>?_)|refine wG_decFE (fun _ hG=>?_) (fun _ hG=>?_))<;>(try simp -dsimp only [hG,decide_true,decide_false,not_true_eq_false,not_false_eq_true])<;>clear hG))<;>(try simp -dsimp (disch:=first|omega|(simp only [go_sem];omega)) only [go_sem,seval,Nat.reduceEqDiff,Nat.reduceLeDiff,hk,hc,hcb,Int.toNat_natCast,r2,hb1,hb2,hq,hm,hfl,hshl,hxor,e1,Nat.mul_one]))|simp -dsimp (disch:=first|omega|(simp only [go_sem];omega)) only [go_sem,seval,Nat.reduceEqDiff,Nat.reduceLeDiff,hk,hc,hcb,Int.toNat_natCast,r2,hb1,hb2,hq,hm,hfl,hshl,hxor,e1,Nat.mul_one]))
       exact Fin.eq rfl ⟨rfl,_,⟨rfl,rfl⟩,fin _ rfl⟩
     · rw [hbd] at r2
       refine goS trivial ?_
       (repeat' (first|(with_reducible first|refine W.seq ?_|refine W.block ?_)|((first|(with_reducible first|refine W.reg ?_|refine W.skip ?_|refine W.exit ?_|refine W.ret ?_|refine W.ifc ?_)|(apply wC_Q ((rcheck_ok p d k).q hs);(focus (simp -dsimp (disch:=first|omega|(simp only [go_sem];omega)) only [go_sem,seval,Nat.reduceEqDiff,Nat.reduceLeDiff,hk]<;>rfl));rintro _ rfl;try simp -dsimp (disch:=first|omega|(simp only [go_sem];omega)) only [go_sem,seval,Nat.reduceEqDiff,Nat.reduceLeDiff,hk])|((with_reducible first|refine wG_decE (fun _ hG=>?_) (fun _ hG=>?_)|refine wG_decFE (fun _ hG=>?_) (fun _ hG=>?_))<;>(try simp -dsimp only [hG,decide_true,decide_false,not_true_eq_false,not_false_eq_true])<;>clear hG))<;>(try simp -dsimp (disch:=first|omega|(simp only [go_sem];omega)) only [go_sem,seval,Nat.reduceEqDiff,Nat.reduceLeDiff,hk,hc,hcb,Int.toNat_natCast,r2,hb1,hb2]))|simp -dsimp (disch:=first|omega|(simp only [go_sem];omega)) only [go_sem,seval,Nat.reduceEqDiff,Nat.reduceLeDiff,hk,hc,hcb,Int.toNat_natCast,r2,hb1,hb2]))
       have hsame:({ d with cs:=d.cs.modify k fun c=>if c.bad=true then c else { c with s:=flipS c.s (t:Int).toNat } }:Dk)=d:=by
        have:d.cs.modify k (fun c=>if c.bad=true then c else { c with s:=flipS c.s (t:Int).toNat })=d.cs:=by
         rw [modify_set hkl,← hcc,if_pos hbd,hcc,List.set_getElem_self]
        rw [this]
       rw [hsame]
       exact Fin.eq rfl ⟨rfl,_,⟨rfl,rfl⟩,hs⟩
 · have hw:flp d i bit=(d,chk d i):=by unfold flp;rw [if_pos hk]
   refine goS trivial ?_
   (repeat' (first|(with_reducible first|refine W.seq ?_|refine W.block ?_)|((first|(with_reducible first|refine W.reg ?_|refine W.skip ?_|refine W.exit ?_|refine W.ret ?_|refine W.ifc ?_)|(apply wC_Q ((rcheck_ok p d i).q hs);(focus (simp -dsimp (disch:=first|omega|(simp only [go_sem];omega)) only [go_sem,seval,Nat.reduceEqDiff,Nat.reduceLeDiff,hk]<;>rfl));rintro _ rfl;try simp -dsimp (disch:=first|omega|(simp only [go_sem];omega)) only [go_sem,seval,Nat.reduceEqDiff,Nat.reduceLeDiff,hk])|((with_reducible first|refine wG_decE (fun _ hG=>?_) (fun _ hG=>?_)|refine wG_decFE (fun _ hG=>?_) (fun _ hG=>?_))<;>(try simp -dsimp only [hG,decide_true,decide_false,not_true_eq_false,not_false_eq_true])<;>clear hG))<;>(try simp -dsimp (disch:=first|omega|(simp only [go_sem];omega)) only [go_sem,seval,Nat.reduceEqDiff,Nat.reduceLeDiff,hk]))|simp -dsimp (disch:=first|omega|(simp only [go_sem];omega)) only [go_sem,seval,Nat.reduceEqDiff,Nat.reduceLeDiff,hk]))
   exact Fin.eq rfl ⟨rfl,_,⟨by rw [hw],by rw [hw]⟩,hs⟩
theorem sl_row {A:As} {n cap cb:Nat} {es:List D} {R:List As} {G:Gh} (h:Sep (A::SlA 66 (.gs cb 0 n cap) es::R) G) (hne:es≠[]) (hl:es.length=n):∃ cs,G.c cb=some cs∧Row 66 n cap es cs:=by
 obtain⟨b,cap',cs,e,h1,h2⟩:=h.tail.gv.inv hne
 simp only [D.gs.injEq] at e
 obtain⟨rfl,_,_,rfl⟩:=e
 rw [hl] at h2
 exact⟨cs,h1,h2⟩
theorem rSync_ok (p:Nat) (d:Dk) (hn:d.steps≤1000000000):CallS Try.prog f_zz12 [.gp p 0] [RefA p d] (fun r post=>r=.d (.int .i64 (sy d).2)∧post=[RefA p (sy d).1]):=by
 refine callS_of_W fol zz12_cp fun R G σ hs=>?_
 obtain⟨cb0,cap0,hd0⟩:=RefP.open hs
 have hc0:=hd0.cell
 obtain⟨hok,_⟩:=sy_ok hd0.ok hn
 by_cases hdead:d.dead=true
 · have hw:sy d=(d,12):=by unfold sy;rw [if_pos hdead]
   rw [hw]
   refine goS trivial ?_
   (repeat' (first|(with_reducible first|refine W.seq ?_|refine W.block ?_)|((first|(with_reducible first|refine W.reg ?_|refine W.skip ?_|refine W.exit ?_|refine W.ret ?_|refine W.ifc ?_)|((with_reducible first|refine wG_decE (fun _ hG=>?_) (fun _ hG=>?_)|refine wG_decFE (fun _ hG=>?_) (fun _ hG=>?_))<;>(try simp -dsimp only [hG,decide_true,decide_false,not_true_eq_false,not_false_eq_true])<;>clear hG))<;>(try simp -dsimp (disch:=first|omega|(simp only [go_sem];omega)) only [go_sem,seval,Nat.reduceEqDiff,Nat.reduceLeDiff,hc0,hdead]))|simp -dsimp (disch:=first|omega|(simp only [go_sem];omega)) only [go_sem,seval,Nat.reduceEqDiff,Nat.reduceLeDiff,hc0,hdead]))
   exact Fin.eq rfl ⟨rfl,_,⟨rfl,rfl⟩,hs⟩
 have hdead':d.dead=false:=by simpa using hdead
 obtain⟨_,_,_,hscs⟩:=stp_ok hd0.ok hn
 have hw:sy d=if (stp d).2≠0 then stp d else ({ (stp d).1 with cs:=d.cs.map syC },0):=by unfold sy;rw [if_neg hdead]
 rw [hw] at hok ⊢
 refine goS trivial ?_
 (repeat' (first|(with_reducible first|refine W.seq ?_|refine W.block ?_)|((first|(with_reducible first|refine W.reg ?_|refine W.skip ?_|refine W.exit ?_|refine W.ret ?_|refine W.ifc ?_)|((with_reducible first|refine wG_decE (fun _ hG=>?_) (fun _ hG=>?_)|refine wG_decFE (fun _ hG=>?_) (fun _ hG=>?_))<;>(try simp -dsimp only [hG,decide_true,decide_false,not_true_eq_false,not_false_eq_true])<;>clear hG))<;>(try simp -dsimp (disch:=first|omega|(simp only [go_sem];omega)) only [go_sem,seval,Nat.reduceEqDiff,Nat.reduceLeDiff,hc0,hdead']))|simp -dsimp (disch:=first|omega|(simp only [go_sem];omega)) only [go_sem,seval,Nat.reduceEqDiff,Nat.reduceLeDiff,hc0,hdead']))
 (refine goM (rstep_ok p d hn) (hs) ?_)
 rintro _ _ G2 ⟨rfl,rfl⟩ hs2'
 have hs2:Sep (RefA p (stp d).1::R) G2:=hs2'
 clear hs2'
 have he12:(stp d).2=0∨(stp d).2=12:=by
  unfold stp
  split
  · exact .inr rfl
  · exact .inl rfl
 obtain⟨d1,e1,hd1⟩:∃ d1 e1,(d1,e1)=stp d:=⟨_,_,rfl⟩
 rw [← hd1] at hok hs2 hscs he12 ⊢
 simp only at hok hs2 hscs he12 ⊢
 rcases he12 with rfl|rfl
 · rw [if_neg (by simp)] at hok ⊢
   rw [← hscs] at hok ⊢
   obtain⟨cb,cap,hd2⟩:=RefP.open hs2
   have hpos:=hd2.ok.pos
   have hmost:=hd2.ok.most
   have dt:decide ((0:Int)=0)=true:=rfl
   refine goS trivial ?_
   (repeat' (first|(with_reducible first|refine W.seq ?_|refine W.block ?_)|((first|(with_reducible first|refine W.reg ?_|refine W.skip ?_|refine W.exit ?_|refine W.ret ?_|refine W.ifc ?_)|((with_reducible first|refine wG_decE (fun _ hG=>?_) (fun _ hG=>?_)|refine wG_decFE (fun _ hG=>?_) (fun _ hG=>?_))<;>(try simp -dsimp only [hG,decide_true,decide_false,not_true_eq_false,not_false_eq_true])<;>clear hG))<;>(try simp -dsimp (disch:=first|omega|(simp only [go_sem];omega)) only [go_sem,seval,Nat.reduceEqDiff,Nat.reduceLeDiff,dt]))|simp -dsimp (disch:=first|omega|(simp only [go_sem];omega)) only [go_sem,seval,Nat.reduceEqDiff,Nat.reduceLeDiff,dt]))
   refine W.loop (fun z st=>∃ (i:Nat) (G:Gh),i≤d1.cs.length∧z=d1.cs.length - i∧Sep (CellA p [.gs cb 0 d1.cs.length cap,eI d1.steps,eI d1.after,.bool d1.dead]::SlA 66 (.gs cb 0 d1.cs.length cap) ((syT d1.cs i).map eR)::R) G ∧
    st=(E [(0,.d (.gp p 0)),(4,.d (.int .i64 i))],HB [],σ,G))
    ⟨_,_,stle,0,G2,by omega,rfl,by rw [syT_zero];exact hd2.sep,rfl⟩ ?_
   rintro z st ⟨i,G3,hi,rfl,hs3,rfl⟩
   have hc3:=hs3.get
   obtain⟨cells,hcb,hrow0⟩:=sl_row hs3 (by intro e;rw [List.map_eq_nil_iff] at e;have:=syT_len d1.cs i;rw [e] at this;simp at this;omega) (by rw [List.length_map,syT_len])
   have hrow:Row 66 (syT d1.cs i).length cap ((syT d1.cs i).map eR) cells:=by rw [syT_len];exact hrow0
   refine goR hc3 ?_
   refine wG_dec (fun g1=>?_) (fun g1=>?_)
   · have hil:i < d1.cs.length:=by omega
     have hil2:i < (syT d1.cs i).length:=by rw [syT_len];exact hil
     obtain⟨r1,r2,r3⟩:=rRow hrow hil2
     rw [syT_get hil] at r3
     have hsucc:=syT_succ hil
     by_cases hop:d1.cs[i].op=[]
     · have el:eL d1.cs[i].op=.nilS:=by unfold eL;rw [if_pos hop]
       have hsame:syT d1.cs (i+1)=syT d1.cs i:=by
        rw [hsucc]
        have:syC d1.cs[i]=(syT d1.cs i)[i]:=by rw [syT_get hil];unfold syC;rw [hop];rfl
        rw [this,List.set_getElem_self]
       rw [el] at r3
       (repeat' (first|(with_reducible first|refine W.seq ?_|refine W.block ?_)|((first|(with_reducible first|refine W.reg ?_|refine W.skip ?_|refine W.exit ?_|refine W.ret ?_|refine W.ifc ?_)|((with_reducible first|refine wG_decE (fun _ hG=>?_) (fun _ hG=>?_)|refine wG_decFE (fun _ hG=>?_) (fun _ hG=>?_))<;>(try simp -dsimp only [hG,decide_true,decide_false,not_true_eq_false,not_false_eq_true])<;>clear hG))<;>(try simp -dsimp (disch:=first|omega|(simp only [go_sem];omega)) only [go_sem,seval,Nat.reduceEqDiff,Nat.reduceLeDiff,hc3,hcb,r3,Int.toNat_natCast]))|simp -dsimp (disch:=first|omega|(simp only [go_sem];omega)) only [go_sem,seval,Nat.reduceEqDiff,Nat.reduceLeDiff,hc3,hcb,r3,Int.toNat_natCast]))
       refine⟨_,_,?_,stle,i+1,G3,by omega,rfl,by rw [hsame];exact hs3,rfl⟩
       omega
     · have el:eL d1.cs[i].op=.list (d1.cs[i].op.map eS):=by unfold eL;rw [if_neg hop]
       have hl0:0 < d1.cs[i].op.length:=List.length_pos_iff.2 hop
       have hfew:=hd2.ok.few _ (List.getElem_mem hil)
       have hst1:=hd2.ok.st
       have hgt:(0 < (d1.cs[i].op.length:Int))=True:=eq_true (by omega)
       have e3:((d1.cs[i].op.length:Int) - 1).toNat=d1.cs[i].op.length - 1:=by omega
       have e66:i*66+66≤cells.length:=hrow.fits (i:=i) (by simpa using hil2)
       have hsy:syC d1.cs[i]=⟨d1.cs[i].op[d1.cs[i].op.length - 1],false,[]⟩:=by
        unfold syC
        rw [List.getLast?_eq_some_getLast hop,List.getLast_eq_getElem]
       have hr2:=row_rel hrow hil2 fun _=>syC d1.cs[i]
       rw [modify_set hil2,← hsucc] at hr2
       simp only [hsy] at hr2
       rw [syT_len] at hr2
       have eln:eL []=.nilS:=rfl
       rw [eln] at hr2
       have hs4:=(Sep.slSet hs3.swap hr2).swap
       rw [el] at r3
       (repeat' (first|(with_reducible first|refine W.seq ?_|refine W.block ?_)|((first|(with_reducible first|refine W.reg ?_|refine W.skip ?_|refine W.exit ?_|refine W.ret ?_|refine W.ifc ?_)|((with_reducible first|refine wG_decE (fun _ hG=>?_) (fun _ hG=>?_)|refine wG_decFE (fun _ hG=>?_) (fun _ hG=>?_))<;>(try simp -dsimp only [hG,decide_true,decide_false,not_true_eq_false,not_false_eq_true])<;>clear hG))<;>(try simp -dsimp (disch:=first|omega|(simp only [go_sem];omega)) only [go_sem,seval,Nat.reduceEqDiff,Nat.reduceLeDiff,hc3,hcb,r3,Int.toNat_natCast,hgt,e3,e66]))|simp -dsimp (disch:=first|omega|(simp only [go_sem];omega)) only [go_sem,seval,Nat.reduceEqDiff,Nat.reduceLeDiff,hc3,hcb,r3,Int.toNat_natCast,hgt,e3,e66]))
       refine⟨_,_,?_,stle,i+1,_,by omega,rfl,hs4,rfl⟩
       omega
   · obtain rfl:i=d1.cs.length:=by omega
     (repeat' (first|(with_reducible first|refine W.seq ?_|refine W.block ?_)|((first|(with_reducible first|refine W.reg ?_|refine W.skip ?_|refine W.exit ?_|refine W.ret ?_|refine W.ifc ?_)|((with_reducible first|refine wG_decE (fun _ hG=>?_) (fun _ hG=>?_)|refine wG_decFE (fun _ hG=>?_) (fun _ hG=>?_))<;>(try simp -dsimp only [hG,decide_true,decide_false,not_true_eq_false,not_false_eq_true])<;>clear hG))<;>(try simp -dsimp (disch:=first|omega|(simp only [go_sem];omega)) only [go_sem,seval,Nat.reduceEqDiff,Nat.reduceLeDiff,hc3]))|simp -dsimp (disch:=first|omega|(simp only [go_sem];omega)) only [go_sem,seval,Nat.reduceEqDiff,Nat.reduceLeDiff,hc3]))
     rw [syT_end] at hs3
     exact Fin.eq rfl ⟨rfl,_,⟨rfl,rfl⟩,(RefP.mk (cb:=cb) (cap:=cap) hok (by simpa using hs3)).close⟩
 · rw [if_pos (by decide)] at hok ⊢
   have df:decide ((12:Int)=0)=false:=rfl
   refine goS trivial ?_
   (repeat' (first|(with_reducible first|refine W.seq ?_|refine W.block ?_)|((first|(with_reducible first|refine W.reg ?_|refine W.skip ?_|refine W.exit ?_|refine W.ret ?_|refine W.ifc ?_)|((with_reducible first|refine wG_decE (fun _ hG=>?_) (fun _ hG=>?_)|refine wG_decFE (fun _ hG=>?_) (fun _ hG=>?_))<;>(try simp -dsimp only [hG,decide_true,decide_false,not_true_eq_false,not_false_eq_true])<;>clear hG))<;>(try simp -dsimp (disch:=first|omega|(simp only [go_sem];omega)) only [go_sem,seval,Nat.reduceEqDiff,Nat.reduceLeDiff,df]))|simp -dsimp (disch:=first|omega|(simp only [go_sem];omega)) only [go_sem,seval,Nat.reduceEqDiff,Nat.reduceLeDiff,df]))
   exact Fin.eq rfl ⟨rfl,_,⟨rfl,rfl⟩,hs2⟩
end Go.Proofs.Ytioojmlhmhgeeaa
/-
 Layer 21 (disk): the disk of the specification: what a failure keeps of a sector.
 Conditions: of each contract as it says.
-/
namespace Go.Proofs.Ytioojmlhmhgeeaa
open Go Go.E2 C22
set_option linter.unusedSimpArgs false
set_option maxHeartbeats 1000000
def mix (lv bv:Sec) (i:Nat):List UInt8:=lv.1.take 32 ++ (bv.1.drop 32).take (i - 32) ++ lv.1.drop i
theorem mix_len (lv bv:Sec) {i:Nat} (h1:32≤i) (h2:i≤64):(mix lv bv i).length=64:=by
 unfold mix
 simp only [List.length_append,List.length_take,List.length_drop,lv.2,bv.2]
 omega
theorem mix_32 (lv bv:Sec):mix lv bv 32=lv.1:=by unfold mix;simp
theorem mix_64 (lv bv:Sec):mix lv bv 64=(torn bv lv).1:=by
 unfold mix torn
 simp only
 rw [List.drop_of_length_le (l:=lv.1) (by rw [lv.2];decide),List.append_nil,List.take_of_length_le (l:=bv.1.drop 32) (by rw [List.length_drop,bv.2];decide)]
theorem mix_succ (lv bv:Sec) {i:Nat} (h1:32≤i) (h2:i < 64):((mix lv bv i).map eB).take i ++ [eB (bv.1[i]'(by rw [bv.2];exact h2))] ++ ((mix lv bv i).map eB).drop (i+1)=(mix lv bv (i+1)).map eB:=by
 have hl:(lv.1.take 32 ++ (bv.1.drop 32).take (i - 32)).length=i:=by
  simp only [List.length_append,List.length_take,List.length_drop,lv.2,bv.2];omega
 have e1:(mix lv bv i).take i=lv.1.take 32 ++ (bv.1.drop 32).take (i - 32):=by unfold mix;rw [List.take_left' hl]
 have e2:(mix lv bv i).drop (i+1)=lv.1.drop (i+1):=by
  unfold mix
  rw [← List.drop_drop,List.drop_left' hl,List.drop_drop]
 rw [← List.map_take,← List.map_drop,e1,e2]
 unfold mix
 have e3:(bv.1.drop 32).take (i+1 - 32)=(bv.1.drop 32).take (i - 32) ++ [bv.1[i]'(by rw [bv.2];exact h2)]:=by
  rw [show i+1 - 32=(i - 32)+1 by omega,List.take_add_one,List.getElem?_drop,show 32+(i - 32)=i by omega,List.getElem?_eq_getElem (by rw [bv.2];exact h2)]
  rfl
 rw [e3]
 simp only [List.map_append,List.map_cons,List.map_nil,List.append_assoc]
theorem rkept_ok (c:Cel) (x:Int) (hne:c.op≠[]) (hl:c.op.length≤2000000000) (hbad:c.bad=true→c.s=z0):CallP Try.prog f_zz30 [eR c,.int .i64 x] (·=.d (eR (kept c x))):=by
 refine CallP.of_deep (callT_of_W fol zz30_cp ?_)
 have hl0:0 < c.op.length:=List.length_pos_iff.2 hne
 obtain⟨b1,b2⟩:=rem_bounds c.op.length x
 obtain⟨b3,b4⟩:=rem_pos c.op.length x
 have hr:((x.tmod (c.op.length+3)+c.op.length)+3).tmod (c.op.length+3)=remOf c.op.length x:=rfl
 have eop:eL c.op=.list (c.op.map eS):=by unfold eL;rw [if_neg hne]
 have er:eR c=.agg (c.s.1.map eB ++ [.bool c.bad,.list (c.op.map eS)]):=by unfold eR;rw [eop]
 have hcl:=rCel_len c.s c.bad (.list (c.op.map eS))
 have hc64:=rCel_64 c.s c.bad (.list (c.op.map eS))
 have hc65:=rCel_65 c.s c.bad (.list (c.op.map eS))
 have hc0:=rCel_0 c.s c.bad (.list (c.op.map eS))
 have hzz:zr 64 (D.int .u8 0) ++ [.bool false,.nilS]=z0.1.map eB ++ [.bool false,.nilS]:=rfl
 have hzl:=rCel_len z0 false .nilS
 rw [er]
 refine goS (nn hcl hc65) ?_
 (repeat' (first|(with_reducible first|refine W.seq ?_|refine W.block ?_)|((first|(with_reducible first|refine W.reg ?_|refine W.skip ?_|refine W.exit ?_|refine W.ret ?_|refine W.ifc ?_)|((with_reducible first|refine wG_decE (fun _ hG=>?_) (fun _ hG=>?_)|refine wG_decFE (fun _ hG=>?_) (fun _ hG=>?_))<;>(try simp -dsimp only [hG,decide_true,decide_false,not_true_eq_false,not_false_eq_true])<;>clear hG))<;>(try simp -dsimp (disch:=first|omega|(simp only [go_sem];omega)) only [go_sem,seval,Nat.reduceEqDiff,Nat.reduceLeDiff,hr,hcl,hc64,hc65,hc0,hzz,hzl]))|simp -dsimp (disch:=first|omega|(simp only [go_sem];omega)) only [go_sem,seval,Nat.reduceEqDiff,Nat.reduceLeDiff,hr,hcl,hc64,hc65,hc0,hzz,hzl]))
 · rename_i h
   have hk:kept c x=⟨c.s,c.bad,[]⟩:=by unfold kept;rw [if_pos h]
   (apply Fin.eq;(focus (simp -dsimp (disch:=first|omega|(simp only [go_sem];omega)) only [go_sem,seval,Nat.reduceEqDiff,Nat.reduceLeDiff]<;>rfl)))
   exact⟨rfl,_,.refl _,by rw [hk,List.append_assoc];rfl⟩
 · rename_i h h'
   have e1:(remOf c.op.length x - 1).toNat=(remOf c.op.length x).toNat - 1:=by omega
   have hk:kept c x=⟨c.op[(remOf c.op.length x - 1).toNat],false,[]⟩:=by
    unfold kept;rw [if_neg h,if_pos h',← e1,List.getElem?_eq_getElem (by omega)];rfl
   (apply Fin.eq;(focus (simp -dsimp (disch:=first|omega|(simp only [go_sem];omega)) only [go_sem,seval,Nat.reduceEqDiff,Nat.reduceLeDiff]<;>rfl)))
   exact⟨rfl,_,.refl _,by rw [hk];rfl⟩
 · rename_i h h' h''
   have hk:kept c x=⟨z0,true,[]⟩:=by unfold kept;rw [if_neg h,if_neg h',if_pos h'']
   (apply Fin.eq;(focus (simp -dsimp (disch:=first|omega|(simp only [go_sem];omega)) only [go_sem,seval,Nat.reduceEqDiff,Nat.reduceLeDiff]<;>rfl)))
   exact⟨rfl,_,.refl _,by rw [hk,List.append_assoc];rfl⟩
 · rename_i h h' h''
   have hk:kept c x=⟨torn (if 1 < c.op.length then (c.op[c.op.length - 2]?).getD z0 else c.s) ((c.op[c.op.length - 1]?).getD z0),false,[]⟩:=by unfold kept;rw [if_neg h,if_neg h',if_neg h'']
   have hlast:(c.op[c.op.length - 1]?).getD z0=c.op[((c.op.length:Int) - 1).toNat]'(by omega):=by
    have e:((c.op.length:Int) - 1).toNat=c.op.length - 1:=by omega
    simp only [e]
    rw [List.getElem?_eq_getElem (by omega)];rfl
   rw [hlast] at hk
   generalize hlv:c.op[((c.op.length:Int) - 1).toNat]'(by omega)=lv at hk
   have hcs:(c.bad=true∧zr 64 (D.int .u8 0)=c.s.1.map eB)∨(c.bad=false∧True):=by
    cases hb:c.bad with
    | true=>exact .inl ⟨rfl,by rw [hbad hb];rfl⟩
    | false=>exact .inr ⟨rfl,trivial⟩
   have h1c:((1 < (c.op.length:Int))=True∧1 < c.op.length)∨((1 < (c.op.length:Int))=False∧¬ 1 < c.op.length):=by
    by_cases h1:1 < c.op.length
    · exact .inl ⟨eq_true (by omega),h1⟩
    · exact .inr ⟨eq_false (by omega),h1⟩
   obtain⟨bv,hbv⟩:∃ bv,bv=if 1 < c.op.length then (c.op[c.op.length - 2]?).getD z0 else c.s:=⟨_,rfl⟩
   rw [← hbv] at hk
   refine h1c.elim (fun h=>?ka) (fun h=>?kb)
   case' ka =>
    obtain⟨e1,h1⟩:=h
    rw [if_pos h1] at hbv
    have hb2:bv=c.op[((c.op.length:Int) - 2).toNat]'(by omega):=by
     have e:((c.op.length:Int) - 2).toNat=c.op.length - 2:=by omega
     simp only [e]
     rw [hbv,List.getElem?_eq_getElem (by omega)];rfl
    rcases hcs with ⟨hb,hz⟩|⟨hb,hz⟩
    all_goals
     refine goS hb ?_
     (repeat' (first|(with_reducible first|refine W.seq ?_|refine W.block ?_)|((first|(with_reducible first|refine W.reg ?_|refine W.skip ?_|refine W.exit ?_|refine W.ret ?_|refine W.ifc ?_)|((with_reducible first|refine wG_decE (fun _ hG=>?_) (fun _ hG=>?_)|refine wG_decFE (fun _ hG=>?_) (fun _ hG=>?_))<;>(try simp -dsimp only [hG,decide_true,decide_false,not_true_eq_false,not_false_eq_true])<;>clear hG))<;>(try simp -dsimp (disch:=first|omega|(simp only [go_sem];omega)) only [go_sem,seval,Nat.reduceEqDiff,Nat.reduceLeDiff,hb,hcl,hc65,hc0,e1,hlv,← hb2]))|simp -dsimp (disch:=first|omega|(simp only [go_sem];omega)) only [go_sem,seval,Nat.reduceEqDiff,Nat.reduceLeDiff,hb,hcl,hc65,hc0,e1,hlv,← hb2]))
   case' kb =>
    obtain⟨e1,h1⟩:=h
    rw [if_neg h1] at hbv
    rcases hcs with ⟨hb,hz⟩|⟨hb,hz⟩
    all_goals
     refine goS hb ?_
     (repeat' (first|(with_reducible first|refine W.seq ?_|refine W.block ?_)|((first|(with_reducible first|refine W.reg ?_|refine W.skip ?_|refine W.exit ?_|refine W.ret ?_|refine W.ifc ?_)|((with_reducible first|refine wG_decE (fun _ hG=>?_) (fun _ hG=>?_)|refine wG_decFE (fun _ hG=>?_) (fun _ hG=>?_))<;>(try simp -dsimp only [hG,decide_true,decide_false,not_true_eq_false,not_false_eq_true])<;>clear hG))<;>(try simp -dsimp (disch:=first|omega|(simp only [go_sem];omega)) only [go_sem,seval,Nat.reduceEqDiff,Nat.reduceLeDiff,hb,hcl,hc65,hc0,e1,hlv]))|simp -dsimp (disch:=first|omega|(simp only [go_sem];omega)) only [go_sem,seval,Nat.reduceEqDiff,Nat.reduceLeDiff,hb,hcl,hc65,hc0,e1,hlv]))
    all_goals
     try rw [hz]
     rw [← hbv]
   all_goals
    refine W.loop (fun z st=>∃ (i:Nat) (b2:Blk) (m:List D),32≤i∧i≤64∧z=64 - i∧m=(mix lv bv i).map eB∧st=(E [(4,.ptr 0 4 1 0),(7,.ptr 0 7 1 0),(8,.ptr 0 8 1 0),(9,.d (.int .i64 i))],HB [(2,b2),(4,⟨1,some (z0.1.map eB ++ [.bool false,.nilS])⟩),(7,⟨1,some (bv.1.map eB)⟩),(8,⟨1,some m⟩)],[],noGh))
     ⟨_,_,stle,32,_,_,by omega,by omega,rfl,by rw [mix_32],rfl⟩ ?_
    rintro z st ⟨i,b2,_,hi1,hi2,rfl,rfl,rfl⟩
    have hml:((mix lv bv i).map eB).length=64:=by rw [List.length_map];exact mix_len lv bv hi1 hi2
    refine goR trivial ?_
    refine wG_dec (fun g1=>?_) (fun g1=>?_)
    · have hi3:i < 64:=by omega
      have hgb:(List.drop (i*1) (bv.1.map eB)).head?=some (eB (bv.1[i]'(by rw [bv.2];exact hi3))):=by rw [Nat.mul_one,List.head?_drop,List.getElem?_map,List.getElem?_eq_getElem (by rw [bv.2];exact hi3)];rfl
      have hms:=mix_succ lv bv hi1 hi3
      generalize (bv.1[i]'(by rw [bv.2];exact hi3))=vv at hgb hms
      simp only [eB] at hgb hms
      have h63:i*1≤63:=by omega
      (repeat' (first|(with_reducible first|refine W.seq ?_|refine W.block ?_)|((first|(with_reducible first|refine W.reg ?_|refine W.skip ?_|refine W.exit ?_|refine W.ret ?_|refine W.ifc ?_)|((with_reducible first|refine wG_decE (fun _ hG=>?_) (fun _ hG=>?_)|refine wG_decFE (fun _ hG=>?_) (fun _ hG=>?_))<;>(try simp -dsimp only [hG,decide_true,decide_false,not_true_eq_false,not_false_eq_true])<;>clear hG))<;>(try simp -dsimp (disch:=first|omega|(simp only [go_sem];omega)) only [go_sem,seval,Nat.reduceEqDiff,Nat.reduceLeDiff,hgb,hml,h63]))|simp -dsimp (disch:=first|omega|(simp only [go_sem];omega)) only [go_sem,seval,Nat.reduceEqDiff,Nat.reduceLeDiff,hgb,hml,h63]))
      refine⟨_,_,?_,stle,i+1,_,_,by omega,by omega,rfl,(by simpa only [Nat.mul_one] using hms),rfl⟩
      omega
    · obtain rfl:i=64:=by omega
      rw [mix_64]
      (repeat' (first|(with_reducible first|refine W.seq ?_|refine W.block ?_)|((first|(with_reducible first|refine W.reg ?_|refine W.skip ?_|refine W.exit ?_|refine W.ret ?_|refine W.ifc ?_)|((with_reducible first|refine wG_decE (fun _ hG=>?_) (fun _ hG=>?_)|refine wG_decFE (fun _ hG=>?_) (fun _ hG=>?_))<;>(try simp -dsimp only [hG,decide_true,decide_false,not_true_eq_false,not_false_eq_true])<;>clear hG))<;>(try simp -dsimp (disch:=first|omega|(simp only [go_sem];omega)) only [go_sem,seval,Nat.reduceEqDiff,Nat.reduceLeDiff]))|simp -dsimp (disch:=first|omega|(simp only [go_sem];omega)) only [go_sem,seval,Nat.reduceEqDiff,Nat.reduceLeDiff]))
      (apply Fin.eq;(focus (simp -dsimp (disch:=first|omega|(simp only [go_sem];omega)) only [go_sem,seval,Nat.reduceEqDiff,Nat.reduceLeDiff]<;>rfl)))
      exact⟨rfl,_,.refl _,by rw [hk];rfl⟩
end Go.Proofs.Ytioojmlhmhgeeaa
/-
 Layer 21 (disk): the disk of the specification: Crash.
 Conditions: of each contract as it says.
-/
namespace Go.Proofs.Ytioojmlhmhgeeaa
open Go Go.E2 C22
set_option linter.unusedSimpArgs false
set_option maxHeartbeats 1000000
def resR (keep:List Int) (cs:List Cel) (i:Nat):List Cel:=(crashL keep cs 0).take i ++ List.replicate (cs.length - i) freshC
theorem resR_len (keep:List Int) (cs:List Cel) {i:Nat} (hi:i≤cs.length):(resR keep cs i).length=cs.length:=by
 unfold resR
 rw [List.length_append,List.length_take,crashL_len,List.length_replicate]
 omega
theorem resR_zero (keep:List Int) (cs:List Cel):resR keep cs 0=List.replicate cs.length freshC:=by unfold resR;simp
theorem resR_end (keep:List Int) (cs:List Cel):resR keep cs cs.length=crashL keep cs 0:=by
 unfold resR
 rw [List.take_of_length_le (by rw [crashL_len];exact Nat.le_refl _),Nat.sub_self]
 simp
theorem resR_succ (keep:List Int) (cs:List Cel) {i:Nat} (hi:i < cs.length) {c:Cel} (hc:(crashL keep cs 0)[i]?=some c):resR keep cs (i+1)=(resR keep cs i).set i c:=by
 unfold resR
 have hl:((crashL keep cs 0).take i).length=i:=by rw [List.length_take,crashL_len];omega
 rw [List.set_append_right _ _ (by rw [hl];exact Nat.le_refl _),hl,Nat.sub_self,show cs.length - i=(cs.length - (i+1))+1 by omega,List.replicate_succ,List.set_cons_zero,List.take_add_one,hc]
 simp
theorem rankO_succ' (d:Dk) (i:Nat):rankO d (i+1)=rankO d i+(if opAt d i=[] then 0 else 1):=by
 unfold rankO
 rw [List.range_succ,List.filter_append,List.length_append]
 congr 1
 unfold isOpen
 by_cases h:opAt d i=[]
 · simp [h]
 · simp [h]
theorem rCrash_ok (p:Nat) (d:Dk) (keep:List Int) (hk:keep.length≤9223372036854775807):CallS Try.prog f_zz4 [.gp p 0,.list (keep.map eI)] [RefA p d] (fun r post=>∃ q,r=.d (.gp q 0)∧post=[RefA q (crash d keep),RefA p d]):=by
 refine callS_of_W fol zz4_cp fun R G σ hs=>?_
 obtain⟨cb,cap,hd⟩:=RefP.open hs
 have hok:=hd.ok
 have hpos:=hok.pos
 have hmost:=hok.most
 have hc:=hd.cell
 obtain⟨n,hn⟩:∃ n,n=d.cs.length:=⟨_,rfl⟩
 have q1:((n:Int) < 1)=False:=eq_false (by omega)
 rw [← hn] at hc
 refine goS trivial ?_
 refine goR hc ?_
 refine wP_mk (by omega) ?_
 refine wNew_mk fun qb hqb=>?_
 refine goS trivial ?_
 refine goR trivial ?_
 refine wNew_mk fun q hq=>?_
 have hrow0:Row 66 n n ((resR keep d.cs 0).map eR) (rep n (zr 64 (.int .u8 0) ++ [.bool false,.nilS])):=by
  rw [zr_r0,resR_zero,← hn]
  have:=Row.mk' (sz:=66) (n:=n) (cap:=n) (es:=(List.replicate n freshC).map eR) (rest:=[]) (by simp) (eR_all _) (Nat.le_refl _) (by rw [List.append_nil,flat_length (eR_all _)];simp)
  simpa using this
 have hs1:Sep (CellA q [.gs qb 0 n n,.int .i64 0,.int .i64 (-1),.bool false]::SlA 66 (.gs qb 0 n n) ((resR keep d.cs 0).map eR)::CellA p [.gs cb 0 n cap,.int .i64 d.steps,.int .i64 d.after,.bool d.dead]::SlA 66 (.gs cb 0 n cap) (d.cs.map eR)::R) _ :=
  Sep.new (b:=q) (cs:=[.gs qb 0 n n,.int .i64 0,.int .i64 (-1),.bool false]) hq (Sep.toSl (Sep.new hqb (by rw [hn];exact hd.sep)) hrow0)
 refine goS trivial ?_
 refine goR trivial ?_
 generalize Gh.set _ q _=G1 at hs1 ⊢
 refine W.loop (fun z st=>∃ (i m:Nat) (G:Gh),i≤n∧z=n - i∧m=rankO d i ∧
  Sep (CellA q [.gs qb 0 n n,.int .i64 0,.int .i64 (-1),.bool false]::SlA 66 (.gs qb 0 n n) ((resR keep d.cs i).map eR)::CellA p [.gs cb 0 n cap,.int .i64 d.steps,.int .i64 d.after,.bool d.dead]::SlA 66 (.gs cb 0 n cap) (d.cs.map eR)::R) G ∧
  st=(E [(0,.d (.gp p 0)),(1,.d (.list (keep.map eI))),(5,.d (.gp q 0)),(6,.d (.int .i64 m)),(7,.d (.int .i64 i))],HB [],σ,G))
  ⟨_,_,stle,0,0,G1,by omega,rfl,rfl,hs1,rfl⟩ ?_
 clear hs1 hrow0
 rintro z st ⟨i,m,G2,hi,rfl,hm,hs2,rfl⟩
 have hcq:=hs2.get
 have hcp:=hs2.tail.tail.get
 refine goR hcp ?_
 refine wG_dec (fun g1=>?_) (fun g1=>?_)
 · have hil:i < d.cs.length:=by omega
   have hrl:=resR_len keep d.cs (i:=i) (by omega)
   obtain⟨cellsq,hcbq,hrowq0⟩:=sl_row hs2 (by intro e;rw [List.map_eq_nil_iff] at e;rw [e] at hrl;simp at hrl;omega) (by rw [List.length_map,hrl,hn])
   obtain⟨cells,hcb,hrow0⟩:=sl_row hs2.tail.tail (by intro e;rw [List.map_eq_nil_iff] at e;rw [e] at hil;simp at hil) (by rw [List.length_map,hn])
   have hrow:Row 66 d.cs.length cap (d.cs.map eR) cells:=by rw [← hn];exact hrow0
   have hrowq:Row 66 (resR keep d.cs i).length n ((resR keep d.cs i).map eR) cellsq:=by rw [hrl,← hn];exact hrowq0
   obtain⟨r1,r2,r3⟩:=rRow hrow hil
   have hcg:=crashL_get (keep:=keep) (n:=0) hil
   rw [Nat.zero_add,← rank_take d i (by omega)] at hcg
   have hrs:=rankO_succ' d i
   have e66:i*66+66≤cellsq.length:=hrowq.fits (i:=i) (by rw [List.length_map,hrl];exact hil)
   obtain⟨c,hcc⟩:∃ c,c=d.cs[i]:=⟨_,rfl⟩
   rw [← hcc] at r1 r2 r3 hcg
   by_cases hop:c.op=[]
   · rw [if_pos hop] at hcg
     have el:eL c.op=.nilS:=by unfold eL;rw [if_pos hop]
     rw [el] at r3
     unfold eR at r1
     rw [el] at r1
     have hcl:=rCel_len c.s c.bad .nilS
     have hr2:=row_rel hrowq (k:=i) (by rw [hrl];exact hil) fun _=>c
     rw [modify_set (by rw [hrl];exact hil),← resR_succ keep d.cs hil hcg,hrl,← hn,el] at hr2
     have hs3:=(Sep.slSet hs2.swap hr2).swap
     have hrk:rankO d (i+1)=rankO d i:=by
      rw [hrs,opAt_get hil,← hcc,hop];rfl
     (repeat' (first|(with_reducible first|refine W.seq ?_|refine W.block ?_)|((first|(with_reducible first|refine W.reg ?_|refine W.skip ?_|refine W.exit ?_|refine W.ret ?_|refine W.ifc ?_)|((with_reducible first|refine wG_decE (fun _ hG=>?_) (fun _ hG=>?_)|refine wG_decFE (fun _ hG=>?_) (fun _ hG=>?_))<;>(try simp -dsimp only [hG,decide_true,decide_false,not_true_eq_false,not_false_eq_true])<;>clear hG))<;>(try simp -dsimp (disch:=first|omega|(simp only [go_sem];omega)) only [go_sem,seval,Nat.reduceEqDiff,Nat.reduceLeDiff,hcp,hcb,hcq,hcbq,r1,r3,Int.toNat_natCast,hcl,e66]))|simp -dsimp (disch:=first|omega|(simp only [go_sem];omega)) only [go_sem,seval,Nat.reduceEqDiff,Nat.reduceLeDiff,hcp,hcb,hcq,hcbq,r1,r3,Int.toNat_natCast,hcl,e66]))
     refine⟨_,_,?_,stle,i+1,m,_,by omega,rfl,by rw [hrk];exact hm,hs3,rfl⟩
     omega
   · rw [if_neg hop,← hm] at hcg
     have el:eL c.op=.list (c.op.map eS):=by unfold eL;rw [if_neg hop]
     rw [el] at r3
     have hl0:0 < c.op.length:=List.length_pos_iff.2 hop
     have hcm:c∈d.cs:=by rw [hcc];exact List.getElem_mem _
     have hfew:=hok.few c hcm
     have hst:=hok.st
     have hln:((c.op.length:Int)=0)=False:=eq_false (by omega)
     obtain⟨x,hx⟩:∃ x,x=keepAt keep m:=⟨_,rfl⟩
     rw [← hx] at hcg
     obtain⟨kc,hkc⟩:∃ kc,kc=kept c x:=⟨_,rfl⟩
     have hkop:kc.op=[]:=by rw [hkc];exact (kept_ok (hok.rot c hcm) x).2
     rw [← hkc] at hcg
     have hke:eR kc=.agg (kc.s.1.map eB ++ [.bool kc.bad,.nilS]):=by unfold eR eL;rw [if_pos hkop]
     have hcl:=rCel_len kc.s kc.bad .nilS
     have hcall:=rkept_ok c x hop (by omega) (hok.rot c hcm)
     rw [← hkc,hke] at hcall
     have hr2:=row_rel hrowq (k:=i) (by rw [hrl];exact hil) fun _=>kc
     have ekc:eL kc.op=.nilS:=by unfold eL;rw [if_pos hkop]
     rw [modify_set (by rw [hrl];exact hil),← resR_succ keep d.cs hil hcg,hrl,← hn,ekc] at hr2
     have hs3:=(Sep.slSet hs2.swap hr2).swap
     have hrk:m+1=rankO d (i+1):=by
      rw [hrs,opAt_get hil,← hcc,if_neg hop,hm]
     have hm65:m≤65536:=by
      have:rankO d i≤i:=by unfold rankO;exact Nat.le_trans (List.length_filter_le _ _) (by simp)
      omega
     by_cases hke0:keep=[]
     · have hx0:x=0:=by rw [hx];unfold keepAt;rw [if_pos hke0]
       have hkl:keep.length=0:=by rw [hke0];rfl
       have hkl':(0 < (keep.length:Int))=False:=eq_false (by omega)
       rw [hx0] at hcall
       (repeat' (first|(with_reducible first|refine W.seq ?_|refine W.block ?_)|((first|(with_reducible first|refine W.reg ?_|refine W.skip ?_|refine W.exit ?_|refine W.ret ?_|refine W.ifc ?_)|(apply wC_P (hcall);(focus (simp -dsimp (disch:=first|omega|(simp only [go_sem];omega)) only [go_sem,seval,Nat.reduceEqDiff,Nat.reduceLeDiff]<;>rfl));rintro _ rfl)|((with_reducible first|refine wG_decE (fun _ hG=>?_) (fun _ hG=>?_)|refine wG_decFE (fun _ hG=>?_) (fun _ hG=>?_))<;>(try simp -dsimp only [hG,decide_true,decide_false,not_true_eq_false,not_false_eq_true])<;>clear hG))<;>(try simp -dsimp (disch:=first|omega|(simp only [go_sem];omega)) only [go_sem,seval,Nat.reduceEqDiff,Nat.reduceLeDiff,hcp,hcb,hcq,hcbq,r1,r3,Int.toNat_natCast,hcl,e66,hln,hkl']))|simp -dsimp (disch:=first|omega|(simp only [go_sem];omega)) only [go_sem,seval,Nat.reduceEqDiff,Nat.reduceLeDiff,hcp,hcb,hcq,hcbq,r1,r3,Int.toNat_natCast,hcl,e66,hln,hkl']))
       refine⟨_,_,?_,stle,i+1,m+1,_,by omega,rfl,hrk,hs3,rfl⟩
       omega
     · have hkl:0 < keep.length:=List.length_pos_iff.2 hke0
       have hkl':(0 < (keep.length:Int))=True:=eq_true (by omega)
       have hmod:(m:Int).tmod (keep.length:Int)=((m % keep.length:Nat):Int):=by rw [Int.tmod_eq_emod_of_nonneg (by omega)];omega
       have hml:m % keep.length < keep.length:=Nat.mod_lt _ hkl
       have hxk:x=keep[m % keep.length]:=by rw [hx];unfold keepAt;rw [if_neg hke0,List.getElem?_eq_getElem hml];rfl
       rw [hxk] at hcall
       have hall:(keep.map eI).all (sizeOk 1)=true:=by rw [List.all_eq_true];intro y hy;obtain⟨s,_,rfl⟩:=List.mem_map.1 hy;rfl
       (repeat' (first|(with_reducible first|refine W.seq ?_|refine W.block ?_)|((first|(with_reducible first|refine W.reg ?_|refine W.skip ?_|refine W.exit ?_|refine W.ret ?_|refine W.ifc ?_)|(apply wC_P (hcall);(focus (simp -dsimp (disch:=first|omega|(simp only [go_sem];omega)) only [go_sem,seval,Nat.reduceEqDiff,Nat.reduceLeDiff]<;>rfl));rintro _ rfl)|((with_reducible first|refine wG_decE (fun _ hG=>?_) (fun _ hG=>?_)|refine wG_decFE (fun _ hG=>?_) (fun _ hG=>?_))<;>(try simp -dsimp only [hG,decide_true,decide_false,not_true_eq_false,not_false_eq_true])<;>clear hG))<;>(try simp -dsimp (disch:=first|omega|(simp only [go_sem];omega)) only [go_sem,seval,Nat.reduceEqDiff,Nat.reduceLeDiff,hcp,hcb,hcq,hcbq,r1,r3,Int.toNat_natCast,hcl,e66,hln,hkl',hmod,hall]))|simp -dsimp (disch:=first|omega|(simp only [go_sem];omega)) only [go_sem,seval,Nat.reduceEqDiff,Nat.reduceLeDiff,hcp,hcb,hcq,hcbq,r1,r3,Int.toNat_natCast,hcl,e66,hln,hkl',hmod,hall]))
       refine⟨_,_,?_,stle,i+1,m+1,_,by omega,rfl,hrk,hs3,rfl⟩
       omega
 · obtain rfl:i=n:=by omega
   rw [hn,resR_end,← hn] at hs2
   have hck:=crash_ok hok keep
   (repeat' (first|(with_reducible first|refine W.seq ?_|refine W.block ?_)|((first|(with_reducible first|refine W.reg ?_|refine W.skip ?_|refine W.exit ?_|refine W.ret ?_|refine W.ifc ?_)|((with_reducible first|refine wG_decE (fun _ hG=>?_) (fun _ hG=>?_)|refine wG_decFE (fun _ hG=>?_) (fun _ hG=>?_))<;>(try simp -dsimp only [hG,decide_true,decide_false,not_true_eq_false,not_false_eq_true])<;>clear hG))<;>(try simp -dsimp (disch:=first|omega|(simp only [go_sem];omega)) only [go_sem,seval,Nat.reduceEqDiff,Nat.reduceLeDiff,hcp]))|simp -dsimp (disch:=first|omega|(simp only [go_sem];omega)) only [go_sem,seval,Nat.reduceEqDiff,Nat.reduceLeDiff,hcp]))
   refine Fin.eq rfl ⟨rfl,_,⟨q,rfl,rfl⟩,?_⟩
   have hl:=crash_len d keep
   have h1:Sep (CellA p [.gs cb 0 i cap,.int .i64 d.steps,.int .i64 d.after,.bool d.dead]::SlA 66 (.gs cb 0 i cap) (d.cs.map eR)::CellA q [.gs qb 0 i i,.int .i64 0,.int .i64 (-1),.bool false]::SlA 66 (.gs qb 0 i i) ((crashL keep d.cs 0).map eR)::R) _:=hs2.f4.f4
   have h2:Sep (RefA p d::CellA q [.gs qb 0 i i,.int .i64 0,.int .i64 (-1),.bool false]::SlA 66 (.gs qb 0 i i) ((crashL keep d.cs 0).map eR)::R) _:=(RefP.mk (cb:=cb) (cap:=cap) hok (by rw [← hn];exact h1)).close
   have h3:Sep (CellA q [.gs qb 0 i i,.int .i64 0,.int .i64 (-1),.bool false]::SlA 66 (.gs qb 0 i i) ((crashL keep d.cs 0).map eR)::RefA p d::R) _:=h2.b3
   exact (RefP.mk (d:=crash d keep) (cb:=qb) (cap:=i) hck.1 (by rw [hl,← hn];exact h3)).close
end Go.Proofs.Ytioojmlhmhgeeaa
