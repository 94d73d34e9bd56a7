/-
 Layer 21 (disk): the disk of the specification: Rot,Flip,Sync.
 Conditions: of each contract as it says.
-/
import Derived.Test.YtioojmlhmhgeeaaF22ra
import Derived.Test.YtioojmlhmhgeeaaS22c
namespace Go.Proofs.Ytioojmlhmhgeeaa
open Go Go.E2 C22
set_option linter.unusedSimpArgs false
set_option maxHeartbeats 1000000
theorem row_tail {cs:List Cel} {cap:Nat} {cells:List D} (hrow:Row 66 cs.length cap (cs.map eR) cells) {k:Nat} (hk:k < cs.length) :
 cells.drop (k * 66 + 64)=[D.bool cs[k].bad,eL cs[k].op] ++ cells.drop (k * 66 + 66):=by
 have hg:=hrow.get (i:=k) (by simpa using hk)
 rw [List.getElem_map] at hg
 have e1:cells.drop (k * 66)=(eR cs[k]).cells ++ cells.drop (k * 66 + 66):=by
  rw [← hg,← List.drop_drop,List.take_append_drop]
 rw [← List.drop_drop,e1,eR_cells,List.append_assoc,List.drop_left' (sec_len _)]
theorem row_sec {cs:List Cel} {cap:Nat} {cells:List D} (hrow:Row 66 cs.length cap (cs.map eR) cells) {k:Nat} (hk:k < cs.length) (t:Sec) :
 Row 66 cs.length cap ((cs.modify k fun c=>{ c with s:=t }).map eR) (cells.take (k * 66) ++ t.1.map eB ++ cells.drop (k * 66 + 64)):=by
 have:=row_rel hrow hk fun c=>{ c with s:=t }
 rw [row_tail hrow hk]
 simpa only [List.append_assoc] using this
theorem modify_both {α:Type} (l:List α) (k:Nat) (f g:α→α):(l.modify k f).modify k g=l.modify k fun x=>g (f x):=by
 apply List.ext_getElem?
 intro i
 rw [List.getElem?_modify,List.getElem?_modify,List.getElem?_modify]
 by_cases h:k=i
 · subst h; cases l[k]? <;> simp
 · cases l[i]? <;> simp [h]
theorem rRot_ok (p:Nat) (d:Dk) (i:Int):CallS Try.prog f_zz10 [.gp p 0,.int .i64 i] [RefA p d] (fun r post=>r=.d (.int .i64 (rot d i).2)∧post=[RefA p (rot d i).1]):=by
 refine callS_of_W fol zz10_cp fun R G σ hs=>?_
 obtain ⟨cb,cap,hd⟩:=RefP.open hs
 have hc:=hd.cell
 obtain ⟨cells,hcb,hrow⟩:=hd.row
 by_cases hk:chk d i=0
 · obtain ⟨hdead,h0,h1⟩:=chk_zero hk
   obtain ⟨k,rfl⟩:∃ k:Nat,i=k:=⟨i.toNat,by omega⟩
   have hkl:k < d.cs.length:=by omega
   obtain ⟨hok,_⟩:=rot_ok hd.ok k
   have hw:rot d k=({ d with cs:=d.cs.modify k fun c=>{ c with s:=z0,bad:=true } },0):=by unfold rot; rw [if_neg (by rw [hk]; simp),Int.toNat_natCast]
   rw [hw] at hok ⊢
   have hfit:=hrow.fits (i:=k) (by simpa using hkl)
   have e66:k * 66 + (64 + (0 + 1))≤cells.length:=by omega
   have r1:=row_fld hrow hkl (j:=64) (by omega) (v:=.bool true) rfl (fun c=>{ c with bad:=true }) (by
    rw [eR_cells,eR_cells,List.set_append_right _ _ (by rw [sec_len]; decide),sec_len]; rfl)
   have hl1:(d.cs.modify k fun c=>{ c with bad:=true }).length=d.cs.length:=by simp
   rw [← hl1] at r1
   have r2:=row_sec r1 (k:=k) (by rw [hl1]; exact hkl) z0
   rw [modify_both,hl1] at r2
   obtain ⟨cells1,hc1⟩:∃ cells1,cells1=cells.take (k * 66 + 64) ++ [D.bool true] ++ cells.drop (k * 66 + 64 + 1):=⟨_,rfl⟩
   rw [← hc1] at r2
   have hlen1:cells1.length=cells.length:=by rw [hc1]; simp; omega
   have e64:k * 66 + (0 + 64)≤cells1.length:=by omega
   have e64':k * 66 + 64≤cells1.length:=by omega
   have hne:=Sep.neS hd.sep
   have hun:=upd_ne hne.symm
   have eset:(D.bool true)=.bool true:=rfl
   have fin:∀ G',G'=G.set cb (some (cells1.take (k * 66) ++ z0.1.map eB ++ cells1.drop (k * 66 + 64)))→Sep ([RefA p { d with cs:=d.cs.modify k fun c=>{ c with s:=z0,bad:=true } }] ++ R) G':=fun G' h=>by
    rw [h]
    exact (hd.setC hok rfl rfl rfl (by simp) r2).close
   refine goS trivial ?_
   (repeat' (first|(with_reducible first|refine W.seq ?_|refine W.block ?_)|((first|(with_reducible first|refine W.reg ?_|refine W.skip ?_|refine W.exit ?_|refine W.ret ?_|refine W.ifc ?_)|(apply wC_Q ((rcheck_ok p d k).q hs); (focus (simp -dsimp (disch:=first|omega|(simp only [go_sem]; omega)) only [go_sem,seval,Nat.reduceEqDiff,Nat.reduceLeDiff,hk]<;>rfl)); rintro _ rfl; try simp -dsimp (disch:=first|omega|(simp only [go_sem]; omega)) only [go_sem,seval,Nat.reduceEqDiff,Nat.reduceLeDiff,hk])|((with_reducible first|refine wG_decE (fun _ hG=>?_) (fun _ hG=>?_)|refine wG_decFE (fun _ hG=>?_) (fun _ hG=>?_))<;>(try simp -dsimp only [hG,decide_true,decide_false,not_true_eq_false,not_false_eq_true])<;>clear hG))<;>(try simp -dsimp (disch:=first|omega|(simp only [go_sem]; omega)) only [go_sem,seval,Nat.reduceEqDiff,Nat.reduceLeDiff,hk,hc,hcb,Int.toNat_natCast,e66,hun,← hc1,e64,e64']))|simp -dsimp (disch:=first|omega|(simp only [go_sem]; omega)) only [go_sem,seval,Nat.reduceEqDiff,Nat.reduceLeDiff,hk,hc,hcb,Int.toNat_natCast,e66,hun,← hc1,e64,e64']))
   exact Fin.eq rfl ⟨rfl,_,⟨rfl,rfl⟩,fin _ rfl⟩
 · have hw:rot d i=(d,chk d i):=by unfold rot; rw [if_pos hk]
   refine goS trivial ?_
   (repeat' (first|(with_reducible first|refine W.seq ?_|refine W.block ?_)|((first|(with_reducible first|refine W.reg ?_|refine W.skip ?_|refine W.exit ?_|refine W.ret ?_|refine W.ifc ?_)|(apply wC_Q ((rcheck_ok p d i).q hs); (focus (simp -dsimp (disch:=first|omega|(simp only [go_sem]; omega)) only [go_sem,seval,Nat.reduceEqDiff,Nat.reduceLeDiff,hk]<;>rfl)); rintro _ rfl; try simp -dsimp (disch:=first|omega|(simp only [go_sem]; omega)) only [go_sem,seval,Nat.reduceEqDiff,Nat.reduceLeDiff,hk])|((with_reducible first|refine wG_decE (fun _ hG=>?_) (fun _ hG=>?_)|refine wG_decFE (fun _ hG=>?_) (fun _ hG=>?_))<;>(try simp -dsimp only [hG,decide_true,decide_false,not_true_eq_false,not_false_eq_true])<;>clear hG))<;>(try simp -dsimp (disch:=first|omega|(simp only [go_sem]; omega)) only [go_sem,seval,Nat.reduceEqDiff,Nat.reduceLeDiff,hk]))|simp -dsimp (disch:=first|omega|(simp only [go_sem]; omega)) only [go_sem,seval,Nat.reduceEqDiff,Nat.reduceLeDiff,hk]))
   exact Fin.eq rfl ⟨rfl,_,⟨by rw [hw],by rw [hw]⟩,hs⟩
theorem rFlip_ok (p:Nat) (d:Dk) (i bit:Int):CallS Try.prog f_zz4 [.gp p 0,.int .i64 i,.int .i64 bit] [RefA p d] (fun r post=>r=.d (.int .i64 (flp d i bit).2)∧post=[RefA p (flp d i bit).1]):=by
 refine callS_of_W fol zz4_cp fun R G σ hs=>?_
 obtain ⟨cb,cap,hd⟩:=RefP.open hs
 have hc:=hd.cell
 obtain ⟨cells,hcb,hrow⟩:=hd.row
 by_cases hk:chk d i=0
 · obtain ⟨hdead,h0,h1⟩:=chk_zero hk
   obtain ⟨k,rfl⟩:∃ k:Nat,i=k:=⟨i.toNat,by omega⟩
   have hkl:k < d.cs.length:=by omega
   obtain ⟨hok,_⟩:=flp_ok hd.ok k bit
   by_cases hb:bit < 0∨512≤bit
   · have hw:flp d k bit=(d,1):=by unfold flp; rw [if_neg (by rw [hk]; simp),if_pos hb]
     rw [hw]
     refine goS trivial ?_
     (repeat' (first|(with_reducible first|refine W.seq ?_|refine W.block ?_)|((first|(with_reducible first|refine W.reg ?_|refine W.skip ?_|refine W.exit ?_|refine W.ret ?_|refine W.ifc ?_)|(apply wC_Q ((rcheck_ok p d k).q hs); (focus (simp -dsimp (disch:=first|omega|(simp only [go_sem]; omega)) only [go_sem,seval,Nat.reduceEqDiff,Nat.reduceLeDiff,hk]<;>rfl)); rintro _ rfl; try simp -dsimp (disch:=first|omega|(simp only [go_sem]; omega)) only [go_sem,seval,Nat.reduceEqDiff,Nat.reduceLeDiff,hk])|((with_reducible first|refine wG_decE (fun _ hG=>?_) (fun _ hG=>?_)|refine wG_decFE (fun _ hG=>?_) (fun _ hG=>?_))<;>(try simp -dsimp only [hG,decide_true,decide_false,not_true_eq_false,not_false_eq_true])<;>clear hG))<;>(try simp -dsimp (disch:=first|omega|(simp only [go_sem]; omega)) only [go_sem,seval,Nat.reduceEqDiff,Nat.reduceLeDiff,hk]))|simp -dsimp (disch:=first|omega|(simp only [go_sem]; omega)) only [go_sem,seval,Nat.reduceEqDiff,Nat.reduceLeDiff,hk]))
     all_goals first|exact Fin.eq rfl ⟨rfl,_,⟨rfl,rfl⟩,hs⟩|(exfalso; omega)
   · have hw:flp d k bit=({ d with cs:=d.cs.modify k fun c=>if c.bad=true then c else { c with s:=flipS c.s bit.toNat } },0):=by unfold flp; rw [if_neg (by rw [hk]; simp),if_neg hb,Int.toNat_natCast]
     rw [hw] at hok ⊢
     obtain ⟨r1,r2,r3⟩:=rRow hrow hkl
     obtain ⟨c,hcc⟩:∃ c,c=d.cs[k]:=⟨_,rfl⟩
     rw [← hcc] at r1 r2 r3
     obtain ⟨t,rfl⟩:∃ t:Nat,bit=t:=⟨bit.toNat,by omega⟩
     have ht:t < 512:=by omega
     have hj:t / 8 < 64:=by omega
     have hlt:t / 8 < c.s.1.length:=by rw [c.s.2]; exact hj
     have hq:(t:Int).tdiv 8=((t / 8:Nat):Int):=by rw [Int.tdiv_eq_ediv_of_nonneg (by omega)]; omega
     have hm:(t:Int).tmod 8=((t % 8:Nat):Int):=by rw [Int.tmod_eq_emod_of_nonneg (by omega)]; omega
     have hfl:=hrow.fld (i:=k) (j:=t / 8) (by simpa using hkl) (by omega)
     rw [List.getElem_map,← hcc] at hfl
     have e3:(eR c).cells[t / 8]?=some (eB c.s.1[t / 8]):=by rw [eR_cells,List.getElem?_append_left (by rw [sec_len]; exact hj),List.getElem?_map,List.getElem?_eq_getElem hlt]; rfl
     rw [e3] at hfl
     have hshl:=shl_u8 (n:=((t % 8:Nat):Int)) (by omega) (by omega)
     have hxor:binD .xor (.int .u8 (c.s.1[t / 8].toNat:Int)) (.int .u8 ((2 ^ (t % 8):Nat):Int))=some (eB (c.s.1[t / 8] ^^^ (1 <<< UInt8.ofNat (t % 8)))):=by
      have hp:2 ^ (t % 8)≤128:=by
       have:t % 8≤7:=by omega
       exact Nat.pow_le_pow_right (by omega) this
      rw [xor_u8 (Int.natCast_nonneg _) (Int.natCast_nonneg _) (by have:=c.s.1[t / 8].toNat_lt; omega) (Int.ofNat_le.2 (Nat.le_trans hp (by decide))),eB,bit_xor _ (Nat.mod_lt _ (by omega))]
      rfl
     simp only [eB] at hfl hxor
     have hb1:((t:Int) < 0)=False:=eq_false (by omega)
     have hb2:(511 < (t:Int))=False:=eq_false (by omega)
     cases hbd:c.bad
     · rw [hbd] at r2
       have e1:k * 66 + t / 8 + 1≤cells.length:=by have:=hrow.fits (i:=k) (by simpa using hkl); omega
       have hset:=row_fld hrow hkl (j:=t / 8) (by omega) (v:=eB (c.s.1[t / 8] ^^^ (1 <<< UInt8.ofNat (t % 8)))) rfl (fun c=>if c.bad=true then c else { c with s:=flipS c.s t }) (by
        simp only [← hcc,hbd,Bool.false_eq_true,if_false,eR_cells,flipS]
        rw [modify_set hlt,List.map_set]
        exact List.set_append_left _ _ (by rw [sec_len]; exact hj))
       simp only [eB] at hset
       have fin:∀ G',G'=G.set cb (some (cells.take (k * 66 + t / 8) ++ [.int .u8 ((c.s.1[t / 8] ^^^ (1 <<< UInt8.ofNat (t % 8))).toNat:Int)] ++ cells.drop (k * 66 + t / 8 + 1)))→Sep ([RefA p { d with cs:=d.cs.modify k fun c=>if c.bad=true then c else { c with s:=flipS c.s (t:Int).toNat } }] ++ R) G':=fun G' h=>by
        rw [h]
        exact (hd.setC hok rfl rfl rfl (by simp) hset).close
       refine goS trivial ?_
       (repeat' (first|(with_reducible first|refine W.seq ?_|refine W.block ?_)|((first|(with_reducible first|refine W.reg ?_|refine W.skip ?_|refine W.exit ?_|refine W.ret ?_|refine W.ifc ?_)|(apply wC_Q ((rcheck_ok p d k).q hs); (focus (simp -dsimp (disch:=first|omega|(simp only [go_sem]; omega)) only [go_sem,seval,Nat.reduceEqDiff,Nat.reduceLeDiff,hk]<;>rfl)); rintro _ rfl; try simp -dsimp (disch:=first|omega|(simp only [go_sem]; omega)) only [go_sem,seval,Nat.reduceEqDiff,Nat.reduceLeDiff,hk])|((with_reducible first|refine wG_decE (fun _ hG=>?_) (fun _ hG=>?_)|refine wG_decFE (fun _ hG=>?_) (fun _ hG=>?_))<;>(try simp -dsimp only [hG,decide_true,decide_false,not_true_eq_false,not_false_eq_true])<;>clear hG))<;>(try simp -dsimp (disch:=first|omega|(simp only [go_sem]; omega)) only [go_sem,seval,Nat.reduceEqDiff,Nat.reduceLeDiff,hk,hc,hcb,Int.toNat_natCast,r2,hb1,hb2,hq,hm,hfl,hshl,hxor,e1,Nat.mul_one]))|simp -dsimp (disch:=first|omega|(simp only [go_sem]; omega)) only [go_sem,seval,Nat.reduceEqDiff,Nat.reduceLeDiff,hk,hc,hcb,Int.toNat_natCast,r2,hb1,hb2,hq,hm,hfl,hshl,hxor,e1,Nat.mul_one]))
       exact Fin.eq rfl ⟨rfl,_,⟨rfl,rfl⟩,fin _ rfl⟩
     · rw [hbd] at r2
       refine goS trivial ?_
       (repeat' (first|(with_reducible first|refine W.seq ?_|refine W.block ?_)|((first|(with_reducible first|refine W.reg ?_|refine W.skip ?_|refine W.exit ?_|refine W.ret ?_|refine W.ifc ?_)|(apply wC_Q ((rcheck_ok p d k).q hs); (focus (simp -dsimp (disch:=first|omega|(simp only [go_sem]; omega)) only [go_sem,seval,Nat.reduceEqDiff,Nat.reduceLeDiff,hk]<;>rfl)); rintro _ rfl; try simp -dsimp (disch:=first|omega|(simp only [go_sem]; omega)) only [go_sem,seval,Nat.reduceEqDiff,Nat.reduceLeDiff,hk])|((with_reducible first|refine wG_decE (fun _ hG=>?_) (fun _ hG=>?_)|refine wG_decFE (fun _ hG=>?_) (fun _ hG=>?_))<;>(try simp -dsimp only [hG,decide_true,decide_false,not_true_eq_false,not_false_eq_true])<;>clear hG))<;>(try simp -dsimp (disch:=first|omega|(simp only [go_sem]; omega)) only [go_sem,seval,Nat.reduceEqDiff,Nat.reduceLeDiff,hk,hc,hcb,Int.toNat_natCast,r2,hb1,hb2]))|simp -dsimp (disch:=first|omega|(simp only [go_sem]; omega)) only [go_sem,seval,Nat.reduceEqDiff,Nat.reduceLeDiff,hk,hc,hcb,Int.toNat_natCast,r2,hb1,hb2]))
       have hsame:({ d with cs:=d.cs.modify k fun c=>if c.bad=true then c else { c with s:=flipS c.s (t:Int).toNat } }:Dk)=d:=by
        have:d.cs.modify k (fun c=>if c.bad=true then c else { c with s:=flipS c.s (t:Int).toNat })=d.cs:=by
         rw [modify_set hkl,← hcc,if_pos hbd,hcc,List.set_getElem_self]
        rw [this]
       rw [hsame]
       exact Fin.eq rfl ⟨rfl,_,⟨rfl,rfl⟩,hs⟩
 · have hw:flp d i bit=(d,chk d i):=by unfold flp; rw [if_pos hk]
   refine goS trivial ?_
   (repeat' (first|(with_reducible first|refine W.seq ?_|refine W.block ?_)|((first|(with_reducible first|refine W.reg ?_|refine W.skip ?_|refine W.exit ?_|refine W.ret ?_|refine W.ifc ?_)|(apply wC_Q ((rcheck_ok p d i).q hs); (focus (simp -dsimp (disch:=first|omega|(simp only [go_sem]; omega)) only [go_sem,seval,Nat.reduceEqDiff,Nat.reduceLeDiff,hk]<;>rfl)); rintro _ rfl; try simp -dsimp (disch:=first|omega|(simp only [go_sem]; omega)) only [go_sem,seval,Nat.reduceEqDiff,Nat.reduceLeDiff,hk])|((with_reducible first|refine wG_decE (fun _ hG=>?_) (fun _ hG=>?_)|refine wG_decFE (fun _ hG=>?_) (fun _ hG=>?_))<;>(try simp -dsimp only [hG,decide_true,decide_false,not_true_eq_false,not_false_eq_true])<;>clear hG))<;>(try simp -dsimp (disch:=first|omega|(simp only [go_sem]; omega)) only [go_sem,seval,Nat.reduceEqDiff,Nat.reduceLeDiff,hk]))|simp -dsimp (disch:=first|omega|(simp only [go_sem]; omega)) only [go_sem,seval,Nat.reduceEqDiff,Nat.reduceLeDiff,hk]))
   exact Fin.eq rfl ⟨rfl,_,⟨by rw [hw],by rw [hw]⟩,hs⟩
theorem sl_row {A:As} {n cap cb:Nat} {es:List D} {R:List As} {G:Gh} (h:Sep (A::SlA 66 (.gs cb 0 n cap) es::R) G) (hne:es ≠ []) (hl:es.length=n):∃ cs,G.c cb=some cs∧Row 66 n cap es cs:=by
 obtain ⟨b,cap',cs,e,h1,h2⟩:=h.tail.gv.inv hne
 simp only [D.gs.injEq] at e
 obtain ⟨rfl,_,_,rfl⟩:=e
 rw [hl] at h2
 exact ⟨cs,h1,h2⟩
theorem rSync_ok (p:Nat) (d:Dk) (hn:d.steps≤1000000000):CallS Try.prog f_zz7 [.gp p 0] [RefA p d] (fun r post=>r=.d (.int .i64 (sy d).2)∧post=[RefA p (sy d).1]):=by
 refine callS_of_W fol zz7_cp fun R G σ hs=>?_
 obtain ⟨cb0,cap0,hd0⟩:=RefP.open hs
 have hc0:=hd0.cell
 obtain ⟨hok,_⟩:=sy_ok hd0.ok hn
 by_cases hdead:d.dead=true
 · have hw:sy d=(d,12):=by unfold sy; rw [if_pos hdead]
   rw [hw]
   refine goS trivial ?_
   (repeat' (first|(with_reducible first|refine W.seq ?_|refine W.block ?_)|((first|(with_reducible first|refine W.reg ?_|refine W.skip ?_|refine W.exit ?_|refine W.ret ?_|refine W.ifc ?_)|((with_reducible first|refine wG_decE (fun _ hG=>?_) (fun _ hG=>?_)|refine wG_decFE (fun _ hG=>?_) (fun _ hG=>?_))<;>(try simp -dsimp only [hG,decide_true,decide_false,not_true_eq_false,not_false_eq_true])<;>clear hG))<;>(try simp -dsimp (disch:=first|omega|(simp only [go_sem]; omega)) only [go_sem,seval,Nat.reduceEqDiff,Nat.reduceLeDiff,hc0,hdead]))|simp -dsimp (disch:=first|omega|(simp only [go_sem]; omega)) only [go_sem,seval,Nat.reduceEqDiff,Nat.reduceLeDiff,hc0,hdead]))
   exact Fin.eq rfl ⟨rfl,_,⟨rfl,rfl⟩,hs⟩
 have hdead':d.dead=false:=by simpa using hdead
 obtain ⟨_,_,_,hscs⟩:=stp_ok hd0.ok hn
 have hw:sy d=if (stp d).2 ≠ 0 then stp d else ({ (stp d).1 with cs:=d.cs.map syC },0):=by unfold sy; rw [if_neg hdead]
 rw [hw] at hok ⊢
 refine goS trivial ?_
 (repeat' (first|(with_reducible first|refine W.seq ?_|refine W.block ?_)|((first|(with_reducible first|refine W.reg ?_|refine W.skip ?_|refine W.exit ?_|refine W.ret ?_|refine W.ifc ?_)|((with_reducible first|refine wG_decE (fun _ hG=>?_) (fun _ hG=>?_)|refine wG_decFE (fun _ hG=>?_) (fun _ hG=>?_))<;>(try simp -dsimp only [hG,decide_true,decide_false,not_true_eq_false,not_false_eq_true])<;>clear hG))<;>(try simp -dsimp (disch:=first|omega|(simp only [go_sem]; omega)) only [go_sem,seval,Nat.reduceEqDiff,Nat.reduceLeDiff,hc0,hdead']))|simp -dsimp (disch:=first|omega|(simp only [go_sem]; omega)) only [go_sem,seval,Nat.reduceEqDiff,Nat.reduceLeDiff,hc0,hdead']))
 (refine goM (rstep_ok p d hn) (hs) ?_)
 rintro _ _ G2 ⟨rfl,rfl⟩ hs2'
 have hs2:Sep (RefA p (stp d).1::R) G2:=hs2'
 clear hs2'
 have he12:(stp d).2=0∨(stp d).2=12:=by
  unfold stp
  split
  · exact .inr rfl
  · exact .inl rfl
 obtain ⟨d1,e1,hd1⟩:∃ d1 e1,(d1,e1)=stp d:=⟨_,_,rfl⟩
 rw [← hd1] at hok hs2 hscs he12 ⊢
 simp only at hok hs2 hscs he12 ⊢
 rcases he12 with rfl|rfl
 · rw [if_neg (by simp)] at hok ⊢
   rw [← hscs] at hok ⊢
   obtain ⟨cb,cap,hd2⟩:=RefP.open hs2
   have hpos:=hd2.ok.pos
   have hmost:=hd2.ok.most
   have dt:decide ((0:Int)=0)=true:=rfl
   refine goS trivial ?_
   (repeat' (first|(with_reducible first|refine W.seq ?_|refine W.block ?_)|((first|(with_reducible first|refine W.reg ?_|refine W.skip ?_|refine W.exit ?_|refine W.ret ?_|refine W.ifc ?_)|((with_reducible first|refine wG_decE (fun _ hG=>?_) (fun _ hG=>?_)|refine wG_decFE (fun _ hG=>?_) (fun _ hG=>?_))<;>(try simp -dsimp only [hG,decide_true,decide_false,not_true_eq_false,not_false_eq_true])<;>clear hG))<;>(try simp -dsimp (disch:=first|omega|(simp only [go_sem]; omega)) only [go_sem,seval,Nat.reduceEqDiff,Nat.reduceLeDiff,dt]))|simp -dsimp (disch:=first|omega|(simp only [go_sem]; omega)) only [go_sem,seval,Nat.reduceEqDiff,Nat.reduceLeDiff,dt]))
   refine W.loop (fun z st=>∃ (i:Nat) (G:Gh),i≤d1.cs.length∧z=d1.cs.length - i∧Sep (CellA p [.gs cb 0 d1.cs.length cap,eI d1.steps,eI d1.after,.bool d1.dead]::SlA 66 (.gs cb 0 d1.cs.length cap) ((syT d1.cs i).map eR)::R) G ∧
    st=(E [(0,.d (.gp p 0)),(4,.d (.int .i64 i))],HB [],σ,G))
    ⟨_,_,stle,0,G2,by omega,rfl,by rw [syT_zero]; exact hd2.sep,rfl⟩ ?_
   rintro z st ⟨i,G3,hi,rfl,hs3,rfl⟩
   have hc3:=hs3.get
   obtain ⟨cells,hcb,hrow0⟩:=sl_row hs3 (by intro e; rw [List.map_eq_nil_iff] at e; have:=syT_len d1.cs i; rw [e] at this; simp at this; omega) (by rw [List.length_map,syT_len])
   have hrow:Row 66 (syT d1.cs i).length cap ((syT d1.cs i).map eR) cells:=by rw [syT_len]; exact hrow0
   refine goR hc3 ?_
   refine wG_dec (fun g1=>?_) (fun g1=>?_)
   · have hil:i < d1.cs.length:=by omega
     have hil2:i < (syT d1.cs i).length:=by rw [syT_len]; exact hil
     obtain ⟨r1,r2,r3⟩:=rRow hrow hil2
     rw [syT_get hil] at r3
     have hsucc:=syT_succ hil
     by_cases hop:d1.cs[i].op=[]
     · have el:eL d1.cs[i].op=.nilS:=by unfold eL; rw [if_pos hop]
       have hsame:syT d1.cs (i + 1)=syT d1.cs i:=by
        rw [hsucc]
        have:syC d1.cs[i]=(syT d1.cs i)[i]:=by rw [syT_get hil]; unfold syC; rw [hop]; rfl
        rw [this,List.set_getElem_self]
       rw [el] at r3
       (repeat' (first|(with_reducible first|refine W.seq ?_|refine W.block ?_)|((first|(with_reducible first|refine W.reg ?_|refine W.skip ?_|refine W.exit ?_|refine W.ret ?_|refine W.ifc ?_)|((with_reducible first|refine wG_decE (fun _ hG=>?_) (fun _ hG=>?_)|refine wG_decFE (fun _ hG=>?_) (fun _ hG=>?_))<;>(try simp -dsimp only [hG,decide_true,decide_false,not_true_eq_false,not_false_eq_true])<;>clear hG))<;>(try simp -dsimp (disch:=first|omega|(simp only [go_sem]; omega)) only [go_sem,seval,Nat.reduceEqDiff,Nat.reduceLeDiff,hc3,hcb,r3,Int.toNat_natCast]))|simp -dsimp (disch:=first|omega|(simp only [go_sem]; omega)) only [go_sem,seval,Nat.reduceEqDiff,Nat.reduceLeDiff,hc3,hcb,r3,Int.toNat_natCast]))
       refine ⟨_,_,?_,stle,i + 1,G3,by omega,rfl,by rw [hsame]; exact hs3,rfl⟩
       omega
     · have el:eL d1.cs[i].op=.list (d1.cs[i].op.map eS):=by unfold eL; rw [if_neg hop]
       have hl0:0 < d1.cs[i].op.length:=List.length_pos_iff.2 hop
       have hfew:=hd2.ok.few _ (List.getElem_mem hil)
       have hst1:=hd2.ok.st
       have hgt:(0 < (d1.cs[i].op.length:Int))=True:=eq_true (by omega)
       have e3:((d1.cs[i].op.length:Int) - 1).toNat=d1.cs[i].op.length - 1:=by omega
       have e66:i * 66 + 66≤cells.length:=hrow.fits (i:=i) (by simpa using hil2)
       have hsy:syC d1.cs[i]=⟨d1.cs[i].op[d1.cs[i].op.length - 1],false,[]⟩:=by
        unfold syC
        rw [List.getLast?_eq_some_getLast hop,List.getLast_eq_getElem]
       have hr2:=row_rel hrow hil2 fun _=>syC d1.cs[i]
       rw [modify_set hil2,← hsucc] at hr2
       simp only [hsy] at hr2
       rw [syT_len] at hr2
       have eln:eL []=.nilS:=rfl
       rw [eln] at hr2
       have hs4:=(Sep.slSet hs3.swap hr2).swap
       rw [el] at r3
       (repeat' (first|(with_reducible first|refine W.seq ?_|refine W.block ?_)|((first|(with_reducible first|refine W.reg ?_|refine W.skip ?_|refine W.exit ?_|refine W.ret ?_|refine W.ifc ?_)|((with_reducible first|refine wG_decE (fun _ hG=>?_) (fun _ hG=>?_)|refine wG_decFE (fun _ hG=>?_) (fun _ hG=>?_))<;>(try simp -dsimp only [hG,decide_true,decide_false,not_true_eq_false,not_false_eq_true])<;>clear hG))<;>(try simp -dsimp (disch:=first|omega|(simp only [go_sem]; omega)) only [go_sem,seval,Nat.reduceEqDiff,Nat.reduceLeDiff,hc3,hcb,r3,Int.toNat_natCast,hgt,e3,e66]))|simp -dsimp (disch:=first|omega|(simp only [go_sem]; omega)) only [go_sem,seval,Nat.reduceEqDiff,Nat.reduceLeDiff,hc3,hcb,r3,Int.toNat_natCast,hgt,e3,e66]))
       refine ⟨_,_,?_,stle,i + 1,_,by omega,rfl,hs4,rfl⟩
       omega
   · obtain rfl:i=d1.cs.length:=by omega
     (repeat' (first|(with_reducible first|refine W.seq ?_|refine W.block ?_)|((first|(with_reducible first|refine W.reg ?_|refine W.skip ?_|refine W.exit ?_|refine W.ret ?_|refine W.ifc ?_)|((with_reducible first|refine wG_decE (fun _ hG=>?_) (fun _ hG=>?_)|refine wG_decFE (fun _ hG=>?_) (fun _ hG=>?_))<;>(try simp -dsimp only [hG,decide_true,decide_false,not_true_eq_false,not_false_eq_true])<;>clear hG))<;>(try simp -dsimp (disch:=first|omega|(simp only [go_sem]; omega)) only [go_sem,seval,Nat.reduceEqDiff,Nat.reduceLeDiff,hc3]))|simp -dsimp (disch:=first|omega|(simp only [go_sem]; omega)) only [go_sem,seval,Nat.reduceEqDiff,Nat.reduceLeDiff,hc3]))
     rw [syT_end] at hs3
     exact Fin.eq rfl ⟨rfl,_,⟨rfl,rfl⟩,(RefP.mk (cb:=cb) (cap:=cap) hok (by simpa using hs3)).close⟩
 · rw [if_pos (by decide)] at hok ⊢
   have df:decide ((12:Int)=0)=false:=rfl
   refine goS trivial ?_
   (repeat' (first|(with_reducible first|refine W.seq ?_|refine W.block ?_)|((first|(with_reducible first|refine W.reg ?_|refine W.skip ?_|refine W.exit ?_|refine W.ret ?_|refine W.ifc ?_)|((with_reducible first|refine wG_decE (fun _ hG=>?_) (fun _ hG=>?_)|refine wG_decFE (fun _ hG=>?_) (fun _ hG=>?_))<;>(try simp -dsimp only [hG,decide_true,decide_false,not_true_eq_false,not_false_eq_true])<;>clear hG))<;>(try simp -dsimp (disch:=first|omega|(simp only [go_sem]; omega)) only [go_sem,seval,Nat.reduceEqDiff,Nat.reduceLeDiff,df]))|simp -dsimp (disch:=first|omega|(simp only [go_sem]; omega)) only [go_sem,seval,Nat.reduceEqDiff,Nat.reduceLeDiff,df]))
   exact Fin.eq rfl ⟨rfl,_,⟨rfl,rfl⟩,hs2⟩
end Go.Proofs.Ytioojmlhmhgeeaa
