/-
 Layer 21 (disk): the disk of the specification: Crash.
 Conditions: of each contract as it says.
-/
import Derived.Test.YtioojmlhmhgeeaaF22rd
import Derived.Test.YtioojmlhmhgeeaaS22d
namespace Go.Proofs.Ytioojmlhmhgeeaa
open Go Go.E2 C22
set_option linter.unusedSimpArgs false
set_option maxHeartbeats 1000000
def resR (keep:List Int) (cs:List Cel) (i:Nat):List Cel:=(crashL keep cs 0).take i ++ List.replicate (cs.length - i) freshC
theorem resR_len (keep:List Int) (cs:List Cel) {i:Nat} (hi:i≤cs.length):(resR keep cs i).length=cs.length:=by
 unfold resR
 rw [List.length_append,List.length_take,crashL_len,List.length_replicate]
 omega
theorem resR_zero (keep:List Int) (cs:List Cel):resR keep cs 0=List.replicate cs.length freshC:=by unfold resR; simp
theorem resR_end (keep:List Int) (cs:List Cel):resR keep cs cs.length=crashL keep cs 0:=by
 unfold resR
 rw [List.take_of_length_le (by rw [crashL_len]; exact Nat.le_refl _),Nat.sub_self]
 simp
theorem resR_succ (keep:List Int) (cs:List Cel) {i:Nat} (hi:i < cs.length) {c:Cel} (hc:(crashL keep cs 0)[i]?=some c):resR keep cs (i + 1)=(resR keep cs i).set i c:=by
 unfold resR
 have hl:((crashL keep cs 0).take i).length=i:=by rw [List.length_take,crashL_len]; omega
 rw [List.set_append_right _ _ (by rw [hl]; exact Nat.le_refl _),hl,Nat.sub_self,show cs.length - i=(cs.length - (i + 1)) + 1 by omega,List.replicate_succ,List.set_cons_zero,List.take_add_one,hc]
 simp
theorem rankO_succ' (d:Dk) (i:Nat):rankO d (i + 1)=rankO d i + (if opAt d i=[] then 0 else 1):=by
 unfold rankO
 rw [List.range_succ,List.filter_append,List.length_append]
 congr 1
 unfold isOpen
 by_cases h:opAt d i=[]
 · simp [h]
 · simp [h]
theorem rCrash_ok (p:Nat) (d:Dk) (keep:List Int) (hk:keep.length≤9223372036854775807):CallS Try.prog f_zz1 [.gp p 0,.list (keep.map eI)] [RefA p d] (fun r post=>∃ q,r=.d (.gp q 0)∧post=[RefA q (crash d keep),RefA p d]):=by
 refine callS_of_W fol zz1_cp fun R G σ hs=>?_
 obtain ⟨cb,cap,hd⟩:=RefP.open hs
 have hok:=hd.ok
 have hpos:=hok.pos
 have hmost:=hok.most
 have hc:=hd.cell
 obtain ⟨n,hn⟩:∃ n,n=d.cs.length:=⟨_,rfl⟩
 have q1:((n:Int) < 1)=False:=eq_false (by omega)
 rw [← hn] at hc
 refine goS trivial ?_
 refine goR hc ?_
 refine wP_mk (by omega) ?_
 refine wNew_mk fun qb hqb=>?_
 refine goS trivial ?_
 refine goR trivial ?_
 refine wNew_mk fun q hq=>?_
 have hrow0:Row 66 n n ((resR keep d.cs 0).map eR) (rep n (zr 64 (.int .u8 0) ++ [.bool false,.nilS])):=by
  rw [zr_r0,resR_zero,← hn]
  have:=Row.mk' (sz:=66) (n:=n) (cap:=n) (es:=(List.replicate n freshC).map eR) (rest:=[]) (by simp) (eR_all _) (Nat.le_refl _) (by rw [List.append_nil,flat_length (eR_all _)]; simp)
  simpa using this
 have hs1:Sep (CellA q [.gs qb 0 n n,.int .i64 0,.int .i64 (-1),.bool false]::SlA 66 (.gs qb 0 n n) ((resR keep d.cs 0).map eR)::CellA p [.gs cb 0 n cap,.int .i64 d.steps,.int .i64 d.after,.bool d.dead]::SlA 66 (.gs cb 0 n cap) (d.cs.map eR)::R) _ :=
  Sep.new (b:=q) (cs:=[.gs qb 0 n n,.int .i64 0,.int .i64 (-1),.bool false]) hq (Sep.toSl (Sep.new hqb (by rw [hn]; exact hd.sep)) hrow0)
 refine goS trivial ?_
 refine goR trivial ?_
 generalize Gh.set _ q _=G1 at hs1 ⊢
 refine W.loop (fun z st=>∃ (i m:Nat) (G:Gh),i≤n∧z=n - i∧m=rankO d i ∧
  Sep (CellA q [.gs qb 0 n n,.int .i64 0,.int .i64 (-1),.bool false]::SlA 66 (.gs qb 0 n n) ((resR keep d.cs i).map eR)::CellA p [.gs cb 0 n cap,.int .i64 d.steps,.int .i64 d.after,.bool d.dead]::SlA 66 (.gs cb 0 n cap) (d.cs.map eR)::R) G ∧
  st=(E [(0,.d (.gp p 0)),(1,.d (.list (keep.map eI))),(5,.d (.gp q 0)),(6,.d (.int .i64 m)),(7,.d (.int .i64 i))],HB [],σ,G))
  ⟨_,_,stle,0,0,G1,by omega,rfl,rfl,hs1,rfl⟩ ?_
 clear hs1 hrow0
 rintro z st ⟨i,m,G2,hi,rfl,hm,hs2,rfl⟩
 have hcq:=hs2.get
 have hcp:=hs2.tail.tail.get
 refine goR hcp ?_
 refine wG_dec (fun g1=>?_) (fun g1=>?_)
 · have hil:i < d.cs.length:=by omega
   have hrl:=resR_len keep d.cs (i:=i) (by omega)
   obtain ⟨cellsq,hcbq,hrowq0⟩:=sl_row hs2 (by intro e; rw [List.map_eq_nil_iff] at e; rw [e] at hrl; simp at hrl; omega) (by rw [List.length_map,hrl,hn])
   obtain ⟨cells,hcb,hrow0⟩:=sl_row hs2.tail.tail (by intro e; rw [List.map_eq_nil_iff] at e; rw [e] at hil; simp at hil) (by rw [List.length_map,hn])
   have hrow:Row 66 d.cs.length cap (d.cs.map eR) cells:=by rw [← hn]; exact hrow0
   have hrowq:Row 66 (resR keep d.cs i).length n ((resR keep d.cs i).map eR) cellsq:=by rw [hrl,← hn]; exact hrowq0
   obtain ⟨r1,r2,r3⟩:=rRow hrow hil
   have hcg:=crashL_get (keep:=keep) (n:=0) hil
   rw [Nat.zero_add,← rank_take d i (by omega)] at hcg
   have hrs:=rankO_succ' d i
   have e66:i * 66 + 66≤cellsq.length:=hrowq.fits (i:=i) (by rw [List.length_map,hrl]; exact hil)
   obtain ⟨c,hcc⟩:∃ c,c=d.cs[i]:=⟨_,rfl⟩
   rw [← hcc] at r1 r2 r3 hcg
   by_cases hop:c.op=[]
   · rw [if_pos hop] at hcg
     have el:eL c.op=.nilS:=by unfold eL; rw [if_pos hop]
     rw [el] at r3
     unfold eR at r1
     rw [el] at r1
     have hcl:=rCel_len c.s c.bad .nilS
     have hr2:=row_rel hrowq (k:=i) (by rw [hrl]; exact hil) fun _=>c
     rw [modify_set (by rw [hrl]; exact hil),← resR_succ keep d.cs hil hcg,hrl,← hn,el] at hr2
     have hs3:=(Sep.slSet hs2.swap hr2).swap
     have hrk:rankO d (i + 1)=rankO d i:=by
      rw [hrs,opAt_get hil,← hcc,hop]; rfl
     (repeat' (first|(with_reducible first|refine W.seq ?_|refine W.block ?_)|((first|(with_reducible first|refine W.reg ?_|refine W.skip ?_|refine W.exit ?_|refine W.ret ?_|refine W.ifc ?_)|((with_reducible first|refine wG_decE (fun _ hG=>?_) (fun _ hG=>?_)|refine wG_decFE (fun _ hG=>?_) (fun _ hG=>?_))<;>(try simp -dsimp only [hG,decide_true,decide_false,not_true_eq_false,not_false_eq_true])<;>clear hG))<;>(try simp -dsimp (disch:=first|omega|(simp only [go_sem]; omega)) only [go_sem,seval,Nat.reduceEqDiff,Nat.reduceLeDiff,hcp,hcb,hcq,hcbq,r1,r3,Int.toNat_natCast,hcl,e66]))|simp -dsimp (disch:=first|omega|(simp only [go_sem]; omega)) only [go_sem,seval,Nat.reduceEqDiff,Nat.reduceLeDiff,hcp,hcb,hcq,hcbq,r1,r3,Int.toNat_natCast,hcl,e66]))
     refine ⟨_,_,?_,stle,i + 1,m,_,by omega,rfl,by rw [hrk]; exact hm,hs3,rfl⟩
     omega
   · rw [if_neg hop,← hm] at hcg
     have el:eL c.op=.list (c.op.map eS):=by unfold eL; rw [if_neg hop]
     rw [el] at r3
     have hl0:0 < c.op.length:=List.length_pos_iff.2 hop
     have hcm:c ∈ d.cs:=by rw [hcc]; exact List.getElem_mem _
     have hfew:=hok.few c hcm
     have hst:=hok.st
     have hln:((c.op.length:Int)=0)=False:=eq_false (by omega)
     obtain ⟨x,hx⟩:∃ x,x=keepAt keep m:=⟨_,rfl⟩
     rw [← hx] at hcg
     obtain ⟨kc,hkc⟩:∃ kc,kc=kept c x:=⟨_,rfl⟩
     have hkop:kc.op=[]:=by rw [hkc]; exact (kept_ok (hok.rot c hcm) x).2
     rw [← hkc] at hcg
     have hke:eR kc=.agg (kc.s.1.map eB ++ [.bool kc.bad,.nilS]):=by unfold eR eL; rw [if_pos hkop]
     have hcl:=rCel_len kc.s kc.bad .nilS
     have hcall:=rkept_ok c x hop (by omega) (hok.rot c hcm)
     rw [← hkc,hke] at hcall
     have hr2:=row_rel hrowq (k:=i) (by rw [hrl]; exact hil) fun _=>kc
     have ekc:eL kc.op=.nilS:=by unfold eL; rw [if_pos hkop]
     rw [modify_set (by rw [hrl]; exact hil),← resR_succ keep d.cs hil hcg,hrl,← hn,ekc] at hr2
     have hs3:=(Sep.slSet hs2.swap hr2).swap
     have hrk:m + 1=rankO d (i + 1):=by
      rw [hrs,opAt_get hil,← hcc,if_neg hop,hm]
     have hm65:m≤65536:=by
      have:rankO d i≤i:=by unfold rankO; exact Nat.le_trans (List.length_filter_le _ _) (by simp)
      omega
     by_cases hke0:keep=[]
     · have hx0:x=0:=by rw [hx]; unfold keepAt; rw [if_pos hke0]
       have hkl:keep.length=0:=by rw [hke0]; rfl
       have hkl':(0 < (keep.length:Int))=False:=eq_false (by omega)
       rw [hx0] at hcall
       (repeat' (first|(with_reducible first|refine W.seq ?_|refine W.block ?_)|((first|(with_reducible first|refine W.reg ?_|refine W.skip ?_|refine W.exit ?_|refine W.ret ?_|refine W.ifc ?_)|(apply wC_P (hcall); (focus (simp -dsimp (disch:=first|omega|(simp only [go_sem]; omega)) only [go_sem,seval,Nat.reduceEqDiff,Nat.reduceLeDiff]<;>rfl)); rintro _ rfl)|((with_reducible first|refine wG_decE (fun _ hG=>?_) (fun _ hG=>?_)|refine wG_decFE (fun _ hG=>?_) (fun _ hG=>?_))<;>(try simp -dsimp only [hG,decide_true,decide_false,not_true_eq_false,not_false_eq_true])<;>clear hG))<;>(try simp -dsimp (disch:=first|omega|(simp only [go_sem]; omega)) only [go_sem,seval,Nat.reduceEqDiff,Nat.reduceLeDiff,hcp,hcb,hcq,hcbq,r1,r3,Int.toNat_natCast,hcl,e66,hln,hkl']))|simp -dsimp (disch:=first|omega|(simp only [go_sem]; omega)) only [go_sem,seval,Nat.reduceEqDiff,Nat.reduceLeDiff,hcp,hcb,hcq,hcbq,r1,r3,Int.toNat_natCast,hcl,e66,hln,hkl']))
       refine ⟨_,_,?_,stle,i + 1,m + 1,_,by omega,rfl,hrk,hs3,rfl⟩
       omega
     · have hkl:0 < keep.length:=List.length_pos_iff.2 hke0
       have hkl':(0 < (keep.length:Int))=True:=eq_true (by omega)
       have hmod:(m:Int).tmod (keep.length:Int)=((m % keep.length:Nat):Int):=by rw [Int.tmod_eq_emod_of_nonneg (by omega)]; omega
       have hml:m % keep.length < keep.length:=Nat.mod_lt _ hkl
       have hxk:x=keep[m % keep.length]:=by rw [hx]; unfold keepAt; rw [if_neg hke0,List.getElem?_eq_getElem hml]; rfl
       rw [hxk] at hcall
       have hall:(keep.map eI).all (sizeOk 1)=true:=by rw [List.all_eq_true]; intro y hy; obtain ⟨s,_,rfl⟩:=List.mem_map.1 hy; rfl
       (repeat' (first|(with_reducible first|refine W.seq ?_|refine W.block ?_)|((first|(with_reducible first|refine W.reg ?_|refine W.skip ?_|refine W.exit ?_|refine W.ret ?_|refine W.ifc ?_)|(apply wC_P (hcall); (focus (simp -dsimp (disch:=first|omega|(simp only [go_sem]; omega)) only [go_sem,seval,Nat.reduceEqDiff,Nat.reduceLeDiff]<;>rfl)); rintro _ rfl)|((with_reducible first|refine wG_decE (fun _ hG=>?_) (fun _ hG=>?_)|refine wG_decFE (fun _ hG=>?_) (fun _ hG=>?_))<;>(try simp -dsimp only [hG,decide_true,decide_false,not_true_eq_false,not_false_eq_true])<;>clear hG))<;>(try simp -dsimp (disch:=first|omega|(simp only [go_sem]; omega)) only [go_sem,seval,Nat.reduceEqDiff,Nat.reduceLeDiff,hcp,hcb,hcq,hcbq,r1,r3,Int.toNat_natCast,hcl,e66,hln,hkl',hmod,hall]))|simp -dsimp (disch:=first|omega|(simp only [go_sem]; omega)) only [go_sem,seval,Nat.reduceEqDiff,Nat.reduceLeDiff,hcp,hcb,hcq,hcbq,r1,r3,Int.toNat_natCast,hcl,e66,hln,hkl',hmod,hall]))
       refine ⟨_,_,?_,stle,i + 1,m + 1,_,by omega,rfl,hrk,hs3,rfl⟩
       omega
 · obtain rfl:i=n:=by omega
   rw [hn,resR_end,← hn] at hs2
   have hck:=crash_ok hok keep
   (repeat' (first|(with_reducible first|refine W.seq ?_|refine W.block ?_)|((first|(with_reducible first|refine W.reg ?_|refine W.skip ?_|refine W.exit ?_|refine W.ret ?_|refine W.ifc ?_)|((with_reducible first|refine wG_decE (fun _ hG=>?_) (fun _ hG=>?_)|refine wG_decFE (fun _ hG=>?_) (fun _ hG=>?_))<;>(try simp -dsimp only [hG,decide_true,decide_false,not_true_eq_false,not_false_eq_true])<;>clear hG))<;>(try simp -dsimp (disch:=first|omega|(simp only [go_sem]; omega)) only [go_sem,seval,Nat.reduceEqDiff,Nat.reduceLeDiff,hcp]))|simp -dsimp (disch:=first|omega|(simp only [go_sem]; omega)) only [go_sem,seval,Nat.reduceEqDiff,Nat.reduceLeDiff,hcp]))
   refine Fin.eq rfl ⟨rfl,_,⟨q,rfl,rfl⟩,?_⟩
   have hl:=crash_len d keep
   have h1:Sep (CellA p [.gs cb 0 i cap,.int .i64 d.steps,.int .i64 d.after,.bool d.dead]::SlA 66 (.gs cb 0 i cap) (d.cs.map eR)::CellA q [.gs qb 0 i i,.int .i64 0,.int .i64 (-1),.bool false]::SlA 66 (.gs qb 0 i i) ((crashL keep d.cs 0).map eR)::R) _:=hs2.f4.f4
   have h2:Sep (RefA p d::CellA q [.gs qb 0 i i,.int .i64 0,.int .i64 (-1),.bool false]::SlA 66 (.gs qb 0 i i) ((crashL keep d.cs 0).map eR)::R) _:=(RefP.mk (cb:=cb) (cap:=cap) hok (by rw [← hn]; exact h1)).close
   have h3:Sep (CellA q [.gs qb 0 i i,.int .i64 0,.int .i64 (-1),.bool false]::SlA 66 (.gs qb 0 i i) ((crashL keep d.cs 0).map eR)::RefA p d::R) _:=h2.b3
   exact (RefP.mk (d:=crash d keep) (cb:=qb) (cap:=i) hck.1 (by rw [hl,← hn]; exact h3)).close
end Go.Proofs.Ytioojmlhmhgeeaa
