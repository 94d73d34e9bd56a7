/-
 Layer 44: tickets and pieces; which pieces fit.
 Conditions: of each contract as it says.
-/
import Derived.Test.YtclmdhceceacoaaGreatDoorH9
namespace Go.Proofs.YtclmdhceceacoaaGreatDoor
open Go Go.E2 CW CH C44
set_option linter.unusedSimpArgs false
set_option maxHeartbeats 4000000
abbrev Dg:={d:List UInt8 // d.length=16}
def eD (d:Dg):D:=eDg d.1
theorem eD_mk (d:Dg):eD d=.agg (d.1.map eB):=rfl
theorem eD_len (d:Dg):(d.1.map eB).length=16:=by rw [List.length_map,d.2]
theorem eD_one (d:Dg):(d.1.map eB).all D.one=true:=by rw [List.all_map,List.all_eq_true]; intro x _; rfl
@[go_sem ↓] theorem eD_size (d:Dg):sizeOk 16 (eD d)=true:=by simp only [sizeOk,eD_mk,D.cells,eD_len,eD_one]; rfl
@[go_sem] theorem eD_all (l:List Dg):(l.map eD).all (sizeOk 16)=true:=by rw [List.all_eq_true]; intro x hx; obtain ⟨s,_,rfl⟩:=List.mem_map.1 hx; exact eD_size s
@[go_sem ↓] theorem eD_cells (d:Dg):(eD d).cells=d.1.map eB:=rfl
theorem cellsEq_bytes:∀ (l l':List UInt8),l.length=l'.length→cellsEq (kr l.length .i) (l.map eB) (l'.map eB)=some (decide (l=l'))
 | [],[],_=>rfl
 | a::l,b::l',h=>by
   have ih:=cellsEq_bytes l l' (by simpa using h)
   have e:kr (a::l).length .i=.i::kr l.length .i:=by simp [kr,List.replicate_succ]
   have hab:((a.toNat:Int) == (b.toNat:Int))=decide (a=b):=by
    rw [Bool.eq_iff_iff]; simp only [beq_iff_eq,decide_eq_true_eq]
    exact ⟨fun h=>UInt8.toNat_inj.1 (by omega),fun h=>by rw [h]⟩
   simp only [e,List.map_cons,cellsEq,eB,cellEq,if_true,hab]
   rw [ih]
   simp
 | [],_::_,h=>by simp at h
 | _::_,[],h=>by simp at h
theorem cellsEq_dg (s t:Dg):cellsEq (kr 16 .i) (s.1.map eB) (t.1.map eB)=some (decide (s=t)):=by
 have:=cellsEq_bytes s.1 t.1 (by rw [s.2,t.2])
 rw [s.2] at this
 rw [this]
 congr 1
 exact decide_eq_decide.2 ⟨fun h=>Subtype.ext h,fun h=>by rw [h]⟩
def mk3 (h i s:Int):Dg:=⟨mark h i s,mark_len h i s⟩
structure Tk where
 house:Int
 need:Int
 marks:List Dg
structure Pc where
 at_:Int
 val:Int
deriving DecidableEq
def eT (t:Tk):D:=.agg [eI t.house,eI t.need,.list (t.marks.map eD)]
def eP (p:Pc):D:=.agg [eI p.at_,eI p.val]
@[go_sem] theorem eP_all (l:List Pc):(l.map eP).all (sizeOk 2)=true:=by rw [List.all_eq_true]; intro x hx; obtain ⟨s,_,rfl⟩:=List.mem_map.1 hx; rfl
def Tk.valid (t:Tk):Bool:=decide (0≤t.house∧t.house≤11∧1≤t.need∧t.need≤t.marks.length∧t.marks.length≤12)
theorem Tk.valid_iff {t:Tk}:t.valid=true↔0≤t.house∧t.house≤11∧1≤t.need∧t.need≤t.marks.length∧t.marks.length≤12:=by simp [Tk.valid]
def fits (t:Tk) (p:Pc):Bool:=t.valid && decide (1≤p.at_∧p.at_≤t.marks.length∧0≤p.val∧p.val < 2147483647) && decide (t.marks[(p.at_ - 1).toNat]?=some (mk3 t.house p.at_ p.val))
theorem Valid_ok (t:Tk):CallP Tryz.prog f_zz47 [eT t] (·=.d (.bool t.valid)):=by
 refine callP_of_W fol zz47_cp ?_
 have hh:=isHouse_ok t.house
 have e0:decide (0≤t.house∧t.house < 12)=decide (0≤t.house∧t.house≤11):=decide_eq_decide.2 ⟨fun h=>by omega,fun h=>by omega⟩
 rw [e0] at hh
 unfold Tk.valid eT
 by_cases h1:0≤t.house∧t.house≤11
 case neg =>
  rw [decide_eq_false h1] at hh
  have hv:decide (0≤t.house∧t.house≤11∧1≤t.need∧t.need≤t.marks.length∧t.marks.length≤12)=false:=decide_eq_false fun h=>h1 ⟨h.1,h.2.1⟩
  refine goS trivial ?_
  (refine goX1 trivial (hh) ?_; (repeat' (with_reducible apply Br.mk<;>intro _)))
  exact Fin.p rfl (by rw [hv])
 rw [decide_eq_true h1] at hh
 have hv:decide (0≤t.house∧t.house≤11∧1≤t.need∧t.need≤t.marks.length∧t.marks.length≤12)=decide (1≤t.need∧t.need≤t.marks.length∧t.marks.length≤12):=decide_eq_decide.2 ⟨fun h=>h.2.2,fun h=>⟨h1.1,h1.2,h⟩⟩
 rw [hv]
 by_cases h2:(t.marks.length:Int)≤12<;>by_cases h3:1≤t.need<;>by_cases h4:t.need≤(t.marks.length:Int)
 all_goals
  refine goS trivial ?_
  (refine goX1 (nn h2 (nn h3 h4)) (hh) ?_; (repeat' (with_reducible apply Br.mk<;>intro _)))
  exact Fin.p rfl (by congr 2; first|exact (decide_eq_true ⟨h3,h4,by omega⟩).symm|exact (decide_eq_false fun h=>by omega).symm)
end Go.Proofs.YtclmdhceceacoaaGreatDoor
/-
 Layer 44: which pieces fit.
 Conditions: of each contract as it says.
-/
namespace Go.Proofs.YtclmdhceceacoaaGreatDoor
open Go Go.E2 CW CH C44
set_option linter.unusedSimpArgs false
set_option maxHeartbeats 4000000
theorem mark_args {h i s:Int} (h1:0≤h∧h≤11) (h2:1≤i∧i≤12) (h3:0≤s∧s < 2147483647):∀ n ∈ [h,i,s],i64 n:=by
 simp only [List.mem_cons,List.not_mem_nil,or_false,forall_eq_or_imp,forall_eq]
 exact ⟨⟨by omega,by omega⟩,⟨by omega,by omega⟩,⟨by omega,by omega⟩⟩
theorem mark3_ok {h i s:Int} (h1:0≤h∧h≤11) (h2:1≤i∧i≤12) (h3:0≤s∧s < 2147483647):CallP Tryz.prog f_zz63 [.int .i64 193,.list [eI h,eI i,eI s]] (·=.d (eD (mk3 h i s))) :=
 of_ok 193 (by decide) [h,i,s] (by simp) (mark_args h1 h2 h3)
theorem Fits_ok (t:Tk) (p:Pc):CallP Tryz.prog f_zz56 [eT t,eP p] (·=.d (.bool (fits t p))):=by
 refine callP_of_W fol zz56_cp ?_
 have hv:=Valid_ok t
 cases hval:t.valid with
 | false =>
  rw [hval] at hv
  have hf:fits t p=false:=by unfold fits; rw [hval]; rfl
  rw [hf]
  unfold eT eP at *
  refine goS trivial ?_
  (refine goX1 trivial (hv) ?_; (repeat' (with_reducible apply Br.mk<;>intro _)))
  exact Fin.p rfl rfl
 | true =>
  rw [hval] at hv
  have hh:=Tk.valid_iff.1 hval
  have hn:=isNumber_ok p.val
  by_cases h1:1≤p.at_∧p.at_≤t.marks.length
  case neg =>
   have hf:fits t p=false:=by unfold fits; rw [decide_eq_false (p:=1≤p.at_∧p.at_≤t.marks.length∧_) (fun h=>h1 ⟨h.1,h.2.1⟩)]; simp
   rw [hf]
   unfold eT eP at *
   by_cases h2:1≤p.at_
   · have h3:¬ p.at_≤(t.marks.length:Int):=fun h=>h1 ⟨h2,h⟩
     refine goS trivial ?_
     (refine goX1 (nn h2 h3) (hv) ?_; (repeat' (with_reducible apply Br.mk<;>intro _)))
     exact Fin.p rfl rfl
   · refine goS trivial ?_
     (refine goX1 h2 (hv) ?_; (repeat' (with_reducible apply Br.mk<;>intro _)))
     exact Fin.p rfl rfl
  obtain ⟨h2,h3⟩:=h1
  by_cases h4:0≤p.val∧p.val < 2147483647
  case neg =>
   rw [decide_eq_false h4] at hn
   have hf:fits t p=false:=by unfold fits; rw [decide_eq_false (p:=1≤p.at_∧p.at_≤t.marks.length∧_) (fun h=>h4 h.2.2)]; simp
   rw [hf]
   unfold eT eP at *
   refine goS trivial ?_
   (refine goX2 (nn h2 h3) (hv) (hn) ?_; (repeat' (with_reducible apply Br.mk<;>intro _)))
   exact Fin.p rfl rfl
  rw [decide_eq_true h4] at hn
  have ho:=mark3_ok (h:=t.house) (i:=p.at_) (s:=p.val) ⟨hh.1,hh.2.1⟩ ⟨h2,by omega⟩ h4
  obtain ⟨k,hk,hke⟩:∃ k:Nat,k < t.marks.length∧p.at_ - 1=(k:Int):=⟨(p.at_ - 1).toNat,by omega,by omega⟩
  obtain ⟨d1,d2,d3,d4⟩:=dgOk t.marks[k].2
  have d5:=t.marks[k].2
  have hf:fits t p=decide (mk3 t.house p.at_ p.val=t.marks[k]):=by
   unfold fits
   rw [hval,hke,Int.toNat_natCast,List.getElem?_eq_getElem hk,decide_eq_true ⟨h2,h3,h4.1,h4.2⟩,Bool.true_and,Bool.true_and]
   exact decide_eq_decide.2 ⟨fun h=>(Option.some.inj h).symm,fun h=>by rw [h]⟩
  have hc:=cellsEq_dg (mk3 t.house p.at_ p.val) t.marks[k]
  rw [← hf] at hc
  generalize mk3 t.house p.at_ p.val=dd at ho hc
  unfold eT eP at *
  have hml:t.marks.length < 4611686018427387904:=by omega
  refine goS trivial ?_
  (repeat' (first|(with_reducible first|refine W.seq ?_|refine W.block ?_|refine W.scope ?_)|((first|(with_reducible first|refine W.reg ?_|refine W.skip ?_|refine W.exit ?_|refine W.ret ?_|refine W.ifc ?_)|(apply wC_P (hv); (focus (simp -dsimp (disch:=first|omega|(simp only [go_sem]; omega)) only [go_sem,seval,Nat.reduceEqDiff,Nat.reduceLeDiff]<;>rfl)); rintro _ rfl)|(apply wC_P (hn); (focus (simp -dsimp (disch:=first|omega|(simp only [go_sem]; omega)) only [go_sem,seval,Nat.reduceEqDiff,Nat.reduceLeDiff]<;>rfl)); rintro _ rfl)|(apply wC_P (ho); (focus (simp -dsimp (disch:=first|omega|(simp only [go_sem]; omega)) only [go_sem,seval,Nat.reduceEqDiff,Nat.reduceLeDiff]<;>rfl)); rintro _ rfl)|((with_reducible first|refine wG_decE (fun _ hG=>?_) (fun _ hG=>?_)|refine wG_decFE (fun _ hG=>?_) (fun _ hG=>?_))<;>(try simp -dsimp only [hG,decide_true,decide_false,not_true_eq_false,not_false_eq_true])<;>clear hG))<;>(try simp -dsimp (disch:=first|omega|(simp only [go_sem]; omega)) only [go_sem,seval,Nat.reduceEqDiff,Nat.reduceLeDiff,h2,h3,hke,hc,hk,d2,d5,eD_mk dd]))|simp -dsimp (disch:=first|omega|(simp only [go_sem]; omega)) only [go_sem,seval,Nat.reduceEqDiff,Nat.reduceLeDiff,h2,h3,hke,hc,hk,d2,d5,eD_mk dd]))
  exact Fin.p rfl rfl
end Go.Proofs.YtclmdhceceacoaaGreatDoor
/-
 Layer 44: the function from trustees to shares.
 Conditions: of each contract as it says.
-/
namespace Go.Proofs.YtclmdhceceacoaaGreatDoor
open Go Go.E2 CW CH C44
set_option linter.unusedSimpArgs false
set_option maxHeartbeats 4000000
@[go_sem] theorem eN_all (l:List Nat):(l.map eN).all (sizeOk 1)=true:=by rw [List.all_eq_true]; intro x hx; obtain ⟨s,_,rfl⟩:=List.mem_map.1 hx; rfl
def coefs (h s:Nat):Nat→List Nat
 | 0=>[s]
 | k + 1=>coefs h s k ++ [cf h s (k + 1)]
theorem coefs_len (h s:Nat):∀ k,(coefs h s k).length=k + 1
 | 0=>rfl
 | k + 1=>by rw [coefs,List.length_append,coefs_len h s k]; rfl
theorem row1 (x:D) (h:sizeOk 1 x=true):Row 1 1 1 [x] (flat [x]):=by
 have:=Row.mk' (sz:=1) (n:=1) (cap:=1) (es:=[x]) (rest:=[]) rfl (by simp [h]) (by omega) (by simpa [flat] using (by simp only [sizeOk,Bool.and_eq_true,beq_iff_eq,decide_eq_true_eq] at h; omega:1≤x.cells.length))
 rwa [List.append_nil] at this
theorem sharer_ok (h s need:Nat) (h1:h < 12) (h2:s < P) (h3:1≤need∧need≤12) :
 CallS Tryz.prog f_zz43 [eN h,eN s,eN need] [] (fun r post=>∃ b x,r=.d (.clo f_zz33 [.gp b 0])∧post=[CellA b [x],SlA 1 x ((coefs h s (need - 1)).map eN)]):=by
 refine callS_of_W fol zz43_cp fun R G σ hs0=>?_
 have hs:Sep R G:=hs0
 have hm:=mostBytes_eq
 refine goS trivial ?_
 (refine goX trivial ?_; (repeat' (with_reducible apply Br.mk<;>intro _)))
 refine wNew_mk fun bl hbl=>?_
 have hs1:=Sep.new (cs:=flat [eN s]) hbl hs
 have hs2:=hs1.imp (B:=SlA 1 (.gs bl 0 1 1) ((coefs h s 0).map eN)) fun G' h'=>GV.mk (n:=1) h' (row1 _ rfl)
 revert hs2
 refine goS trivial ?_
 generalize G.set bl _=G1
 clear hs1 hbl hs hs0 G
 intro hs2
 refine wNew_mk fun b hb=>?_
 have hs3:=Sep.new (cs:=[.nilS]) hb hs2
 revert hs3
 generalize G1.set b _=G2
 intro hs3
 have hc:=hs3.get
 refine goS trivial ?_
 (refine goX hc ?_; (repeat' (with_reducible apply Br.mk<;>intro _)))
 have hs4:=Sep.set (cs':=[.gs bl 0 1 1]) hs3
 refine W.loop (fun q st=>∃ (k:Nat) (x:D) (G:Gh),k + 1≤need∧q=need - (k + 1)∧Sep (CellA b [x]::SlA 1 x ((coefs h s k).map eN)::R) G ∧
  st=(E [(8,.d (eN (k + 1))),(7,.d (.gp b 0)),(0,.d (eN h)),(1,.d (eN s)),(2,.d (eN need))],HB [],σ,G))
  ⟨_,_,stle,0,_,_,by omega,rfl,hs4,rfl⟩ ?_
 clear hs4 hs3 hs2 hc hb G1 G2
 rintro q st ⟨k,x,G,hk,rfl,hs,rfl⟩
 have hc:=hs.get
 by_cases g1:((k + 1:Nat):Int) < (need:Int)
 case pos =>
  obtain ⟨c1,c2,c3⟩:=coef_ok h s k h1 h2 (by omega)
  have ho:=of_ok 192 (by decide) [(h:Int),(s:Int),((k + 1:Nat):Int)] (by simp) (by simp only [List.mem_cons,List.not_mem_nil,or_false,forall_eq_or_imp,forall_eq]; exact ⟨c1,c2,c3⟩)
  have hr:=reduce_ok (dig 192 ([(h:Int),(s:Int),((k + 1:Nat):Int)].map intB)) (dig_len _ _)
  have hcf:cf h s (k + 1)=red (dig 192 ([(h:Int),(s:Int),((k + 1:Nat):Int)].map intB)):=rfl
  rw [← hcf] at hr
  rw [show (192:Int).toNat=192 from rfl] at ho
  generalize dig 192 ([(h:Int),(s:Int),((k + 1:Nat):Int)].map intB)=dg at ho hr
  have hcl:(coefs h s (k + 1)).map eN=(coefs h s k).map eN ++ [eN (cf h s (k + 1))]:=by rw [coefs,List.map_append]; rfl
  have hln:=coefs_len h s k
  generalize cf h s (k + 1)=c at *
  have hv:=hs.tail.gv
  rcases hv.shape with rfl|⟨b0,n0,c0,rfl⟩
  all_goals
   (refine goX2 (nn g1 hc) (ho) (hr) ?_; (repeat' (with_reducible apply Br.mk<;>intro _)))
   refine appV_GV2 hv (viewC_list (es:=[eN c]) rfl) rfl rfl rfl (by rw [List.length_map,hln,hm]; show (_ + 1) * 8≤_; omega) fun x' G2 hg hto=>?_
   obtain ⟨b9,c9,cs9,hxe,_,_⟩:=hg.inv (by simp)
   generalize (List.map eN (coefs h s k) ++ [eN c]).length=n9 at hxe
   subst hxe
   have hs2:=(hs.swap.grow hto (es':=(coefs h s (k + 1)).map eN) (by rw [hcl]; exact hg)).swap
   have hc2:=hs2.get
   refine goS trivial ?_
   (refine goX hc2 ?_; (repeat' (with_reducible apply Br.mk<;>intro _)))
   refine ⟨_,_,?_,stle,k + 1,_,_,by omega,rfl,Sep.set hs2,rfl⟩
   omega
 obtain rfl:need=k + 1:=by omega
 (refine goX g1 ?_; (repeat' (with_reducible apply Br.mk<;>intro _)))
 exact Fin.eq rfl ⟨rfl,_,⟨b,x,rfl,rfl⟩,hs⟩
theorem Backward_ok (b0 n0 c0:Nat) (R:List As) (G:Gh) (hs:Sep R G) (σ:List Hp):CallT Tryz.prog f_zz6 ([.gs b0 0 n0 c0].map .d) σ G fun r σ' G'=>σ'=σ∧∃ b,r=.d (.clo f_zz3 [.gp b 0])∧Sep (CellA b [.gs b0 0 n0 c0]::R) G':=by
 refine callT_of_W fol zz6_cp ?_
 refine goS trivial ?_
 refine goR trivial ?_
 refine wNew_mk fun b hb=>?_
 refine goS trivial ?_
 refine goR trivial ?_
 exact Fin.eq rfl ⟨rfl,b,rfl,Sep.new hb hs⟩
theorem backward1_ok (l:List Nat) (hl:l.length≤100000) (hn:l ≠ []) (b lo:Nat) (x:D) (J:Nat→Gh→Prop) (Stop:Gh→Prop) (hJ:∀ k G,J k G→G.c b=some [x]∧GV 1 G x (l.map eN))
 (hstep:∀ i (h:i < l.length) G σ,J (i + 1) G→CallY Tryz.prog lo [eN i,eN l[i]] σ G fun r σ' G'=>σ'=σ∧((r=.d (.bool true)∧J i G')∨(r=.d (.bool false)∧Stop G')))
 (σ:List Hp) (G:Gh) (h0:J l.length G):CallT Tryz.prog f_zz3 ([.yld lo,.gp b 0].map .d) σ G fun _ σ' G'=>σ'=σ∧(J 0 G'∨Stop G'):=by
 refine callT_of_W fol zz3_cp ?_
 obtain ⟨hb,hv⟩:=hJ _ _ h0
 obtain ⟨b0,c0,cs,rfl,hb0,hr⟩:=hv.inv (by simpa using hn)
 rw [List.length_map] at hr hb hJ hv
 refine goS trivial ?_
 (refine goX hb ?_; (repeat' (with_reducible apply Br.mk<;>intro _)))
 refine W.loop (fun m st=>∃ k G,k≤l.length∧m=k∧J k G∧st=(E [(0,.d (.yld lo)),(1,.d (.gp b 0)),(3,.d (eI ((k:Int) - 1)))],HB [],σ,G))
  ⟨_,_,stle,l.length,G,Nat.le_refl _,rfl,h0,rfl⟩ ?_
 clear hb hv h0 G hr hb0 cs
 rintro m st ⟨k,G,hk,rfl,hj,rfl⟩
 obtain ⟨hb,hv⟩:=hJ _ _ hj
 refine goR trivial ?_
 refine wG_dec (fun h1=>?_) (fun h1=>?_)
 · obtain ⟨i,rfl⟩:∃ i,m=i + 1:=⟨m - 1,by omega⟩
   have hi:i < l.length:=by omega
   have e1:(((i + 1:Nat):Int) - 1)=(i:Int):=by omega
   rw [e1]
   obtain ⟨b1,c1,cs,he,hb1,hr⟩:=hv.inv (by simpa using hn)
   rw [List.length_map] at he hr
   cases he
   have hget:vCells false 1 (some cs) (i * 1)=some (.d (eN l[i])):=by
    have:=hr.fld (i:=i) (j:=0) (by simpa using hi) (by omega)
    rw [Nat.add_zero] at this
    rw [this,List.getElem_map]; rfl
   (repeat (first|(with_reducible first|refine W.seq ?_|refine W.block ?_|refine W.scope ?_)|((with_reducible first|refine W.reg ?_|refine W.skip ?_|refine W.exit ?_|refine W.ret ?_|refine W.ifc ?_); simp -dsimp (disch:=first|omega|(simp only [go_sem]; omega)) only [go_sem,seval,Nat.reduceEqDiff,Nat.reduceLeDiff,hb,hb1,hget,Int.toNat_natCast])))
   apply wC_y (hstep i hi G _ hj)
   focus (simp -dsimp (disch:=first|omega|(simp only [go_sem]; omega)) only [go_sem,seval,Nat.reduceEqDiff,Nat.reduceLeDiff]<;>fail)
   focus (simp -dsimp (disch:=first|omega|(simp only [go_sem]; omega)) only [go_sem,seval,Nat.reduceEqDiff,Nat.reduceLeDiff]<;>rfl)
   rintro r G' (⟨rfl,hj'⟩|⟨rfl,hst⟩)
   · refine goS trivial ?_
     refine goR trivial ?_
     refine ⟨_,_,?_,stle,i,G',by omega,rfl,hj',rfl⟩
     omega
   · refine goS trivial ?_
     refine goR trivial ?_
     exact Fin.eq rfl ⟨rfl,.inr hst⟩
 · obtain rfl:m=0:=by omega
   refine goR trivial ?_
   exact Fin.eq rfl ⟨rfl,.inl hj⟩
theorem coefs_get (h s:Nat):∀ n k,k≤n→(coefs h s n)[k]?=some (cf h s k)
 | 0,k,hk=>by
   obtain rfl:k=0:=by omega
   rfl
 | n + 1,k,hk=>by
   rw [coefs]
   by_cases e:k=n + 1
   · subst e
     rw [List.getElem?_append_right (by rw [coefs_len]; omega),coefs_len,Nat.sub_self]; rfl
   · rw [List.getElem?_append_left (by rw [coefs_len]; omega)]
     exact coefs_get h s n k (by omega)
theorem sep_dropM {r:Nat} {o:MO} {R:List As} {G:Gh} (h:Sep (ObjA r o::R) G):Sep R (G.setM r none):=by
 obtain ⟨G1,G2,h1,h2,h3,h4,h5⟩:=h
 have hn:G2.m r=none:=(h3.m r).resolve_left (by rw [h4]; simp)
 refine h5.mono ⟨h2.c,fun i v e=>?_⟩
 rw [Gh.setM_m]
 unfold upd
 split
 · rename_i hi; subst hi; rw [hn] at e; cases e
 · exact h2.m _ _ e
theorem sep_ne {a b:Nat} {x y:List D} {R:List As} {G:Gh} (h:Sep (CellA a x::CellA b y::R) G):a ≠ b:=by
 obtain ⟨G1,G2,_,_,h3,h4,h5⟩:=h
 have hb:=h5.get
 rintro rfl
 rcases h3.c a with e|e
 · rw [show G1.c a=some x from h4] at e; cases e
 · rw [hb] at e; cases e
theorem argEnv2_le (l:List (Nat × AV)) (l':List (Nat × D)) (p q:Nat) (x y:D) (h:∀ p ∈ l',E l p.1=.d p.2):∀ i,VLe (argEnv (dataEnv (E l)) [p,q] [x,y] i) (E ((q,.d y)::(p,.d x)::l'.map fun p=>(p.1,.d p.2)) i):=by
 intro i
 have:=dataEnv_le l l' h i
 simp only [argEnv,upd,E]
 split
 · exact .refl _
 · split
   · exact .refl _
   · exact this
abbrev lpSh (v:D) (b2 b4:Nat):List (Nat × AV):=[(8,.d v),(2,.d (.gp b2 0)),(4,.d (.gp b4 0))]
theorem sharer1_ok (R:List As) (b:Nat) (x:D) (h s n:Nat) (h2:s < P) (hn12:n≤11) (i:Nat) (hi:i≤12) (σ:List Hp) (G:Gh) (hs:Sep (CellA b [x]::SlA 1 x ((coefs h s n).map eN)::R) G) :
 CallT Tryz.prog f_zz33 ([eN i,.gp b 0].map .d) σ G fun r σ' G'=>σ'=σ∧r=.d (eN (shr h s i (n + 1)))∧Sep (CellA b [x]::SlA 1 x ((coefs h s n).map eN)::R) G':=by
 refine callT_of_W fol zz33_cp ?_
 have hP:P=2147483647:=rfl
 have hv:=hs.tail.gv
 have hne:coefs h s n ≠ []:=fun e=>by have:=coefs_len h s n; rw [e] at this; simp at this
 have hln:=coefs_len h s n
 have hcg:=coefs_get h s n
 rw [← hor_shr]
 obtain ⟨b0,c0,cs,rfl,hb0,hr⟩:=hv.inv (by simpa using hne)
 rw [List.length_map,hln] at hs hv
 rw [List.length_map,hln]
 clear hb0 hr cs
 generalize coefs h s n=l at *
 refine goS trivial ?_
 refine goR trivial ?_
 refine wNew_mk fun b2 hb2=>?_
 have q2:=Sep.new (cs:=[eN i]) hb2 hs
 revert q2
 refine goS trivial ?_
 generalize G.set b2 _=G0
 intro q2
 refine goR trivial ?_
 refine wNew_mk fun b4 hb4=>?_
 have q4:=Sep.new (cs:=[eI 0]) hb4 q2
 revert q4
 refine goS trivial ?_
 generalize G0.set b4 _=G1
 intro q4
 have c4:=q4.get
 have h4b:=sep_ne (q4.swap.tail)
 have c1:=q4.tail.tail.get
 (repeat' (first|(with_reducible first|refine W.seq ?_|refine W.block ?_|refine W.scope ?_)|((first|(with_reducible first|refine W.reg ?_|refine W.skip ?_|refine W.exit ?_|refine W.ret ?_|refine W.ifc ?_)|((with_reducible first|refine wG_decE (fun _ hG=>?_) (fun _ hG=>?_)|refine wG_decFE (fun _ hG=>?_) (fun _ hG=>?_))<;>(try simp -dsimp only [hG,decide_true,decide_false,not_true_eq_false,not_false_eq_true])<;>clear hG))<;>(try simp -dsimp (disch:=first|omega|(simp only [go_sem]; omega)) only [go_sem,seval,Nat.reduceEqDiff,Nat.reduceLeDiff,c4,c1,upd_off h4b.symm]))|simp -dsimp (disch:=first|omega|(simp only [go_sem]; omega)) only [go_sem,seval,Nat.reduceEqDiff,Nat.reduceLeDiff,c4,c1,upd_off h4b.symm]))
 have q5:Sep (CellA b4 [eN 0]::_) G1:=q4
 apply wC_g (Backward_ok b0 (n + 1) c0 _ _ q5 _)
 focus (simp -dsimp (disch:=first|omega|(simp only [go_sem]; omega)) only [go_sem,seval,Nat.reduceEqDiff,Nat.reduceLeDiff]<;>fail)
 focus (simp -dsimp (disch:=first|omega|(simp only [go_sem]; omega)) only [go_sem,seval,Nat.reduceEqDiff,Nat.reduceLeDiff]<;>rfl)
 rintro _ G2 ⟨b5,rfl,q⟩
 clear hb2 hb4 q2 q4 q5 c4 c1
 refine goS trivial ?_
 refine goR trivial ?_
 refine W.weaken (st_le (l':=lpSh (.clo f_zz3 [.gp b5 0]) b2 b4) (by (simp -dsimp (disch:=first|omega|(simp only [go_sem]; omega)) only [go_sem,seval,Nat.reduceEqDiff,Nat.reduceLeDiff]<;>((repeat' apply And.intro)<;>first|exact VLe.refl _|(apply vle_int; omega)|(apply vle_int; simp; done)|exact VLe.own _ _|exact VLe.nilown _|exact VLe.norm _)))) ?_
 refine W.rangeF (caps:=[.gp b5 0]) (called_of_compile zz3_cp) (by simp -dsimp (disch:=first|omega|(simp only [go_sem]; omega)) only [go_sem,seval,Nat.reduceEqDiff,Nat.reduceLeDiff]) fun lo hlo=>?_
 have q0:=Sep.newM (o:=.loop Tryz.prog (E (lpSh (.clo f_zz3 [.gp b5 0]) b2 b4)) [9,10] draw_sharer_1_y0a draw_sharer_1_y0b) hlo q
 refine (backward1_ok l (by omega) hne b5 lo (.gs b0 0 (n + 1) c0) (fun k G=>∃ v,v < P∧hor (cf h s) i k v=hor (cf h s) i (n + 1) 0 ∧
  Sep (ObjA lo (.loop Tryz.prog (E (lpSh (.clo f_zz3 [.gp b5 0]) b2 b4)) [9,10] draw_sharer_1_y0a draw_sharer_1_y0b)::CellA b5 [.gs b0 0 (n + 1) c0]::CellA b4 [eN v]::CellA b2 [eN i]::CellA b [.gs b0 0 (n + 1) c0]::SlA 1 (.gs b0 0 (n + 1) c0) (l.map eN)::R) G)
  (fun G=>False) (fun k G ⟨v,_,_,h⟩=>⟨h.tail.get,h.tail.tail.tail.tail.tail.gv⟩) ?_ _ _ ⟨0,by decide,by rw [hln],q0⟩).mono ?_
 · rintro k hk G σ ⟨v,hv1,hv2,hq⟩
   have hlk:l[k]=cf h s k:=by
    have:=hcg k (by omega)
    rw [List.getElem?_eq_getElem hk] at this
    exact Option.some.inj this
   have hlt:=cf_lt (h:=h) h2 k
   have hm:=hq.getM
   refine callY_of_W fol hm rfl (argEnv2_le _ [(2,.gp b2 0),(4,.gp b4 0)] 9 10 (eN k) (eN l[k]) (by simp [E])) ?_
   rw [hlk]
   rw [hor] at hv2
   generalize cf h s k=ck at hlt hv2
   have hd:=sep_dropM hq
   revert hd
   have hml:(G.setM lo none).m lo=none:=by simp
   revert hml
   generalize G.setM lo none=G3
   intro hml hd
   have c4:=hd.tail.get
   have c2:=hd.tail.tail.get
   have b1:v * i≤2147483647 * 12:=Nat.mul_le_mul (by omega) hi
   have e1:(v:Int) * (i:Int)=((v * i:Nat):Int):=by rw [Int.natCast_mul]
   have q1:((v * i:Nat):Int) + (ck:Int)=((v * i + ck:Nat):Int):=rfl
   have q2:((v * i + ck:Nat):Int).tmod 2147483647=(((v * i + ck) % P:Nat):Int):=by
    rw [Int.tmod_eq_emod_of_nonneg (Int.natCast_nonneg _)]; rfl
   have hlt2:(v * i + ck) % P < P:=Nat.mod_lt _ (by decide)
   generalize (v * i + ck) % P=v2 at q2 hv2 hlt2
   generalize v * i=vi at b1 e1 q1 q2
   refine goS trivial ?_
   (refine goX (nn c4 (nn c2 (nn e1 (nn q1 q2)))) ?_; (repeat' (with_reducible apply Br.mk<;>intro _)))
   refine ⟨rfl,.inl ⟨rfl,v2,hlt2,hv2,Sep.newM hml (Sep.swap (Sep.set hd.swap))⟩⟩
 · rintro r lv G' ⟨rfl,⟨v,hv1,hv2,hq⟩|hf⟩
   · refine ⟨rfl,.inl ⟨hq.getM,?_⟩⟩
     have hd:=sep_dropM hq
     revert hd
     generalize G'.setM lo none=G3
     intro hd
     have c4:=hd.tail.get
     refine goS trivial ?_
     refine goR c4 ?_
     rw [hor] at hv2
     exact Fin.eq (r:=.d (eN v)) (by simp -dsimp (disch:=first|omega|(simp only [go_sem]; omega)) only [go_sem,seval,Nat.reduceEqDiff,Nat.reduceLeDiff]) ⟨rfl,by rw [hv2],hd.tail.tail.tail⟩
   · cases hf
end Go.Proofs.YtclmdhceceacoaaGreatDoor
