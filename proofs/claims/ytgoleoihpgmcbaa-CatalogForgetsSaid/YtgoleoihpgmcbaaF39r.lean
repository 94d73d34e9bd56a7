/-
 Layer 39 (catalog),continued: Find of the program.
 Conditions: of each contract as it says.
-/
import Derived.Test.YtgoleoihpgmcbaaF39q
namespace Go.Proofs.Ytgoleoihpgmcbaa
open Go Go.E2 C39
set_option linter.unusedSimpArgs false
set_option maxHeartbeats 1000000
theorem sep_dropM {r:Nat} {o:MO} {R:List As} {G:Gh} (h:Sep (ObjA r o::R) G):Sep R (G.setM r none):=by
 obtain ⟨G1,G2,h1,h2,h3,h4,h5⟩:=h
 have hn:G2.m r=none:=(h3.m r).resolve_left (by rw [h4]; simp)
 refine h5.mono ⟨h2.c,fun i v e=>?_⟩
 rw [Gh.setM_m]
 unfold upd
 split
 · rename_i hi; subst hi; rw [hn] at e; cases e
 · exact h2.m _ _ e
theorem sep_ne {a b:Nat} {x y:List D} {R:List As} {G:Gh} (h:Sep (CellA a x::CellA b y::R) G):a ≠ b:=by
 obtain ⟨G1,G2,_,_,h3,h4,h5⟩:=h
 have hb:=h5.get
 rintro rfl
 rcases h3.c a with e|e
 · rw [show G1.c a=some x from h4] at e; cases e
 · rw [hb] at e; cases e
theorem argEnv2_le (l:List (Nat × AV)) (l':List (Nat × D)) (p q:Nat) (x y:D) (h:∀ p ∈ l',E l p.1=.d p.2):∀ i,VLe (argEnv (dataEnv (E l)) [p,q] [x,y] i) (E ((q,.d y)::(p,.d x)::l'.map fun p=>(p.1,.d p.2)) i):=by
 intro i
 have:=dataEnv_le l l' h i
 simp only [argEnv,upd,E]
 split
 · exact .refl _
 · split
   · exact .refl _
   · exact this
theorem Backward_ok (l:List En) (R:List As) (G:Gh) (hs:Sep R G) (σ:List Hp):CallT Try.prog f_zz3 ([.list (l.map eE)].map .d) σ G fun r σ' G'=>σ'=σ∧∃ b,r=.d (.clo f_zz2 [.gp b 0])∧Sep (CellA b [.list (l.map eE)]::R) G':=by
 refine callT_of_W fol zz3_cp ?_
 refine goS trivial ?_
 refine goR trivial ?_
 refine wNew_mk fun b hb=>?_
 refine goS trivial ?_
 refine goR trivial ?_
 exact Fin.eq rfl ⟨rfl,b,rfl,Sep.new hb hs⟩
abbrev cE (x:En):List D:=[.str x.name,eI x.ver,eI x.obj,eI x.last]
abbrev lpFind (v:D) (b4 b5 b6 b7:Nat):List (Nat × AV):=[(19,.d v),(4,.d (.gp b4 0)),(5,.d (.gp b5 0)),(6,.d (.gp b6 0)),(7,.d (.gp b7 0))]
theorem Find_ok (c:Ct) (name:Str) (ver:Int) (hs:smallC c):CallP Try.prog f_zz57 [eC c,.str name,eI ver] (·=.tup [eE (findC c name ver).1,eI (findC c name ver).2]):=by
 refine CallP.of_deep (callT_of_W fol zz57_cp ?_)
 have s1:=hs.1
 refine goS trivial ?_
 refine goR trivial ?_
 refine wNew_mk fun b4 hb4=>?_
 have q4:=Sep.new (cs:=[.str name]) hb4 Sep.nil
 refine goS trivial ?_
 refine wNew_mk fun b5 hb5=>?_
 have q5:=Sep.new (cs:=[eI ver]) hb5 q4
 refine goS trivial ?_
 refine wNew_mk fun b6 hb6=>?_
 have q6:=Sep.new (cs:=[.str [],eI 0,eI 0,eI 0]) hb6 q5
 refine goS trivial ?_
 refine wNew_mk fun b7 hb7=>?_
 have q7:=Sep.new (cs:=[eI 0]) hb7 q6
 refine goS trivial ?_
 revert q7
 generalize (((noGh.set b4 _).set b5 _).set b6 _).set b7 _=G1
 intro q7
 have c7:=q7.get
 have c6:=q7.tail.get
 have h76:=sep_ne q7
 by_cases h0:chk c=0
 case neg =>
  (repeat' (first|(with_reducible first|refine W.seq ?_|refine W.block ?_)|((first|(with_reducible first|refine W.reg ?_|refine W.skip ?_|refine W.exit ?_|refine W.ret ?_|refine W.ifc ?_)|(apply wC_P (Check_ok c hs); (focus (simp -dsimp (disch:=first|omega|(simp only [go_sem]; omega)) only [go_sem,seval,Nat.reduceEqDiff,Nat.reduceLeDiff]<;>rfl)); rintro _ rfl)|((with_reducible first|refine wG_decE (fun _ hG=>?_) (fun _ hG=>?_)|refine wG_decFE (fun _ hG=>?_) (fun _ hG=>?_))<;>(try simp -dsimp only [hG,decide_true,decide_false,not_true_eq_false,not_false_eq_true])<;>clear hG))<;>(try simp -dsimp (disch:=first|omega|(simp only [go_sem]; omega)) only [go_sem,seval,Nat.reduceEqDiff,Nat.reduceLeDiff,h0,c6,c7,upd_off h76,upd_off h76.symm]))|simp -dsimp (disch:=first|omega|(simp only [go_sem]; omega)) only [go_sem,seval,Nat.reduceEqDiff,Nat.reduceLeDiff,h0,c6,c7,upd_off h76,upd_off h76.symm]))
  (apply Fin.eq; (focus (simp -dsimp (disch:=first|omega|(simp only [go_sem]; omega)) only [go_sem,seval,Nat.reduceEqDiff,Nat.reduceLeDiff,c6,c7,upd_off h76,upd_off h76.symm]<;>rfl)))
  exact ⟨rfl,_,.refl _,by rw [findC,if_pos h0]; rfl⟩
 (refine goX1 h0 (Check_ok c hs) ?_; (repeat' (with_reducible apply Br.mk<;>intro _)))
 rw [findC_eq h0]
 apply wC_g (Backward_ok c.ents _ G1 q7 _)
 focus (simp -dsimp (disch:=first|omega|(simp only [go_sem]; omega)) only [go_sem,seval,Nat.reduceEqDiff,Nat.reduceLeDiff]<;>fail)
 focus (simp -dsimp (disch:=first|omega|(simp only [go_sem]; omega)) only [go_sem,seval,Nat.reduceEqDiff,Nat.reduceLeDiff]<;>rfl)
 rintro _ G2 ⟨b,rfl,q⟩
 clear hb4 hb5 hb6 hb7 q4 q5 q6 q7 c6 c7
 refine goS trivial ?_
 refine goR trivial ?_
 refine W.weaken (st_le (l':=lpFind (.clo f_zz2 [.gp b 0]) b4 b5 b6 b7) (by (simp -dsimp (disch:=first|omega|(simp only [go_sem]; omega)) only [go_sem,seval,Nat.reduceEqDiff,Nat.reduceLeDiff]<;>((repeat' apply And.intro)<;>first|exact VLe.refl _|(apply vle_int; omega)|(apply vle_int; simp; done)|exact VLe.own _ _|exact VLe.nilown _|exact VLe.norm _)))) ?_
 refine W.rangeF (caps:=[.gp b 0]) (called_of_compile zz2_cp) (by simp -dsimp (disch:=first|omega|(simp only [go_sem]; omega)) only [go_sem,seval,Nat.reduceEqDiff,Nat.reduceLeDiff]) fun lo hlo=>?_
 have q0:=Sep.newM (o:=.loop Try.prog (E (lpFind (.clo f_zz2 [.gp b 0]) b4 b5 b6 b7)) [20,21] catalog_Find_y0a catalog_Find_y0b) hlo q
 refine (backward1_ok c.ents (by omega) b lo (fun k G=>Sep [ObjA lo (.loop Try.prog (E (lpFind (.clo f_zz2 [.gp b 0]) b4 b5 b6 b7)) [20,21] catalog_Find_y0a catalog_Find_y0b),CellA b [.list (c.ents.map eE)],CellA b7 [eI 0],CellA b6 [.str [],eI 0,eI 0,eI 0],CellA b5 [eI ver],CellA b4 [.str name]] G∧∀ j (h:j < c.ents.length),k≤j→¬ pFind name ver c.ents[j]=true)
  (fun G=>∃ i,∃ h:i < c.ents.length,pFind name ver c.ents[i]=true∧(∀ j (h:j < c.ents.length),i < j→¬ pFind name ver c.ents[j]=true)∧Sep [ObjA lo (.done .ret),CellA b7 [eI 0],CellA b6 (cE c.ents[i]),CellA b5 [eI ver],CellA b4 [.str name]] G)
  (fun k G h=>h.1.tail.get) ?_ _ _ ⟨q0,fun j h h'=>by omega⟩).mono ?_
 · rintro i hi G σ ⟨hq,hn⟩
   have hm:=hq.getM
   refine callY_of_W fol hm rfl (argEnv2_le _ [(4,.gp b4 0),(5,.gp b5 0),(6,.gp b6 0),(7,.gp b7 0)] 20 21 (eI i) (eE c.ents[i]) (by simp [E])) ?_
   have hd:=sep_dropM hq
   revert hd
   have hml:(G.setM lo none).m lo=none:=by simp
   revert hml
   generalize G.setM lo none=G3
   intro hml hd
   refine goS trivial ?_
   refine goR trivial ?_
   refine wNew_mk fun b10 hb10=>?_
   have hd:=Sep.new (cs:=cE c.ents[i]) hb10 hd
   have hml:(G3.set b10 (some (cE c.ents[i]))).m lo=none:=hml
   refine goS trivial ?_
   revert hd hml
   generalize G3.set b10 _=G4
   intro hd hml
   have c10:=hd.get
   have c7:=hd.tail.tail.get
   have c6:=hd.tail.tail.tail.get
   have c5:=hd.tail.tail.tail.tail.get
   have c4:=hd.tail.tail.tail.tail.tail.get
   (repeat' (first|(with_reducible first|refine W.seq ?_|refine W.block ?_)|((first|(with_reducible first|refine W.reg ?_|refine W.skip ?_|refine W.exit ?_|refine W.ret ?_|refine W.ifc ?_)|((with_reducible first|refine wG_decE (fun _ hG=>?_) (fun _ hG=>?_)|refine wG_decFE (fun _ hG=>?_) (fun _ hG=>?_))<;>(try simp -dsimp only [hG,decide_true,decide_false,not_true_eq_false,not_false_eq_true])<;>clear hG))<;>(try simp -dsimp (disch:=first|omega|(simp only [go_sem]; omega)) only [go_sem,seval,Nat.reduceEqDiff,Nat.reduceLeDiff,c10,c4,c5,c6,c7,upd_off h76,upd_off h76.symm]))|simp -dsimp (disch:=first|omega|(simp only [go_sem]; omega)) only [go_sem,seval,Nat.reduceEqDiff,Nat.reduceLeDiff,c10,c4,c5,c6,c7,upd_off h76,upd_off h76.symm]))
   all_goals
    have hnn:∀ j (h:j < c.ents.length),i < j→¬ pFind name ver c.ents[j]=true:=fun j h hlt=>hn j h hlt
    first
     | (have hp:pFind name ver c.ents[i]=true:=decide_eq_true (by simp_all)
        refine ⟨rfl,.inr ⟨rfl,i,hi,hp,hnn,?_⟩⟩
        exact Sep.newM hml (Sep.set (Sep.swap (Sep.set (Sep.swap hd.tail.tail)))))
     | (have hp:¬ pFind name ver c.ents[i]=true:=fun h=>by have:=of_decide_eq_true h; simp_all
        refine ⟨rfl,.inl ⟨rfl,Sep.newM hml hd.tail,fun j h hij=>?_⟩⟩
        by_cases e:j=i
        · subst e; exact hp
        · exact hnn j h (by omega))
 · rintro r lv G' ⟨rfl,⟨hq,hn⟩|⟨i,hi,hp,hn,hq⟩⟩
   · refine ⟨rfl,.inl ⟨hq.getM,?_⟩⟩
     have hd:=sep_dropM hq
     revert hd
     generalize G'.setM lo none=G3
     intro hd
     have c7:=hd.tail.get
     have c6:=hd.tail.tail.get
     refine goS trivial ?_
     (repeat (first|(with_reducible first|refine W.seq ?_|refine W.block ?_)|((with_reducible first|refine W.reg ?_|refine W.skip ?_|refine W.exit ?_|refine W.ret ?_|refine W.ifc ?_); simp -dsimp (disch:=first|omega|(simp only [go_sem]; omega)) only [go_sem,seval,Nat.reduceEqDiff,Nat.reduceLeDiff,c6,c7,upd_off h76,upd_off h76.symm])))
     (apply Fin.eq; (focus (simp -dsimp (disch:=first|omega|(simp only [go_sem]; omega)) only [go_sem,seval,Nat.reduceEqDiff,Nat.reduceLeDiff,c6,c7,upd_off h76,upd_off h76.symm]<;>rfl)))
     refine ⟨rfl,_,.refl _,?_⟩
     have:c.ents.reverse.find? (pFind name ver)=none:=by
      rw [List.find?_eq_none]
      intro x hx
      obtain ⟨j,hj,rfl⟩:=List.getElem_of_mem (List.mem_reverse.1 hx)
      exact hn j hj (Nat.zero_le _)
     rw [this]; rfl
   · refine ⟨rfl,.inr ⟨.ret,hq.getM,by simp,?_⟩⟩
     have hd:=sep_dropM hq
     revert hd
     generalize G'.setM lo none=G3
     intro hd
     have c7:=hd.get
     have c6:=hd.tail.get
     refine goS trivial ?_
     (apply Fin.eq; (focus (simp -dsimp (disch:=first|omega|(simp only [go_sem]; omega)) only [go_sem,seval,Nat.reduceEqDiff,Nat.reduceLeDiff,c6,c7]<;>rfl)))
     refine ⟨rfl,_,.refl _,?_⟩
     have:c.ents.reverse.find? (pFind name ver)=some c.ents[i]:=by
      have e:c.ents=c.ents.take i ++ c.ents[i]::c.ents.drop (i + 1):=by rw [← List.drop_eq_getElem_cons hi,List.take_append_drop]
      have h2:(c.ents.drop (i + 1)).reverse.find? (pFind name ver)=none:=by
       rw [List.find?_eq_none]
       intro x hx
       obtain ⟨j,hj,rfl⟩:=List.getElem_of_mem (List.mem_reverse.1 hx)
       rw [List.length_drop] at hj
       rw [List.getElem_drop]
       exact hn _ (by omega) (by omega)
      have h3:c.ents.reverse=(c.ents.drop (i + 1)).reverse ++ c.ents[i]::(c.ents.take i).reverse:=by
       conv=>lhs; rw [e]
       rw [List.reverse_append,List.reverse_cons,List.append_assoc]; rfl
      rw [h3,List.find?_append,h2,List.find?_cons,hp]; rfl
     rw [this]; rfl
end Go.Proofs.Ytgoleoihpgmcbaa
