/-
 Layer 22 (slots): the slots of the specification: heal,place,Format.
 Conditions: of each contract as it says.
-/
import Derived.Test.YtioojmlhmhgeeaaF22rf
namespace Go.Proofs.Ytioojmlhmhgeeaa
open Go Go.E2 C22
set_option linter.unusedSimpArgs false
set_option maxHeartbeats 1000000
theorem slC_len (a b:Fnd×Int) (bt e:Int):(slC a b bt e).length=134:=by unfold slC;rw [List.length_append,List.length_append,fdC_len,fdC_len];rfl
theorem slC_132 (a b:Fnd×Int) (bt e:Int):(List.drop 132 (slC a b bt e)).head?=some (.int .i64 bt):=by
 unfold slC;rw [List.drop_left' (by rw [List.length_append,fdC_len,fdC_len])];rfl
theorem slC_133 (a b:Fnd×Int) (bt e:Int):(List.drop 133 (slC a b bt e)).head?=some (.int .i64 e):=by
 have:slC a b bt e=(fdC a ++ fdC b ++ [.int .i64 bt]) ++ [.int .i64 e]:=by unfold slC;simp
 rw [this,List.drop_left' (by rw [List.length_append,List.length_append,fdC_len,fdC_len];rfl)];rfl
theorem slC_a (a b:Fnd×Int) (bt e:Int):List.take 66 (slC a b bt e)=fdC a:=by unfold slC;rw [List.append_assoc,List.take_left' (fdC_len a)]
theorem slC_b (a b:Fnd×Int) (bt e:Int):List.take 66 (List.drop 66 (slC a b bt e))=fdC b:=by unfold slC;rw [List.append_assoc,List.drop_left' (fdC_len a),List.take_left' (fdC_len b)]
theorem slC_one (a b:Fnd×Int) (bt e:Int):(slC a b bt e).all D.one=true:=by unfold slC;rw [List.all_append,List.all_append,fdC_one,fdC_one];rfl
theorem Okd_of_ref {p:Nat} {d:Dk} {R:List As} {G:Gh} (h:Sep (RefA p d::R) G):Okd d:=by obtain⟨_,_,h⟩:=RefP.open h;exact h.ok
theorem rheal_ok (p:Nat) (d:Dk) (first n i:Int) (a b:Fnd×Int) (h0:0≤first) (h1:0≤i) (h2:first+2*i+1≤1000000) (hn:d.steps≤900000000)
 (ha:a.1.at'=first+2*i) (hb:b.1.at'=first+2*i+1) :
 CallS Try.prog f_zz8 [eSt p first n,.int .i64 i,eSl (a,b,btR a.1 b.1,0)] [RefA p d] (fun r post =>
  ∃ x,x=(if b.1.good=true∧(a.1.good=false∨numAt a.1.s 0 < numAt b.1.s 0) then healR d b.1 a.1 else healR d a.1 b.1)∧r=.d (.int .i64 x.2)∧post=[RefA p x.1]):=by
 refine callS_of_W fol zz8_cp fun R G σ hs=>?_
 have hok:Okd d:=Okd_of_ref hs
 have hsl:=slC_len a b
 have s132:=slC_132 a b
 have sa:=slC_a a b
 have sb:=slC_b a b
 have la:=fdC_len a
 have lb:=fdC_len b
 have oa:=fdC_one a
 have ob:=fdC_one b
 have a64:=fdC_64 a
 have b64:=fdC_64 b
 have a0:=fdC_0 a
 have b0:=fdC_0 b
 have zz:zr 64 (D.int .u8 0) ++ [.bool false,.int .i64 0]=fdC zFd:=rfl
 obtain⟨bt,hbt⟩:∃ bt,bt=btR a.1 b.1:=⟨_,rfl⟩
 have hcs:(bt=-1∧a.1.good=false∧¬ (b.1.good=true∧(a.1.good=false∨numAt a.1.s 0 < numAt b.1.s 0)))∨(bt=0∧a.1.good=true∧¬ (b.1.good=true∧(a.1.good=false∨numAt a.1.s 0 < numAt b.1.s 0))) ∨
  (bt=1∧b.1.good=true∧(b.1.good=true∧(a.1.good=false∨numAt a.1.s 0 < numAt b.1.s 0))):=by
  rw [hbt]
  unfold btR
  by_cases h:b.1.good=true∧(a.1.good=false∨numAt a.1.s 0 < numAt b.1.s 0)
  · rw [if_pos h];exact .inr (.inr ⟨rfl,h.1,h⟩)
  · rw [if_neg h]
    cases hg:a.1.good with
    | true=>rw [hg] at h;exact .inr (.inl ⟨rfl,rfl,h⟩)
    | false=>rw [hg] at h;exact .inl ⟨rfl,rfl,h⟩
 rw [← hbt,show eSl (a,b,bt,0)=.agg (slC a b bt 0) from rfl]
 have so:=slC_one a b bt 0
 rcases hcs with ⟨rfl,hg,hc⟩|⟨rfl,hg,hc⟩|⟨rfl,hg,hc⟩
 · rw [if_neg hc]
   have:healR d a.1 b.1=(d,0):=by unfold healR;rw [if_pos (.inl hg)]
   rw [this]
   have hsl:=hsl (-1) 0
   have s132:=s132 (-1) 0
   refine goS trivial ?_
   (repeat' (first|(with_reducible first|refine W.seq ?_|refine W.block ?_)|((first|(with_reducible first|refine W.reg ?_|refine W.skip ?_|refine W.exit ?_|refine W.ret ?_|refine W.ifc ?_)|((with_reducible first|refine wG_decE (fun _ hG=>?_) (fun _ hG=>?_)|refine wG_decFE (fun _ hG=>?_) (fun _ hG=>?_))<;>(try simp -dsimp only [hG,decide_true,decide_false,not_true_eq_false,not_false_eq_true])<;>clear hG))<;>(try simp -dsimp (disch:=first|omega|(simp only [go_sem];omega)) only [go_sem,seval,Nat.reduceEqDiff,Nat.reduceLeDiff,hsl,s132,so]))|simp -dsimp (disch:=first|omega|(simp only [go_sem];omega)) only [go_sem,seval,Nat.reduceEqDiff,Nat.reduceLeDiff,hsl,s132,so]))
   exact Fin.eq rfl ⟨rfl,_,⟨_,rfl,rfl,rfl⟩,hs⟩
 · rw [if_neg hc]
   have hsl:=hsl 0 0
   have s132:=s132 0 0
   have sa:=sa 0 0
   have sb:=sb 0 0
   rw [hg] at a64
   refine goS trivial ?_
   have e1:first+2*i+1 - 0=b.1.at':=by rw [hb];omega
   have hh:(b.1.good=false∧True=True∧healR d a.1 b.1=writeR d b.1.at' a.1.s)∨(b.1.good=true∧(b.1.s=a.1.s)=False∧healR d a.1 b.1=writeR d b.1.at' a.1.s)∨(b.1.good=true∧(b.1.s=a.1.s)=True∧healR d a.1 b.1=(d,0)):=by
    unfold healR
    rw [hg]
    cases gb:b.1.good with
    | false=>exact .inl ⟨rfl,rfl,by rw [if_neg (by simp)]⟩
    | true =>
     by_cases e:b.1.s=a.1.s
     · exact .inr (.inr ⟨rfl,eq_true e,by rw [if_pos (.inr ⟨rfl,e⟩)]⟩)
     · exact .inr (.inl ⟨rfl,eq_false e,by rw [if_neg (by simp [e])]⟩)
   have hw2:writeR d b.1.at' a.1.s=if (wr d b.1.at' a.1.s).2≠0 then wr d b.1.at' a.1.s else sy (wr d b.1.at' a.1.s).1:=rfl
   have hup:=(wr_ok hok (by omega) b.1.at' a.1.s).2
   rw [hw2] at hh
   rcases hh with ⟨g,es,hl⟩|⟨g,es,hl⟩|⟨g,es,hl⟩
   all_goals
    rw [hl]
    rw [g] at b64
    (repeat' (first|(with_reducible first|refine W.seq ?_|refine W.block ?_)|((first|(with_reducible first|refine W.reg ?_|refine W.skip ?_|refine W.exit ?_|refine W.ret ?_|refine W.ifc ?_)|((with_reducible first|refine wG_decE (fun _ hG=>?_) (fun _ hG=>?_)|refine wG_decFE (fun _ hG=>?_) (fun _ hG=>?_))<;>(try simp -dsimp only [hG,decide_true,decide_false,not_true_eq_false,not_false_eq_true])<;>clear hG))<;>(try simp -dsimp (disch:=first|omega|(simp only [go_sem];omega)) only [go_sem,seval,Nat.reduceEqDiff,Nat.reduceLeDiff,hsl,s132,so,sa,sb,la,lb,oa,ob,a64,b64,a0,b0,zz,es,e1]))|simp -dsimp (disch:=first|omega|(simp only [go_sem];omega)) only [go_sem,seval,Nat.reduceEqDiff,Nat.reduceLeDiff,hsl,s132,so,sa,sb,la,lb,oa,ob,a64,b64,a0,b0,zz,es,e1]))
   all_goals first
    | exact Fin.eq rfl ⟨rfl,_,⟨_,rfl,rfl,rfl⟩,hs⟩
    | skip
   all_goals
    (refine goM (rWrite_ok p d b.1.at' a.1.s (by omega)) (hs) ?_)
    rintro _ _ G2 ⟨rfl,rfl⟩ hs2'
    have hs2:Sep (RefA p (wr d b.1.at' a.1.s).1::R) G2:=hs2'
    clear hs2' hl hw2
    obtain⟨d1,e,hd1⟩:∃ d1 e,(d1,e)=wr d b.1.at' a.1.s:=⟨_,_,rfl⟩
    rw [← hd1] at hs2 hup ⊢
    simp only at hs2 hup ⊢
    by_cases he:e=0
    · subst he
      rw [if_neg (by simp)]
      refine goS trivial ?_
      (repeat' (first|(with_reducible first|refine W.seq ?_|refine W.block ?_)|((first|(with_reducible first|refine W.reg ?_|refine W.skip ?_|refine W.exit ?_|refine W.ret ?_|refine W.ifc ?_)|((with_reducible first|refine wG_decE (fun _ hG=>?_) (fun _ hG=>?_)|refine wG_decFE (fun _ hG=>?_) (fun _ hG=>?_))<;>(try simp -dsimp only [hG,decide_true,decide_false,not_true_eq_false,not_false_eq_true])<;>clear hG))<;>(try simp -dsimp (disch:=first|omega|(simp only [go_sem];omega)) only [go_sem,seval,Nat.reduceEqDiff,Nat.reduceLeDiff]))|simp -dsimp (disch:=first|omega|(simp only [go_sem];omega)) only [go_sem,seval,Nat.reduceEqDiff,Nat.reduceLeDiff]))
      (refine goM (rSync_ok p d1 (by omega)) (hs2) ?_)
      rintro _ _ G3 ⟨rfl,rfl⟩ hs3
      refine goS trivial ?_
      refine goR trivial ?_
      exact Fin.eq rfl ⟨rfl,_,⟨_,rfl,rfl,rfl⟩,hs3⟩
    · rw [if_pos he]
      have he':(e=0)=False:=eq_false he
      refine goS trivial ?_
      (repeat' (first|(with_reducible first|refine W.seq ?_|refine W.block ?_)|((first|(with_reducible first|refine W.reg ?_|refine W.skip ?_|refine W.exit ?_|refine W.ret ?_|refine W.ifc ?_)|((with_reducible first|refine wG_decE (fun _ hG=>?_) (fun _ hG=>?_)|refine wG_decFE (fun _ hG=>?_) (fun _ hG=>?_))<;>(try simp -dsimp only [hG,decide_true,decide_false,not_true_eq_false,not_false_eq_true])<;>clear hG))<;>(try simp -dsimp (disch:=first|omega|(simp only [go_sem];omega)) only [go_sem,seval,Nat.reduceEqDiff,Nat.reduceLeDiff,he']))|simp -dsimp (disch:=first|omega|(simp only [go_sem];omega)) only [go_sem,seval,Nat.reduceEqDiff,Nat.reduceLeDiff,he']))
      exact Fin.eq rfl ⟨rfl,_,⟨_,rfl,rfl,rfl⟩,hs2⟩
 · rw [if_pos hc]
   have hsl:=hsl 1 0
   have s132:=s132 1 0
   have sa:=sa 1 0
   have sb:=sb 1 0
   rw [hg] at b64
   refine goS trivial ?_
   have e1:first+2*i+1 - 1=a.1.at':=by rw [ha];omega
   have hh:(a.1.good=false∧True=True∧healR d b.1 a.1=writeR d a.1.at' b.1.s)∨(a.1.good=true∧(a.1.s=b.1.s)=False∧healR d b.1 a.1=writeR d a.1.at' b.1.s)∨(a.1.good=true∧(a.1.s=b.1.s)=True∧healR d b.1 a.1=(d,0)):=by
    unfold healR
    rw [hg]
    cases gb:a.1.good with
    | false=>exact .inl ⟨rfl,rfl,by rw [if_neg (by simp)]⟩
    | true =>
     by_cases e:a.1.s=b.1.s
     · exact .inr (.inr ⟨rfl,eq_true e,by rw [if_pos (.inr ⟨rfl,e⟩)]⟩)
     · exact .inr (.inl ⟨rfl,eq_false e,by rw [if_neg (by simp [e])]⟩)
   have hw2:writeR d a.1.at' b.1.s=if (wr d a.1.at' b.1.s).2≠0 then wr d a.1.at' b.1.s else sy (wr d a.1.at' b.1.s).1:=rfl
   have hup:=(wr_ok hok (by omega) a.1.at' b.1.s).2
   rw [hw2] at hh
   rcases hh with ⟨g,es,hl⟩|⟨g,es,hl⟩|⟨g,es,hl⟩
   all_goals
    rw [hl]
    rw [g] at a64
    (repeat' (first|(with_reducible first|refine W.seq ?_|refine W.block ?_)|((first|(with_reducible first|refine W.reg ?_|refine W.skip ?_|refine W.exit ?_|refine W.ret ?_|refine W.ifc ?_)|((with_reducible first|refine wG_decE (fun _ hG=>?_) (fun _ hG=>?_)|refine wG_decFE (fun _ hG=>?_) (fun _ hG=>?_))<;>(try simp -dsimp only [hG,decide_true,decide_false,not_true_eq_false,not_false_eq_true])<;>clear hG))<;>(try simp -dsimp (disch:=first|omega|(simp only [go_sem];omega)) only [go_sem,seval,Nat.reduceEqDiff,Nat.reduceLeDiff,hsl,s132,so,sa,sb,la,lb,oa,ob,a64,b64,a0,b0,zz,es,e1]))|simp -dsimp (disch:=first|omega|(simp only [go_sem];omega)) only [go_sem,seval,Nat.reduceEqDiff,Nat.reduceLeDiff,hsl,s132,so,sa,sb,la,lb,oa,ob,a64,b64,a0,b0,zz,es,e1]))
   all_goals first
    | exact Fin.eq rfl ⟨rfl,_,⟨_,rfl,rfl,rfl⟩,hs⟩
    | skip
   all_goals
    (refine goM (rWrite_ok p d a.1.at' b.1.s (by omega)) (hs) ?_)
    rintro _ _ G2 ⟨rfl,rfl⟩ hs2'
    have hs2:Sep (RefA p (wr d a.1.at' b.1.s).1::R) G2:=hs2'
    clear hs2' hl hw2
    obtain⟨d1,e,hd1⟩:∃ d1 e,(d1,e)=wr d a.1.at' b.1.s:=⟨_,_,rfl⟩
    rw [← hd1] at hs2 hup ⊢
    simp only at hs2 hup ⊢
    by_cases he:e=0
    · subst he
      rw [if_neg (by simp)]
      refine goS trivial ?_
      (repeat' (first|(with_reducible first|refine W.seq ?_|refine W.block ?_)|((first|(with_reducible first|refine W.reg ?_|refine W.skip ?_|refine W.exit ?_|refine W.ret ?_|refine W.ifc ?_)|((with_reducible first|refine wG_decE (fun _ hG=>?_) (fun _ hG=>?_)|refine wG_decFE (fun _ hG=>?_) (fun _ hG=>?_))<;>(try simp -dsimp only [hG,decide_true,decide_false,not_true_eq_false,not_false_eq_true])<;>clear hG))<;>(try simp -dsimp (disch:=first|omega|(simp only [go_sem];omega)) only [go_sem,seval,Nat.reduceEqDiff,Nat.reduceLeDiff]))|simp -dsimp (disch:=first|omega|(simp only [go_sem];omega)) only [go_sem,seval,Nat.reduceEqDiff,Nat.reduceLeDiff]))
      (refine goM (rSync_ok p d1 (by omega)) (hs2) ?_)
      rintro _ _ G3 ⟨rfl,rfl⟩ hs3
      refine goS trivial ?_
      refine goR trivial ?_
      exact Fin.eq rfl ⟨rfl,_,⟨_,rfl,rfl,rfl⟩,hs3⟩
    · rw [if_pos he]
      have he':(e=0)=False:=eq_false he
      refine goS trivial ?_
      (repeat' (first|(with_reducible first|refine W.seq ?_|refine W.block ?_)|((first|(with_reducible first|refine W.reg ?_|refine W.skip ?_|refine W.exit ?_|refine W.ret ?_|refine W.ifc ?_)|((with_reducible first|refine wG_decE (fun _ hG=>?_) (fun _ hG=>?_)|refine wG_decFE (fun _ hG=>?_) (fun _ hG=>?_))<;>(try simp -dsimp only [hG,decide_true,decide_false,not_true_eq_false,not_false_eq_true])<;>clear hG))<;>(try simp -dsimp (disch:=first|omega|(simp only [go_sem];omega)) only [go_sem,seval,Nat.reduceEqDiff,Nat.reduceLeDiff,he']))|simp -dsimp (disch:=first|omega|(simp only [go_sem];omega)) only [go_sem,seval,Nat.reduceEqDiff,Nat.reduceLeDiff,he']))
      exact Fin.eq rfl ⟨rfl,_,⟨_,rfl,rfl,rfl⟩,hs2⟩
theorem rplace_ok (p:Nat) (d:Dk) (first n:Int) (hf:first≤d.cs.length) :
 CallR Try.prog f_zz26 [.gp p 0,.int .i64 first,.int .i64 n] [RefA p d] (·=.d (.bool (placeB d first n))):=by
 refine callR_of_W fol zz26_cp fun R G σ hs=>?_
 obtain⟨cb,cap,hd⟩:=RefP.open hs
 have hc:=hd.cell
 have hmost:=hd.ok.most
 have hh:((1≤n)=False∧True=True∧True=True∧placeB d first n=false)∨((1≤n)=True∧(0≤first)=False∧True=True∧placeB d first n=false)∨((1≤n)=True∧(0≤first)=True∧(n≤(d.cs.length:Int))=False∧placeB d first n=false) ∨
  ((1≤n)=True∧(0≤first)=True∧(n≤(d.cs.length:Int))=True∧placeB d first n=decide (first+2*n≤(d.cs.length:Int))):=by
  unfold placeB
  by_cases a1:1≤n
  · by_cases a2:0≤first
    · by_cases a3:n≤(d.cs.length:Int)
      · refine .inr (.inr (.inr ⟨eq_true a1,eq_true a2,eq_true a3,?_⟩))
        rw [Bool.eq_iff_iff]
        simp only [Bool.not_eq_true',Bool.or_eq_false_iff,decide_eq_false_iff_not,decide_eq_true_eq]
        omega
      · refine .inr (.inr (.inl ⟨eq_true a1,eq_true a2,eq_false a3,?_⟩))
        have:decide (((d.cs.length:Int) - first) / 2 < n)=true:=decide_eq_true (by omega)
        rw [this];simp
    · refine .inr (.inl ⟨eq_true a1,eq_false a2,rfl,?_⟩)
      have:decide (first < 0)=true:=decide_eq_true (by omega)
      rw [this];simp
  · refine .inl ⟨eq_false a1,rfl,rfl,?_⟩
    have:decide (n < 1)=true:=decide_eq_true (by omega)
    rw [this];simp
 rcases hh with ⟨f1,f2,f3,hp⟩|⟨f1,f2,f3,hp⟩|⟨f1,f2,f3,hp⟩|⟨f1,f2,f3,hp⟩
 · rw [hp]
   refine goS f1 ?_
   (repeat' (first|(with_reducible first|refine W.seq ?_|refine W.block ?_)|((first|(with_reducible first|refine W.reg ?_|refine W.skip ?_|refine W.exit ?_|refine W.ret ?_|refine W.ifc ?_)|((with_reducible first|refine wG_decE (fun _ hG=>?_) (fun _ hG=>?_)|refine wG_decFE (fun _ hG=>?_) (fun _ hG=>?_))<;>(try simp -dsimp only [hG,decide_true,decide_false,not_true_eq_false,not_false_eq_true])<;>clear hG))<;>(try simp -dsimp (disch:=first|omega|(simp only [go_sem];omega)) only [go_sem,seval,Nat.reduceEqDiff,Nat.reduceLeDiff,hc,f1]))|simp -dsimp (disch:=first|omega|(simp only [go_sem];omega)) only [go_sem,seval,Nat.reduceEqDiff,Nat.reduceLeDiff,hc,f1]))
   (apply Fin.eq;(focus (simp -dsimp (disch:=first|omega|(simp only [go_sem];omega)) only [go_sem,seval,Nat.reduceEqDiff,Nat.reduceLeDiff]<;>rfl)))
   exact⟨rfl,rfl,rfl⟩
 · rw [hp]
   refine goS f1 ?_
   (repeat' (first|(with_reducible first|refine W.seq ?_|refine W.block ?_)|((first|(with_reducible first|refine W.reg ?_|refine W.skip ?_|refine W.exit ?_|refine W.ret ?_|refine W.ifc ?_)|((with_reducible first|refine wG_decE (fun _ hG=>?_) (fun _ hG=>?_)|refine wG_decFE (fun _ hG=>?_) (fun _ hG=>?_))<;>(try simp -dsimp only [hG,decide_true,decide_false,not_true_eq_false,not_false_eq_true])<;>clear hG))<;>(try simp -dsimp (disch:=first|omega|(simp only [go_sem];omega)) only [go_sem,seval,Nat.reduceEqDiff,Nat.reduceLeDiff,hc,f1,f2]))|simp -dsimp (disch:=first|omega|(simp only [go_sem];omega)) only [go_sem,seval,Nat.reduceEqDiff,Nat.reduceLeDiff,hc,f1,f2]))
   (apply Fin.eq;(focus (simp -dsimp (disch:=first|omega|(simp only [go_sem];omega)) only [go_sem,seval,Nat.reduceEqDiff,Nat.reduceLeDiff]<;>rfl)))
   exact⟨rfl,rfl,rfl⟩
 · rw [hp]
   refine goS f1 ?_
   (repeat' (first|(with_reducible first|refine W.seq ?_|refine W.block ?_)|((first|(with_reducible first|refine W.reg ?_|refine W.skip ?_|refine W.exit ?_|refine W.ret ?_|refine W.ifc ?_)|((with_reducible first|refine wG_decE (fun _ hG=>?_) (fun _ hG=>?_)|refine wG_decFE (fun _ hG=>?_) (fun _ hG=>?_))<;>(try simp -dsimp only [hG,decide_true,decide_false,not_true_eq_false,not_false_eq_true])<;>clear hG))<;>(try simp -dsimp (disch:=first|omega|(simp only [go_sem];omega)) only [go_sem,seval,Nat.reduceEqDiff,Nat.reduceLeDiff,hc,f1,f2,f3]))|simp -dsimp (disch:=first|omega|(simp only [go_sem];omega)) only [go_sem,seval,Nat.reduceEqDiff,Nat.reduceLeDiff,hc,f1,f2,f3]))
   (apply Fin.eq;(focus (simp -dsimp (disch:=first|omega|(simp only [go_sem];omega)) only [go_sem,seval,Nat.reduceEqDiff,Nat.reduceLeDiff]<;>rfl)))
   exact⟨rfl,rfl,rfl⟩
 · rw [hp]
   have h1:1≤n:=of_eq_true f1
   have h2:0≤first:=of_eq_true f2
   have h3:n≤(d.cs.length:Int):=of_eq_true f3
   refine goS f1 ?_
   (repeat' (first|(with_reducible first|refine W.seq ?_|refine W.block ?_)|((first|(with_reducible first|refine W.reg ?_|refine W.skip ?_|refine W.exit ?_|refine W.ret ?_|refine W.ifc ?_)|((with_reducible first|refine wG_decE (fun _ hG=>?_) (fun _ hG=>?_)|refine wG_decFE (fun _ hG=>?_) (fun _ hG=>?_))<;>(try simp -dsimp only [hG,decide_true,decide_false,not_true_eq_false,not_false_eq_true])<;>clear hG))<;>(try simp -dsimp (disch:=first|omega|(simp only [go_sem];omega)) only [go_sem,seval,Nat.reduceEqDiff,Nat.reduceLeDiff,hc,f1,f2,f3]))|simp -dsimp (disch:=first|omega|(simp only [go_sem];omega)) only [go_sem,seval,Nat.reduceEqDiff,Nat.reduceLeDiff,hc,f1,f2,f3]))
   (apply Fin.eq;(focus (simp -dsimp (disch:=first|omega|(simp only [go_sem];omega)) only [go_sem,seval,Nat.reduceEqDiff,Nat.reduceLeDiff]<;>rfl)))
   exact⟨rfl,rfl,rfl⟩
end Go.Proofs.Ytioojmlhmhgeeaa
/-
 Layer 22 (slots): the slots of the specification: Format.
 Conditions: of each contract as it says.
-/
namespace Go.Proofs.Ytioojmlhmhgeeaa
open Go Go.E2 C22
set_option linter.unusedSimpArgs false
set_option maxHeartbeats 1000000
theorem fmtL_stay {d:Dk} {first:Int} {k:Nat} (he:(fmtL d first k).2≠0):∀ j,k≤j→fmtL d first j=fmtL d first k:=by
 intro j hj
 induction j with
 | zero=>
  obtain rfl:k=0:=by omega
  rfl
 | succ j ih =>
  rcases Nat.lt_or_ge j k with h|h
  · have:k=j+1:=by omega
    rw [this]
  · rw [fmtL,if_pos (by rw [ih h];exact he),ih h]
theorem rplace_out {d:Dk} {first n:Int} (h:(d.cs.length:Int) < first):placeB d first n=false:=by
 unfold placeB
 have:decide ((d.cs.length:Int) < first)=true:=decide_eq_true h
 rw [this];simp
theorem rFormat_ok (p:Nat) (d:Dk) (first n:Int) (hn:d.steps≤900000000) :
 CallS Try.prog f_zz21 [.gp p 0,.int .i64 first,.int .i64 n] [RefA p d] (fun r post=>r=.d (.int .i64 (fmtR d first n).2)∧post=[RefA p (fmtR d first n).1]):=by
 refine callS_of_W fol zz21_cp fun R G σ hs=>?_
 obtain⟨cb,cap,hd⟩:=RefP.open hs
 have hc:=hd.cell
 have hok:=hd.ok
 have hmost:=hok.most
 have bad:placeB d first n=false→fmtR d first n=(d,1):=fun h=>by unfold fmtR;rw [if_pos h]
 by_cases hf:(d.cs.length:Int) < first
 · rw [bad (rplace_out hf)]
   have f1:(first≤(d.cs.length:Int))=False:=eq_false (by omega)
   refine goS trivial ?_
   (repeat' (first|(with_reducible first|refine W.seq ?_|refine W.block ?_)|((first|(with_reducible first|refine W.reg ?_|refine W.skip ?_|refine W.exit ?_|refine W.ret ?_|refine W.ifc ?_)|((with_reducible first|refine wG_decE (fun _ hG=>?_) (fun _ hG=>?_)|refine wG_decFE (fun _ hG=>?_) (fun _ hG=>?_))<;>(try simp -dsimp only [hG,decide_true,decide_false,not_true_eq_false,not_false_eq_true])<;>clear hG))<;>(try simp -dsimp (disch:=first|omega|(simp only [go_sem];omega)) only [go_sem,seval,Nat.reduceEqDiff,Nat.reduceLeDiff,hc,f1]))|simp -dsimp (disch:=first|omega|(simp only [go_sem];omega)) only [go_sem,seval,Nat.reduceEqDiff,Nat.reduceLeDiff,hc,f1]))
   exact Fin.eq rfl ⟨rfl,_,⟨rfl,rfl⟩,hs⟩
 have f1:(first≤(d.cs.length:Int))=True:=eq_true (by omega)
 have hq:=(rplace_ok p d first n (by omega)).q hs
 cases hp:placeB d first n
 · rw [hp] at hq
   rw [bad hp]
   refine goS trivial ?_
   (repeat' (first|(with_reducible first|refine W.seq ?_|refine W.block ?_)|((first|(with_reducible first|refine W.reg ?_|refine W.skip ?_|refine W.exit ?_|refine W.ret ?_|refine W.ifc ?_)|(apply wC_Q (hq);(focus (simp -dsimp (disch:=first|omega|(simp only [go_sem];omega)) only [go_sem,seval,Nat.reduceEqDiff,Nat.reduceLeDiff]<;>rfl));rintro _ rfl)|((with_reducible first|refine wG_decE (fun _ hG=>?_) (fun _ hG=>?_)|refine wG_decFE (fun _ hG=>?_) (fun _ hG=>?_))<;>(try simp -dsimp only [hG,decide_true,decide_false,not_true_eq_false,not_false_eq_true])<;>clear hG))<;>(try simp -dsimp (disch:=first|omega|(simp only [go_sem];omega)) only [go_sem,seval,Nat.reduceEqDiff,Nat.reduceLeDiff,hc,f1]))|simp -dsimp (disch:=first|omega|(simp only [go_sem];omega)) only [go_sem,seval,Nat.reduceEqDiff,Nat.reduceLeDiff,hc,f1]))
   exact Fin.eq rfl ⟨rfl,_,⟨rfl,rfl⟩,hs⟩
 rw [hp] at hq
 obtain⟨q1,q2,q3⟩:=placeB_true hp
 obtain⟨m,rfl⟩:∃ m:Nat,n=m:=⟨n.toNat,by omega⟩
 refine goS trivial ?_
 (repeat' (first|(with_reducible first|refine W.seq ?_|refine W.block ?_)|((first|(with_reducible first|refine W.reg ?_|refine W.skip ?_|refine W.exit ?_|refine W.ret ?_|refine W.ifc ?_)|(apply wC_Q (hq);(focus (simp -dsimp (disch:=first|omega|(simp only [go_sem];omega)) only [go_sem,seval,Nat.reduceEqDiff,Nat.reduceLeDiff]<;>rfl));rintro _ rfl)|((with_reducible first|refine wG_decE (fun _ hG=>?_) (fun _ hG=>?_)|refine wG_decFE (fun _ hG=>?_) (fun _ hG=>?_))<;>(try simp -dsimp only [hG,decide_true,decide_false,not_true_eq_false,not_false_eq_true])<;>clear hG))<;>(try simp -dsimp (disch:=first|omega|(simp only [go_sem];omega)) only [go_sem,seval,Nat.reduceEqDiff,Nat.reduceLeDiff,hc,f1]))|simp -dsimp (disch:=first|omega|(simp only [go_sem];omega)) only [go_sem,seval,Nat.reduceEqDiff,Nat.reduceLeDiff,hc,f1]))
 refine W.loop (fun q st=>∃ (k:Nat) (G:Gh),k≤2*m∧q=2*m - k∧(fmtL d first k).2=0∧Sep (RefA p (fmtL d first k).1::R) G ∧
  st=(E [(0,.d (.gp p 0)),(1,.d (.int .i64 first)),(2,.d (.int .i64 m)),(8,.d (.int .i64 k))],HB [],σ,G))
  ⟨_,_,stle,0,G,by omega,rfl,rfl,hs,rfl⟩ ?_
 rintro q st ⟨k,G1,hk,rfl,hf0,hs1,rfl⟩
 refine goR trivial ?_
 refine wG_dec (fun h1=>?_) (fun h1=>?_)
 · have hk':k < 2*m:=by omega
   have hup:=(fmtL_up hok first k (by omega)).2.2
   (repeat' (first|(with_reducible first|refine W.seq ?_|refine W.block ?_)|((first|(with_reducible first|refine W.reg ?_|refine W.skip ?_|refine W.exit ?_|refine W.ret ?_|refine W.ifc ?_)|(apply wC_P (Copy_ok 1 (by omega) (by omega) [] (by simp));(focus (simp -dsimp (disch:=first|omega|(simp only [go_sem];omega)) only [go_sem,seval,Nat.reduceEqDiff,Nat.reduceLeDiff]<;>rfl));rintro _ rfl)|((with_reducible first|refine wG_decE (fun _ hG=>?_) (fun _ hG=>?_)|refine wG_decFE (fun _ hG=>?_) (fun _ hG=>?_))<;>(try simp -dsimp only [hG,decide_true,decide_false,not_true_eq_false,not_false_eq_true])<;>clear hG))<;>(try simp -dsimp (disch:=first|omega|(simp only [go_sem];omega)) only [go_sem,seval,Nat.reduceEqDiff,Nat.reduceLeDiff]))|simp -dsimp (disch:=first|omega|(simp only [go_sem];omega)) only [go_sem,seval,Nat.reduceEqDiff,Nat.reduceLeDiff]))
   (refine goM (rWrite_ok p (fmtL d first k).1 (first+k) (mk1 1 []) (by omega)) (hs1) ?_)
   rintro _ _ G2 ⟨rfl,rfl⟩ hs2
   have hstep:fmtL d first (k+1)=wr (fmtL d first k).1 (first+k) (mk1 1 []):=by rw [fmtL,if_neg (by rw [hf0];simp)]
   rw [← hstep] at hs2 ⊢
   have hs2:Sep (RefA p (fmtL d first (k+1)).1::R) G2:=hs2
   by_cases he:(fmtL d first (k+1)).2=0
   · refine goS he ?_
     (repeat' (first|(with_reducible first|refine W.seq ?_|refine W.block ?_)|((first|(with_reducible first|refine W.reg ?_|refine W.skip ?_|refine W.exit ?_|refine W.ret ?_|refine W.ifc ?_)|((with_reducible first|refine wG_decE (fun _ hG=>?_) (fun _ hG=>?_)|refine wG_decFE (fun _ hG=>?_) (fun _ hG=>?_))<;>(try simp -dsimp only [hG,decide_true,decide_false,not_true_eq_false,not_false_eq_true])<;>clear hG))<;>(try simp -dsimp (disch:=first|omega|(simp only [go_sem];omega)) only [go_sem,seval,Nat.reduceEqDiff,Nat.reduceLeDiff,he]))|simp -dsimp (disch:=first|omega|(simp only [go_sem];omega)) only [go_sem,seval,Nat.reduceEqDiff,Nat.reduceLeDiff,he]))
     refine⟨_,_,?_,stle,k+1,G2,by omega,rfl,he,hs2,rfl⟩
     omega
   · have he':((fmtL d first (k+1)).2=0)=False:=eq_false he
     refine goS he' ?_
     (repeat' (first|(with_reducible first|refine W.seq ?_|refine W.block ?_)|((first|(with_reducible first|refine W.reg ?_|refine W.skip ?_|refine W.exit ?_|refine W.ret ?_|refine W.ifc ?_)|((with_reducible first|refine wG_decE (fun _ hG=>?_) (fun _ hG=>?_)|refine wG_decFE (fun _ hG=>?_) (fun _ hG=>?_))<;>(try simp -dsimp only [hG,decide_true,decide_false,not_true_eq_false,not_false_eq_true])<;>clear hG))<;>(try simp -dsimp (disch:=first|omega|(simp only [go_sem];omega)) only [go_sem,seval,Nat.reduceEqDiff,Nat.reduceLeDiff,he']))|simp -dsimp (disch:=first|omega|(simp only [go_sem];omega)) only [go_sem,seval,Nat.reduceEqDiff,Nat.reduceLeDiff,he']))
     have hst:=fmtL_stay he (2*m) (by omega)
     have hres:fmtR d first m=fmtL d first (k+1):=by
      unfold fmtR
      rw [if_neg (by rw [hp];simp),Int.toNat_natCast,hst,if_pos he]
     rw [hres]
     exact Fin.eq rfl ⟨rfl,_,⟨rfl,rfl⟩,hs2⟩
 · obtain rfl:k=2*m:=by omega
   have hup:=(fmtL_up hok first (2*m) (by omega)).2.2
   (repeat' (first|(with_reducible first|refine W.seq ?_|refine W.block ?_)|((first|(with_reducible first|refine W.reg ?_|refine W.skip ?_|refine W.exit ?_|refine W.ret ?_|refine W.ifc ?_)|((with_reducible first|refine wG_decE (fun _ hG=>?_) (fun _ hG=>?_)|refine wG_decFE (fun _ hG=>?_) (fun _ hG=>?_))<;>(try simp -dsimp only [hG,decide_true,decide_false,not_true_eq_false,not_false_eq_true])<;>clear hG))<;>(try simp -dsimp (disch:=first|omega|(simp only [go_sem];omega)) only [go_sem,seval,Nat.reduceEqDiff,Nat.reduceLeDiff]))|simp -dsimp (disch:=first|omega|(simp only [go_sem];omega)) only [go_sem,seval,Nat.reduceEqDiff,Nat.reduceLeDiff]))
   (refine goM (rSync_ok p (fmtL d first (2*m)).1 (by omega)) (hs1) ?_)
   rintro _ _ G2 ⟨rfl,rfl⟩ hs2
   have hres:fmtR d first m=sy (fmtL d first (2*m)).1:=by
    unfold fmtR
    rw [if_neg (by rw [hp];simp),Int.toNat_natCast,if_neg (by rw [hf0];simp)]
   rw [hres]
   refine goS trivial ?_
   refine goR trivial ?_
   exact Fin.eq rfl ⟨rfl,_,⟨rfl,rfl⟩,hs2⟩
end Go.Proofs.Ytioojmlhmhgeeaa
