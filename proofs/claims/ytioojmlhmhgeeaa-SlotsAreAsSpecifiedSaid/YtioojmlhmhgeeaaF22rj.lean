/-
 Layer 22 (slots): the slots of the specification: Open.
 Conditions: of each contract as it says.
-/
import Derived.Test.YtioojmlhmhgeeaaF22rh
import Derived.Test.YtioojmlhmhgeeaaF22v
import Derived.Test.YtioojmlhmhgeeaaF22x
namespace Go.Proofs.Ytioojmlhmhgeeaa
open Go Go.E2 C22
set_option linter.unusedSimpArgs false
set_option maxHeartbeats 2000000
inductive SlV (d:Dk) (first i:Int):(Fnd×Int)×(Fnd×Int)×Int×Int→Prop
 | err (e:Int):e≠0→slotR d first i=(zF,zF,e)→SlV d first i (zFd,zFd,0,e)
 | good (a b:Fnd) (best other:Fnd) (bt:Int):a.at'=first+2*i→b.at'=first+2*i+1→slotR d first i=(best,other,0)→bt=btR a b →
    (bt=-1∧best.good=false∨bt=0∧best=a∧best.good=true∨bt=1∧best=b∧best.good=true) →
    (if b.good=true∧(a.good=false∨numAt a.s 0 < numAt b.s 0) then healR d b a else healR d a b)=healR d best other→SlV d first i ((a,0),(b,0),bt,0)
theorem slV (d:Dk) (first i:Int):SlV d first i (slotS d first i):=by
 have hs:slotR d first i=if (readC d (first+2*i)).2≠0 then (zF,zF,(readC d (first+2*i)).2) else
  if (readC d (first+2*i+1)).2≠0 then (zF,zF,(readC d (first+2*i+1)).2) else
  if (readC d (first+2*i+1)).1.good=true∧((readC d (first+2*i)).1.good=false∨numAt (readC d (first+2*i)).1.s 0 < numAt (readC d (first+2*i+1)).1.s 0) then ((readC d (first+2*i+1)).1,(readC d (first+2*i)).1,0) else
  ((readC d (first+2*i)).1,(readC d (first+2*i+1)).1,0):=rfl
 have ha:(readC d (first+2*i)).1.at'=first+2*i:=rfl
 have hb:(readC d (first+2*i+1)).1.at'=first+2*i+1:=rfl
 unfold slotS
 obtain⟨a,hae⟩:∃ a,a=readC d (first+2*i):=⟨_,rfl⟩
 obtain⟨b,hbe⟩:∃ b,b=readC d (first+2*i+1):=⟨_,rfl⟩
 rw [← hae,← hbe] at hs ⊢
 rw [← hae] at ha
 rw [← hbe] at hb
 by_cases ea:a.2≠0
 · rw [if_pos ea] at hs ⊢
   exact .err _ ea hs
 rw [if_neg ea] at hs ⊢
 by_cases eb:b.2≠0
 · rw [if_pos eb] at hs ⊢
   exact .err _ eb hs
 rw [if_neg eb] at hs ⊢
 have ea:a.2=0:=by simpa using ea
 have eb:b.2=0:=by simpa using eb
 obtain⟨a,ea'⟩:=a
 obtain⟨b,eb'⟩:=b
 simp only at ea eb ha hb hs ⊢
 subst ea eb
 by_cases hc:b.good=true∧(a.good=false∨numAt a.s 0 < numAt b.s 0)
 · rw [if_pos hc] at hs
   refine .good a b b a _ ha hb hs rfl (.inr (.inr ⟨by unfold btR;rw [if_pos hc],rfl,hc.1⟩)) (by rw [if_pos hc])
 · rw [if_neg hc] at hs
   refine .good a b a b _ ha hb hs rfl ?_ (by rw [if_neg hc])
   unfold btR
   rw [if_neg hc]
   cases hg:a.good with
   | true=>exact .inr (.inl ⟨rfl,rfl,rfl⟩)
   | false=>exact .inl ⟨rfl,rfl⟩
theorem rOpen_ok (p:Nat) (d:Dk) (first n:Int) (hn:d.steps≤800000000) :
 CallS Try.prog f_zz32 [.gp p 0,.int .i64 first,.int .i64 n] [RefA p d] (fun r post =>
  (((openR d first n).2.2=0∧r=.d (.agg [.gp p 0,.int .i64 first,.int .i64 n,.list ((openR d first n).2.1.map eI),.int .i64 0])) ∨
  ((openR d first n).2.2≠0∧r=.d (.agg [.nilP,.int .i64 0,.int .i64 0,.nilS,.int .i64 (openR d first n).2.2])))∧post=[RefA p (openR d first n).1]):=by
 refine callS_of_W fol zz32_cp fun R G σ hs=>?_
 obtain⟨cb,cap,hd⟩:=RefP.open hs
 have hc:=hd.cell
 have hok:=hd.ok
 have hmost:=hok.most
 have bad:placeB d first n=false→openR d first n=(d,[],1):=fun h=>by unfold openR;rw [if_pos h]
 by_cases hf:(d.cs.length:Int) < first
 · rw [bad (rplace_out hf)]
   have f1:(first≤(d.cs.length:Int))=False:=eq_false (by omega)
   refine goS trivial ?_
   (repeat' (first|(with_reducible first|refine W.seq ?_|refine W.block ?_)|((first|(with_reducible first|refine W.reg ?_|refine W.skip ?_|refine W.exit ?_|refine W.ret ?_|refine W.ifc ?_)|((with_reducible first|refine wG_decE (fun _ hG=>?_) (fun _ hG=>?_)|refine wG_decFE (fun _ hG=>?_) (fun _ hG=>?_))<;>(try simp -dsimp only [hG,decide_true,decide_false,not_true_eq_false,not_false_eq_true])<;>clear hG))<;>(try simp -dsimp (disch:=first|omega|(simp only [go_sem];omega)) only [go_sem,seval,Nat.reduceEqDiff,Nat.reduceLeDiff,hc,f1]))|simp -dsimp (disch:=first|omega|(simp only [go_sem];omega)) only [go_sem,seval,Nat.reduceEqDiff,Nat.reduceLeDiff,hc,f1]))
   (apply Fin.eq;(focus (simp -dsimp (disch:=first|omega|(simp only [go_sem];omega)) only [go_sem,seval,Nat.reduceEqDiff,Nat.reduceLeDiff]<;>rfl)))
   exact⟨rfl,_,⟨.inr ⟨by simp,rfl⟩,rfl⟩,hs⟩
 have f1:(first≤(d.cs.length:Int))=True:=eq_true (by omega)
 have hq:=(rplace_ok p d first n (by omega)).q hs
 cases hp:placeB d first n
 · rw [hp] at hq
   rw [bad hp]
   refine goS trivial ?_
   (repeat' (first|(with_reducible first|refine W.seq ?_|refine W.block ?_)|((first|(with_reducible first|refine W.reg ?_|refine W.skip ?_|refine W.exit ?_|refine W.ret ?_|refine W.ifc ?_)|(apply wC_Q (hq);(focus (simp -dsimp (disch:=first|omega|(simp only [go_sem];omega)) only [go_sem,seval,Nat.reduceEqDiff,Nat.reduceLeDiff]<;>rfl));rintro _ rfl)|((with_reducible first|refine wG_decE (fun _ hG=>?_) (fun _ hG=>?_)|refine wG_decFE (fun _ hG=>?_) (fun _ hG=>?_))<;>(try simp -dsimp only [hG,decide_true,decide_false,not_true_eq_false,not_false_eq_true])<;>clear hG))<;>(try simp -dsimp (disch:=first|omega|(simp only [go_sem];omega)) only [go_sem,seval,Nat.reduceEqDiff,Nat.reduceLeDiff,hc,f1]))|simp -dsimp (disch:=first|omega|(simp only [go_sem];omega)) only [go_sem,seval,Nat.reduceEqDiff,Nat.reduceLeDiff,hc,f1]))
   (apply Fin.eq;(focus (simp -dsimp (disch:=first|omega|(simp only [go_sem];omega)) only [go_sem,seval,Nat.reduceEqDiff,Nat.reduceLeDiff]<;>rfl)))
   exact⟨rfl,_,⟨.inr ⟨by simp,rfl⟩,rfl⟩,hs⟩
 rw [hp] at hq
 obtain⟨q1,q2,q3⟩:=placeB_true hp
 obtain⟨m,rfl⟩:∃ m:Nat,n=m:=⟨n.toNat,by omega⟩
 have hR:∀ k,k≤m→(openN d first k).2.2≠0→openR d first m=((openN d first k).1,[],(openN d first k).2.2):=fun k hk h=>by
  unfold openR
  rw [if_neg (by rw [hp];simp),Int.toNat_natCast,openN_stay h m hk,if_pos h]
 refine goS trivial ?_
 (repeat' (first|(with_reducible first|refine W.seq ?_|refine W.block ?_)|((first|(with_reducible first|refine W.reg ?_|refine W.skip ?_|refine W.exit ?_|refine W.ret ?_|refine W.ifc ?_)|(apply wC_Q (hq);(focus (simp -dsimp (disch:=first|omega|(simp only [go_sem];omega)) only [go_sem,seval,Nat.reduceEqDiff,Nat.reduceLeDiff]<;>rfl));rintro _ rfl)|((with_reducible first|refine wG_decE (fun _ hG=>?_) (fun _ hG=>?_)|refine wG_decFE (fun _ hG=>?_) (fun _ hG=>?_))<;>(try simp -dsimp only [hG,decide_true,decide_false,not_true_eq_false,not_false_eq_true])<;>clear hG))<;>(try simp -dsimp (disch:=first|omega|(simp only [go_sem];omega)) only [go_sem,seval,Nat.reduceEqDiff,Nat.reduceLeDiff,hc,f1]))|simp -dsimp (disch:=first|omega|(simp only [go_sem];omega)) only [go_sem,seval,Nat.reduceEqDiff,Nat.reduceLeDiff,hc,f1]))
 refine W.loop (fun z st=>∃ (k:Nat) (ls:List Int) (b11:Blk) (G:Gh),k≤m∧z=m - k∧(openN d first k).2.2=0∧ls=(openN d first k).2.1∧ls.length≤k∧Sep (RefA p (openN d first k).1::R) G ∧
  st=(E [(0,.d (.gp p 0)),(1,.d (.int .i64 first)),(2,.d (.int .i64 m)),(6,.ptr 0 6 1 0),(8,.ptr 0 8 1 0),(9,.own 1 (ls.map eI)),(10,.d (.int .i64 k))],
   HB [(6,⟨1,some [.nilP,.int .i64 0,.int .i64 0,.nilS,.int .i64 0]⟩),(8,⟨1,some [.gp p 0,.int .i64 first,.int .i64 m]⟩),(11,b11)],σ,G))
  ⟨_,_,stleB (HB_pad [(6,⟨1,some [.nilP,.int .i64 0,.int .i64 0,.nilS,.int .i64 0]⟩),(8,⟨1,some [.gp p 0,.int .i64 first,.int .i64 m]⟩)] [11] rfl).symm,0,[],_,G,by omega,rfl,rfl,rfl,by simp,hs,rfl⟩ ?_
 rintro z st ⟨k,lost,b11,G2,hk,rfl,he,hlost,hll,hs2,rfl⟩
 refine goR trivial ?_
 refine wG_dec (fun h1=>?_) (fun h1=>?_)
 · have hk':k < m:=by omega
   have hup:=openN_up hok first k (by omega)
   have hup2:=hup.2.2
   have hlen:=hup.2.1
   have hokk:=hup.1
   have hstep:openN d first (k+1)=((open1 (openN d first k).1 first k).1,(if (open1 (openN d first k).1 first k).2.1=true then (openN d first k).2.1 ++ [(k:Int)] else (openN d first k).2.1),(open1 (openN d first k).1 first k).2.2):=by
    rw [openN,if_neg (by rw [he];simp)]
   have hRk:=hR (k+1) (by omega)
   obtain⟨d1,hd1⟩:∃ d1,d1=(openN d first k).1:=⟨_,rfl⟩
   rw [← hd1] at hs2 hup2 hlen hokk hstep
   rw [← hlost] at hstep
   have hqs:=(rslot_ok p d1 first m k (by omega) (by omega) (by omega)).q hs2
   have hv:=slV d1 first k
   obtain⟨sl,hsl⟩:∃ sl,sl=slotS d1 first k:=⟨_,rfl⟩
   rw [← hsl] at hqs hv
   unfold eSl at hqs
   cases hv with
   | err e he0 hr =>
    have ho1:open1 d1 first k=(d1,false,e):=by unfold open1;rw [hr];simp only;rw [if_pos he0]
    rw [ho1] at hstep
    simp only at hqs
    have so:=slC_one zFd zFd 0 e
    have sl:=slC_len zFd zFd 0 e
    have s133:=slC_133 zFd zFd 0 e
    have he':(e=0)=False:=eq_false he0
    have hRk:=hRk (by rw [hstep];exact he0)
    rw [hstep] at hRk
    simp only at hRk
    rw [hRk]
    (repeat' (first|(with_reducible first|refine W.seq ?_|refine W.block ?_)|((first|(with_reducible first|refine W.reg ?_|refine W.skip ?_|refine W.exit ?_|refine W.ret ?_|refine W.ifc ?_)|(apply wC_Q (hqs);(focus (simp -dsimp (disch:=first|omega|(simp only [go_sem];omega)) only [go_sem,seval,Nat.reduceEqDiff,Nat.reduceLeDiff]<;>rfl));rintro _ rfl)|((with_reducible first|refine wG_decE (fun _ hG=>?_) (fun _ hG=>?_)|refine wG_decFE (fun _ hG=>?_) (fun _ hG=>?_))<;>(try simp -dsimp only [hG,decide_true,decide_false,not_true_eq_false,not_false_eq_true])<;>clear hG))<;>(try simp -dsimp (disch:=first|omega|(simp only [go_sem];omega)) only [go_sem,seval,Nat.reduceEqDiff,Nat.reduceLeDiff,so,sl,s133,he']))|simp -dsimp (disch:=first|omega|(simp only [go_sem];omega)) only [go_sem,seval,Nat.reduceEqDiff,Nat.reduceLeDiff,so,sl,s133,he']))
    (apply Fin.eq;(focus (simp -dsimp (disch:=first|omega|(simp only [go_sem];omega)) only [go_sem,seval,Nat.reduceEqDiff,Nat.reduceLeDiff]<;>rfl)))
    exact⟨rfl,_,⟨.inr ⟨he0,rfl⟩,rfl⟩,hs2⟩
   | good a b best other bt ha hb hr hbt hcs hheal =>
    simp only at hqs
    have so:=slC_one (a,0) (b,0) bt 0
    have sl2:=slC_len (a,0) (b,0) bt 0
    have s132:=slC_132 (a,0) (b,0) bt 0
    have s133:=slC_133 (a,0) (b,0) bt 0
    have t134:List.take 134 (slC (a,0) (b,0) bt 0)=slC (a,0) (b,0) bt 0:=List.take_of_length_le (by rw [sl2];decide)
    (repeat' (first|(with_reducible first|refine W.seq ?_|refine W.block ?_)|((first|(with_reducible first|refine W.reg ?_|refine W.skip ?_|refine W.exit ?_|refine W.ret ?_|refine W.ifc ?_)|(apply wC_Q (hqs);(focus (simp -dsimp (disch:=first|omega|(simp only [go_sem];omega)) only [go_sem,seval,Nat.reduceEqDiff,Nat.reduceLeDiff]<;>rfl));rintro _ rfl)|((with_reducible first|refine wG_decE (fun _ hG=>?_) (fun _ hG=>?_)|refine wG_decFE (fun _ hG=>?_) (fun _ hG=>?_))<;>(try simp -dsimp only [hG,decide_true,decide_false,not_true_eq_false,not_false_eq_true])<;>clear hG))<;>(try simp -dsimp (disch:=first|omega|(simp only [go_sem];omega)) only [go_sem,seval,Nat.reduceEqDiff,Nat.reduceLeDiff,so,sl2,s133,t134]))|simp -dsimp (disch:=first|omega|(simp only [go_sem];omega)) only [go_sem,seval,Nat.reduceEqDiff,Nat.reduceLeDiff,so,sl2,s133,t134]))
    have hcall:=rheal_ok p d1 first m k (a,0) (b,0) (by omega) (by omega) (by omega) (by omega) ha hb
    rw [← hbt] at hcall
    (refine goM (hcall) (hs2) ?_)
    rintro _ _ G3 ⟨x,hx,rfl,rfl⟩ hs3'
    have hs3:Sep (RefA p x.1::R) G3:=hs3'
    clear hs3' hcall
    simp only at hx
    rw [hheal] at hx
    have hho:=healR_up hokk (by omega) best other
    rw [← hx] at hho
    have hho2:=hho.2.2
    have e5:∀ e:Int,List.take 5 [D.nilP,.int .i64 0,.int .i64 0,.nilS,.int .i64 e]=[D.nilP,.int .i64 0,.int .i64 0,.nilS,.int .i64 e]:=fun _=>rfl
    rcases hcs with ⟨hb1,hg⟩|⟨hb1,_,hg⟩|⟨hb1,_,hg⟩
    · have hbl:(bt < 0)=True:=eq_true (by omega)
      have hx2:x=(d1,0):=by rw [hx];unfold healR;rw [if_pos (.inl hg)]
      have ho1:open1 d1 first k=((fmtR d1 (first+2*k) 1).1,true,(fmtR d1 (first+2*k) 1).2):=by
       unfold open1;rw [hr];simp only;rw [if_neg (by simp),if_neg (by rw [hg];simp)]
      rw [ho1] at hstep
      rw [hx2] at hs3 ⊢
      simp only at hs3 ⊢
      have hl31:(lost.map eI).length≤65536:=by rw [List.length_map];omega
      refine goS trivial ?_
      (repeat' (first|(with_reducible first|refine W.seq ?_|refine W.block ?_)|((first|(with_reducible first|refine W.reg ?_|refine W.skip ?_|refine W.exit ?_|refine W.ret ?_|refine W.ifc ?_)|((with_reducible first|refine wG_decE (fun _ hG=>?_) (fun _ hG=>?_)|refine wG_decFE (fun _ hG=>?_) (fun _ hG=>?_))<;>(try simp -dsimp only [hG,decide_true,decide_false,not_true_eq_false,not_false_eq_true])<;>clear hG))<;>(try simp -dsimp (disch:=first|omega|(simp only [go_sem];omega)) only [go_sem,seval,Nat.reduceEqDiff,Nat.reduceLeDiff,sl2,s132,hbl]))|simp -dsimp (disch:=first|omega|(simp only [go_sem];omega)) only [go_sem,seval,Nat.reduceEqDiff,Nat.reduceLeDiff,sl2,s132,hbl]))
      (refine goM (rFormat_ok p d1 (first+2*k) 1 (by omega)) (hs3) ?_)
      rintro _ _ G4 ⟨rfl,rfl⟩ hs4
      obtain⟨d2,e2,hd2⟩:∃ d2 e2,(d2,e2)=fmtR d1 (first+2*k) 1:=⟨_,_,rfl⟩
      rw [← hd2] at hs4 hstep ⊢
      simp only at hstep ⊢
      simp only [if_true] at hstep
      have hs4:Sep (RefA p d2::R) G4:=hs4
      by_cases he2:e2=0
      · subst he2
        refine goS trivial ?_
        (repeat' (first|(with_reducible first|refine W.seq ?_|refine W.block ?_)|((first|(with_reducible first|refine W.reg ?_|refine W.skip ?_|refine W.exit ?_|refine W.ret ?_|refine W.ifc ?_)|((with_reducible first|refine wG_decE (fun _ hG=>?_) (fun _ hG=>?_)|refine wG_decFE (fun _ hG=>?_) (fun _ hG=>?_))<;>(try simp -dsimp only [hG,decide_true,decide_false,not_true_eq_false,not_false_eq_true])<;>clear hG))<;>(try simp -dsimp (disch:=first|omega|(simp only [go_sem];omega)) only [go_sem,seval,Nat.reduceEqDiff,Nat.reduceLeDiff]))|simp -dsimp (disch:=first|omega|(simp only [go_sem];omega)) only [go_sem,seval,Nat.reduceEqDiff,Nat.reduceLeDiff]))
        rw [show List.map eI lost ++ [D.int .i64 (k:Int)]=(lost ++ [(k:Int)]).map eI by rw [List.map_append];rfl]
        refine⟨_,_,?_,stle,k+1,lost ++ [(k:Int)],_,G4,by omega,rfl,by rw [hstep],by rw [hstep],by simp;omega,by rw [hstep];exact hs4,rfl⟩
        omega
      · have he2':(e2=0)=False:=eq_false he2
        have hRk:=hRk (by rw [hstep];exact he2)
        rw [hstep] at hRk
        simp only at hRk
        rw [hRk]
        refine goS trivial ?_
        (repeat' (first|(with_reducible first|refine W.seq ?_|refine W.block ?_)|((first|(with_reducible first|refine W.reg ?_|refine W.skip ?_|refine W.exit ?_|refine W.ret ?_|refine W.ifc ?_)|((with_reducible first|refine wG_decE (fun _ hG=>?_) (fun _ hG=>?_)|refine wG_decFE (fun _ hG=>?_) (fun _ hG=>?_))<;>(try simp -dsimp only [hG,decide_true,decide_false,not_true_eq_false,not_false_eq_true])<;>clear hG))<;>(try simp -dsimp (disch:=first|omega|(simp only [go_sem];omega)) only [go_sem,seval,Nat.reduceEqDiff,Nat.reduceLeDiff,he2']))|simp -dsimp (disch:=first|omega|(simp only [go_sem];omega)) only [go_sem,seval,Nat.reduceEqDiff,Nat.reduceLeDiff,he2']))
        (apply Fin.eq;(focus (simp -dsimp (disch:=first|omega|(simp only [go_sem];omega)) only [go_sem,seval,Nat.reduceEqDiff,Nat.reduceLeDiff]<;>rfl)))
        exact⟨rfl,_,⟨.inr ⟨he2,rfl⟩,rfl⟩,hs4⟩
    all_goals
     have hbl:(bt < 0)=False:=eq_false (by omega)
     have ho1:open1 d1 first k=((healR d1 best other).1,false,(healR d1 best other).2):=by
      unfold open1;rw [hr];simp only;rw [if_neg (by simp),if_pos hg]
     rw [← hx] at ho1
     rw [ho1] at hstep
     obtain⟨d2,e2⟩:=x
     simp only [Bool.false_eq_true,if_false] at hstep
     simp only at hs3 ⊢
     by_cases he2:e2=0
     · subst he2
       refine goS trivial ?_
       (repeat' (first|(with_reducible first|refine W.seq ?_|refine W.block ?_)|((first|(with_reducible first|refine W.reg ?_|refine W.skip ?_|refine W.exit ?_|refine W.ret ?_|refine W.ifc ?_)|((with_reducible first|refine wG_decE (fun _ hG=>?_) (fun _ hG=>?_)|refine wG_decFE (fun _ hG=>?_) (fun _ hG=>?_))<;>(try simp -dsimp only [hG,decide_true,decide_false,not_true_eq_false,not_false_eq_true])<;>clear hG))<;>(try simp -dsimp (disch:=first|omega|(simp only [go_sem];omega)) only [go_sem,seval,Nat.reduceEqDiff,Nat.reduceLeDiff,sl2,s132,hbl]))|simp -dsimp (disch:=first|omega|(simp only [go_sem];omega)) only [go_sem,seval,Nat.reduceEqDiff,Nat.reduceLeDiff,sl2,s132,hbl]))
       refine⟨_,_,?_,stle,k+1,lost,_,G3,by omega,rfl,by rw [hstep],by rw [hstep],by omega,by rw [hstep];exact hs3,rfl⟩
       omega
     · have he2':(e2=0)=False:=eq_false he2
       have hRk:=hRk (by rw [hstep];exact he2)
       rw [hstep] at hRk
       simp only at hRk
       rw [hRk]
       refine goS trivial ?_
       (repeat' (first|(with_reducible first|refine W.seq ?_|refine W.block ?_)|((first|(with_reducible first|refine W.reg ?_|refine W.skip ?_|refine W.exit ?_|refine W.ret ?_|refine W.ifc ?_)|((with_reducible first|refine wG_decE (fun _ hG=>?_) (fun _ hG=>?_)|refine wG_decFE (fun _ hG=>?_) (fun _ hG=>?_))<;>(try simp -dsimp only [hG,decide_true,decide_false,not_true_eq_false,not_false_eq_true])<;>clear hG))<;>(try simp -dsimp (disch:=first|omega|(simp only [go_sem];omega)) only [go_sem,seval,Nat.reduceEqDiff,Nat.reduceLeDiff,sl2,s132,hbl,he2']))|simp -dsimp (disch:=first|omega|(simp only [go_sem];omega)) only [go_sem,seval,Nat.reduceEqDiff,Nat.reduceLeDiff,sl2,s132,hbl,he2']))
       (apply Fin.eq;(focus (simp -dsimp (disch:=first|omega|(simp only [go_sem];omega)) only [go_sem,seval,Nat.reduceEqDiff,Nat.reduceLeDiff]<;>rfl)))
       exact⟨rfl,_,⟨.inr ⟨he2,rfl⟩,rfl⟩,hs3⟩
 · obtain rfl:k=m:=by omega
   have hRR:openR d first k=openN d first k:=by
    unfold openR
    rw [if_neg (by rw [hp];simp),Int.toNat_natCast,if_neg (by rw [he];simp)]
   rw [hRR,← hlost]
   (repeat' (first|(with_reducible first|refine W.seq ?_|refine W.block ?_)|((first|(with_reducible first|refine W.reg ?_|refine W.skip ?_|refine W.exit ?_|refine W.ret ?_|refine W.ifc ?_)|((with_reducible first|refine wG_decE (fun _ hG=>?_) (fun _ hG=>?_)|refine wG_decFE (fun _ hG=>?_) (fun _ hG=>?_))<;>(try simp -dsimp only [hG,decide_true,decide_false,not_true_eq_false,not_false_eq_true])<;>clear hG))<;>(try simp -dsimp (disch:=first|omega|(simp only [go_sem];omega)) only [go_sem,seval,Nat.reduceEqDiff,Nat.reduceLeDiff]))|simp -dsimp (disch:=first|omega|(simp only [go_sem];omega)) only [go_sem,seval,Nat.reduceEqDiff,Nat.reduceLeDiff]))
   (apply Fin.eq;(focus (simp -dsimp (disch:=first|omega|(simp only [go_sem];omega)) only [go_sem,seval,Nat.reduceEqDiff,Nat.reduceLeDiff]<;>rfl)))
   exact⟨rfl,_,⟨.inl ⟨he,rfl⟩,rfl⟩,hs2⟩
end Go.Proofs.Ytioojmlhmhgeeaa
/-
 Layer 22 (slots): the slots of the specification: bytes,Get.
 Conditions: of each contract as it says.
-/
namespace Go.Proofs.Ytioojmlhmhgeeaa
open Go Go.E2 C22
set_option linter.unusedSimpArgs false
set_option maxHeartbeats 2000000
theorem bytesOf_len (s:Sec) (h:byteAt s 36≤55):(bytesOf s).length=byteAt s 36:=by
 unfold bytesOf
 rw [List.length_append,List.length_take,List.length_take,List.length_drop,List.length_drop,s.2]
 omega
theorem bytesOf_get (s:Sec) (h:byteAt s 36≤55) {k:Nat} (hk:k < byteAt s 36):(bytesOf s)[k]?=if k < 28 then s.1[4+k]? else s.1[37+(k - 28)]?:=by
 unfold bytesOf
 have hl:(List.take (min (byteAt s 36) 28) (List.drop 4 s.1)).length=min (byteAt s 36) 28:=by
  rw [List.length_take,List.length_drop,s.2];omega
 by_cases h28:k < 28
 · rw [if_pos h28,List.getElem?_append_left (by rw [hl];omega),List.getElem?_take_of_lt (by omega),List.getElem?_drop]
 · rw [if_neg h28,List.getElem?_append_right (by rw [hl];omega),hl,show min (byteAt s 36) 28=28 by omega,List.getElem?_take_of_lt (by omega),List.getElem?_drop]
theorem rbytes_ok (s:Sec) (h:byteAt s 36≤55):CallP Try.prog f_zz25 [eS s] (·=.d (.str (bytesOf s))):=by
 refine CallP.of_deep (callT_of_W fol zz25_cp ?_)
 have h36:=byte_at s (i:=36) (by decide)
 have hbl:=bytesOf_len s h
 refine goS trivial ?_
 (repeat' (first|(with_reducible first|refine W.seq ?_|refine W.block ?_)|((first|(with_reducible first|refine W.reg ?_|refine W.skip ?_|refine W.exit ?_|refine W.ret ?_|refine W.ifc ?_)|((with_reducible first|refine wG_decE (fun _ hG=>?_) (fun _ hG=>?_)|refine wG_decFE (fun _ hG=>?_) (fun _ hG=>?_))<;>(try simp -dsimp only [hG,decide_true,decide_false,not_true_eq_false,not_false_eq_true])<;>clear hG))<;>(try simp -dsimp (disch:=first|omega|(simp only [go_sem];omega)) only [go_sem,seval,Nat.reduceEqDiff,Nat.reduceLeDiff]))|simp -dsimp (disch:=first|omega|(simp only [go_sem];omega)) only [go_sem,seval,Nat.reduceEqDiff,Nat.reduceLeDiff]))
 refine W.loop (fun z st=>∃ (k:Nat) (out:Str),k≤byteAt s 36∧z=byteAt s 36 - k∧out=(bytesOf s).take k ∧
  st=(E [(1,.ptr 0 1 1 0),(3,.own 1 (out.map eB)),(4,.d (.int .i64 k))],HB [(1,⟨1,some (s.1.map eB)⟩)],[],noGh))
  ⟨_,_,stle,0,[],by omega,rfl,rfl,rfl⟩ ?_
 rintro z st ⟨k,out,hk,rfl,hout,rfl⟩
 refine goR h36 ?_
 refine wG_dec (fun g1=>?_) (fun g1=>?_)
 · have hk':k < byteAt s 36:=by omega
   have hg:=bytesOf_get s h hk'
   have hol:out.length=k:=by rw [hout,List.length_take];omega
   by_cases h28:k < 28
   · rw [if_pos h28,List.getElem?_eq_getElem (l:=s.1) (by rw [s.2];omega)] at hg
     obtain⟨v,hv⟩:∃ v,v=s.1[4+k]'(by rw [s.2];omega):=⟨_,rfl⟩
     rw [← hv] at hg
     have hld:(List.drop (4+k) (s.1.map eB)).head?=some (eB v):=by rw [List.head?_drop,List.getElem?_map,List.getElem?_eq_getElem (l:=s.1) (by rw [s.2];omega),hv];rfl
     have t1:((4:Int)+k).toNat=4+k:=by omega
     have h28':((k:Int) < 28)=True:=by first|exact eq_true (by omega)|exact eq_false (by omega)
     have hnx:(bytesOf s).take (k+1)=out ++ [v]:=by rw [List.take_add_one,hg,hout];rfl
     simp only [eB] at hld
     (repeat' (first|(with_reducible first|refine W.seq ?_|refine W.block ?_)|((first|(with_reducible first|refine W.reg ?_|refine W.skip ?_|refine W.exit ?_|refine W.ret ?_|refine W.ifc ?_)|((with_reducible first|refine wG_decE (fun _ hG=>?_) (fun _ hG=>?_)|refine wG_decFE (fun _ hG=>?_) (fun _ hG=>?_))<;>(try simp -dsimp only [hG,decide_true,decide_false,not_true_eq_false,not_false_eq_true])<;>clear hG))<;>(try simp -dsimp (disch:=first|omega|(simp only [go_sem];omega)) only [go_sem,seval,Nat.reduceEqDiff,Nat.reduceLeDiff,h28',hld,t1,Nat.mul_one]))|simp -dsimp (disch:=first|omega|(simp only [go_sem];omega)) only [go_sem,seval,Nat.reduceEqDiff,Nat.reduceLeDiff,h28',hld,t1,Nat.mul_one]))
     rw [show out.map eB ++ [D.int .u8 (v.toNat:Int)]=(out ++ [v]).map eB by rw [List.map_append];rfl]
     refine⟨_,_,?_,stle,k+1,out ++ [v],by omega,rfl,hnx.symm,rfl⟩
     omega
   · rw [if_neg h28,List.getElem?_eq_getElem (l:=s.1) (by rw [s.2];omega)] at hg
     obtain⟨v,hv⟩:∃ v,v=s.1[37+(k - 28)]'(by rw [s.2];omega):=⟨_,rfl⟩
     rw [← hv] at hg
     have hld:(List.drop (37+(k - 28)) (s.1.map eB)).head?=some (eB v):=by rw [List.head?_drop,List.getElem?_map,List.getElem?_eq_getElem (l:=s.1) (by rw [s.2];omega),hv];rfl
     have t1:((37:Int)+k - 28).toNat=37+(k - 28):=by omega
     have h28':((k:Int) < 28)=False:=by first|exact eq_true (by omega)|exact eq_false (by omega)
     have hnx:(bytesOf s).take (k+1)=out ++ [v]:=by rw [List.take_add_one,hg,hout];rfl
     simp only [eB] at hld
     (repeat' (first|(with_reducible first|refine W.seq ?_|refine W.block ?_)|((first|(with_reducible first|refine W.reg ?_|refine W.skip ?_|refine W.exit ?_|refine W.ret ?_|refine W.ifc ?_)|((with_reducible first|refine wG_decE (fun _ hG=>?_) (fun _ hG=>?_)|refine wG_decFE (fun _ hG=>?_) (fun _ hG=>?_))<;>(try simp -dsimp only [hG,decide_true,decide_false,not_true_eq_false,not_false_eq_true])<;>clear hG))<;>(try simp -dsimp (disch:=first|omega|(simp only [go_sem];omega)) only [go_sem,seval,Nat.reduceEqDiff,Nat.reduceLeDiff,h28',hld,t1,Nat.mul_one]))|simp -dsimp (disch:=first|omega|(simp only [go_sem];omega)) only [go_sem,seval,Nat.reduceEqDiff,Nat.reduceLeDiff,h28',hld,t1,Nat.mul_one]))
     rw [show out.map eB ++ [D.int .u8 (v.toNat:Int)]=(out ++ [v]).map eB by rw [List.map_append];rfl]
     refine⟨_,_,?_,stle,k+1,out ++ [v],by omega,rfl,hnx.symm,rfl⟩
     omega
 · obtain rfl:k=byteAt s 36:=by omega
   have he:out=bytesOf s:=by rw [hout,List.take_of_length_le (by omega)]
   subst he
   (repeat' (first|(with_reducible first|refine W.seq ?_|refine W.block ?_)|((first|(with_reducible first|refine W.reg ?_|refine W.skip ?_|refine W.exit ?_|refine W.ret ?_|refine W.ifc ?_)|((with_reducible first|refine wG_decE (fun _ hG=>?_) (fun _ hG=>?_)|refine wG_decFE (fun _ hG=>?_) (fun _ hG=>?_))<;>(try simp -dsimp only [hG,decide_true,decide_false,not_true_eq_false,not_false_eq_true])<;>clear hG))<;>(try simp -dsimp (disch:=first|omega|(simp only [go_sem];omega)) only [go_sem,seval,Nat.reduceEqDiff,Nat.reduceLeDiff]))|simp -dsimp (disch:=first|omega|(simp only [go_sem];omega)) only [go_sem,seval,Nat.reduceEqDiff,Nat.reduceLeDiff]))
   (apply Fin.eq;(focus (simp -dsimp (disch:=first|omega|(simp only [go_sem];omega)) only [go_sem,seval,Nat.reduceEqDiff,Nat.reduceLeDiff]<;>rfl)))
   exact⟨rfl,_,.refl _,rfl⟩
theorem rGet_ok (p:Nat) (d:Dk) (first n i:Int) (h0:0≤first) (h2:first+2*n≤1000000) :
 CallR Try.prog f_zz14 [eSt p first n,.int .i64 i] [RefA p d] (·=.d (.agg [.str (getR d first n i).1,.int .i64 (getR d first n i).2])):=by
 refine callR_of_W fol zz14_cp fun R G σ hs=>?_
 by_cases p1:i < 0
 · have hr:getR d first n i=([],1):=by unfold getR;rw [if_pos (.inl p1)]
   have f1:(i < 0)=True:=eq_true p1
   rw [hr]
   refine goS f1 ?_
   (repeat' (first|(with_reducible first|refine W.seq ?_|refine W.block ?_)|((first|(with_reducible first|refine W.reg ?_|refine W.skip ?_|refine W.exit ?_|refine W.ret ?_|refine W.ifc ?_)|((with_reducible first|refine wG_decE (fun _ hG=>?_) (fun _ hG=>?_)|refine wG_decFE (fun _ hG=>?_) (fun _ hG=>?_))<;>(try simp -dsimp only [hG,decide_true,decide_false,not_true_eq_false,not_false_eq_true])<;>clear hG))<;>(try simp -dsimp (disch:=first|omega|(simp only [go_sem];omega)) only [go_sem,seval,Nat.reduceEqDiff,Nat.reduceLeDiff,f1]))|simp -dsimp (disch:=first|omega|(simp only [go_sem];omega)) only [go_sem,seval,Nat.reduceEqDiff,Nat.reduceLeDiff,f1]))
   (apply Fin.eq;(focus (simp -dsimp (disch:=first|omega|(simp only [go_sem];omega)) only [go_sem,seval,Nat.reduceEqDiff,Nat.reduceLeDiff]<;>rfl)))
   exact⟨rfl,rfl,rfl⟩
 have f1:(i < 0)=False:=eq_false p1
 by_cases p2:n≤i
 · have hr:getR d first n i=([],1):=by unfold getR;rw [if_pos (.inr p2)]
   have f2:(n≤i)=True:=eq_true p2
   rw [hr]
   refine goS (nn f1 f2) ?_
   (repeat' (first|(with_reducible first|refine W.seq ?_|refine W.block ?_)|((first|(with_reducible first|refine W.reg ?_|refine W.skip ?_|refine W.exit ?_|refine W.ret ?_|refine W.ifc ?_)|((with_reducible first|refine wG_decE (fun _ hG=>?_) (fun _ hG=>?_)|refine wG_decFE (fun _ hG=>?_) (fun _ hG=>?_))<;>(try simp -dsimp only [hG,decide_true,decide_false,not_true_eq_false,not_false_eq_true])<;>clear hG))<;>(try simp -dsimp (disch:=first|omega|(simp only [go_sem];omega)) only [go_sem,seval,Nat.reduceEqDiff,Nat.reduceLeDiff,f1,f2]))|simp -dsimp (disch:=first|omega|(simp only [go_sem];omega)) only [go_sem,seval,Nat.reduceEqDiff,Nat.reduceLeDiff,f1,f2]))
   (apply Fin.eq;(focus (simp -dsimp (disch:=first|omega|(simp only [go_sem];omega)) only [go_sem,seval,Nat.reduceEqDiff,Nat.reduceLeDiff]<;>rfl)))
   exact⟨rfl,rfl,rfl⟩
 have f2:(n≤i)=False:=eq_false p2
 have hg:getR d first n i=if (slotR d first i).2.2≠0 then ([],(slotR d first i).2.2) else if (slotR d first i).1.good=false then ([],14) else
  if byteAt (slotR d first i).1.s 36=0 then ([],8) else (bytesOf (slotR d first i).1.s,0):=by unfold getR;rw [if_neg (by omega)]
 have hle:=slotR_le (d:=d) (first:=first) (i:=i)
 have hqs:=(rslot_ok p d first n i h0 (by omega) (by omega)).q hs
 have hv:=slV d first i
 obtain⟨sl,hsl⟩:∃ sl,sl=slotS d first i:=⟨_,rfl⟩
 rw [← hsl] at hqs hv
 unfold eSl at hqs
 rw [hg]
 cases hv with
 | err e he0 hr =>
  rw [hr]
  simp only
  rw [if_pos he0]
  simp only at hqs
  have so:=slC_one zFd zFd 0 e
  have sl:=slC_len zFd zFd 0 e
  have s133:=slC_133 zFd zFd 0 e
  have he':(e=0)=False:=eq_false he0
  refine goS (nn f1 f2) ?_
  (repeat' (first|(with_reducible first|refine W.seq ?_|refine W.block ?_)|((first|(with_reducible first|refine W.reg ?_|refine W.skip ?_|refine W.exit ?_|refine W.ret ?_|refine W.ifc ?_)|(apply wC_Q (hqs);(focus (simp -dsimp (disch:=first|omega|(simp only [go_sem];omega)) only [go_sem,seval,Nat.reduceEqDiff,Nat.reduceLeDiff]<;>rfl));rintro _ rfl)|((with_reducible first|refine wG_decE (fun _ hG=>?_) (fun _ hG=>?_)|refine wG_decFE (fun _ hG=>?_) (fun _ hG=>?_))<;>(try simp -dsimp only [hG,decide_true,decide_false,not_true_eq_false,not_false_eq_true])<;>clear hG))<;>(try simp -dsimp (disch:=first|omega|(simp only [go_sem];omega)) only [go_sem,seval,Nat.reduceEqDiff,Nat.reduceLeDiff,f1,f2,so,sl,s133,he']))|simp -dsimp (disch:=first|omega|(simp only [go_sem];omega)) only [go_sem,seval,Nat.reduceEqDiff,Nat.reduceLeDiff,f1,f2,so,sl,s133,he']))
  (apply Fin.eq;(focus (simp -dsimp (disch:=first|omega|(simp only [go_sem];omega)) only [go_sem,seval,Nat.reduceEqDiff,Nat.reduceLeDiff]<;>rfl)))
  exact⟨rfl,rfl,rfl⟩
 | good a b best other bt ha hb hr hbt hcs hheal =>
  rw [hr] at hle ⊢
  simp only at hle ⊢
  rw [if_neg (by simp)]
  simp only at hqs
  have so:=slC_one (a,0) (b,0) bt 0
  have sl2:=slC_len (a,0) (b,0) bt 0
  have s132:=slC_132 (a,0) (b,0) bt 0
  have s133:=slC_133 (a,0) (b,0) bt 0
  rcases hcs with ⟨hb1,hg⟩|⟨hb1,hba,hg⟩|⟨hb1,hba,hg⟩
  · have hbl:(bt < 0)=True:=eq_true (by omega)
    rw [if_pos hg]
    refine goS (nn f1 f2) ?_
    (repeat' (first|(with_reducible first|refine W.seq ?_|refine W.block ?_)|((first|(with_reducible first|refine W.reg ?_|refine W.skip ?_|refine W.exit ?_|refine W.ret ?_|refine W.ifc ?_)|(apply wC_Q (hqs);(focus (simp -dsimp (disch:=first|omega|(simp only [go_sem];omega)) only [go_sem,seval,Nat.reduceEqDiff,Nat.reduceLeDiff]<;>rfl));rintro _ rfl)|((with_reducible first|refine wG_decE (fun _ hG=>?_) (fun _ hG=>?_)|refine wG_decFE (fun _ hG=>?_) (fun _ hG=>?_))<;>(try simp -dsimp only [hG,decide_true,decide_false,not_true_eq_false,not_false_eq_true])<;>clear hG))<;>(try simp -dsimp (disch:=first|omega|(simp only [go_sem];omega)) only [go_sem,seval,Nat.reduceEqDiff,Nat.reduceLeDiff,f1,f2,so,sl2,s132,s133,hbl]))|simp -dsimp (disch:=first|omega|(simp only [go_sem];omega)) only [go_sem,seval,Nat.reduceEqDiff,Nat.reduceLeDiff,f1,f2,so,sl2,s132,s133,hbl]))
    (apply Fin.eq;(focus (simp -dsimp (disch:=first|omega|(simp only [go_sem];omega)) only [go_sem,seval,Nat.reduceEqDiff,Nat.reduceLeDiff]<;>rfl)))
    exact⟨rfl,rfl,rfl⟩
  · rw [hba] at hg hle ⊢
    rw [if_neg (by rw [hg];simp)]
    have hbl:(bt < 0)=False:=eq_false (by omega)
    have h55:=hle hg
    have hcall:=rbytes_ok a.s h55
    have hbl2:=bytesOf_len a.s h55
    have hld:List.take 64 (slC (a,0) (b,0) bt 0)=a.s.1.map eB:=by
     unfold slC
     rw [List.append_assoc,List.take_append_of_le_length (by rw [fdC_len];decide)];exact fdC_0 (a,0)
    rw [hb1] at so sl2 s132 s133 hqs hld
    have hbl:((0:Int) < 0)=False:=by decide
    by_cases hz:byteAt a.s 36=0
    · rw [if_pos hz]
      have hnil:bytesOf a.s=[]:=List.length_eq_zero_iff.1 (by omega)
      rw [hnil] at hcall
      refine goS (nn f1 f2) ?_
      (repeat' (first|(with_reducible first|refine W.seq ?_|refine W.block ?_)|((first|(with_reducible first|refine W.reg ?_|refine W.skip ?_|refine W.exit ?_|refine W.ret ?_|refine W.ifc ?_)|(apply wC_Q (hqs);(focus (simp -dsimp (disch:=first|omega|(simp only [go_sem];omega)) only [go_sem,seval,Nat.reduceEqDiff,Nat.reduceLeDiff]<;>rfl));rintro _ rfl)|(apply wC_P (hcall);(focus (simp -dsimp (disch:=first|omega|(simp only [go_sem];omega)) only [go_sem,seval,Nat.reduceEqDiff,Nat.reduceLeDiff]<;>rfl));rintro _ rfl)|((with_reducible first|refine wG_decE (fun _ hG=>?_) (fun _ hG=>?_)|refine wG_decFE (fun _ hG=>?_) (fun _ hG=>?_))<;>(try simp -dsimp only [hG,decide_true,decide_false,not_true_eq_false,not_false_eq_true])<;>clear hG))<;>(try simp -dsimp (disch:=first|omega|(simp only [go_sem];omega)) only [go_sem,seval,Nat.reduceEqDiff,Nat.reduceLeDiff,f1,f2,so,sl2,s132,s133,hbl,hld]))|simp -dsimp (disch:=first|omega|(simp only [go_sem];omega)) only [go_sem,seval,Nat.reduceEqDiff,Nat.reduceLeDiff,f1,f2,so,sl2,s132,s133,hbl,hld]))
      (apply Fin.eq;(focus (simp -dsimp (disch:=first|omega|(simp only [go_sem];omega)) only [go_sem,seval,Nat.reduceEqDiff,Nat.reduceLeDiff]<;>rfl)))
      exact⟨rfl,rfl,rfl⟩
    · rw [if_neg hz]
      have hnil:(bytesOf a.s=[])=False:=eq_false (fun e=>hz (by rw [← hbl2,e];rfl))
      refine goS (nn f1 f2) ?_
      (repeat' (first|(with_reducible first|refine W.seq ?_|refine W.block ?_)|((first|(with_reducible first|refine W.reg ?_|refine W.skip ?_|refine W.exit ?_|refine W.ret ?_|refine W.ifc ?_)|(apply wC_Q (hqs);(focus (simp -dsimp (disch:=first|omega|(simp only [go_sem];omega)) only [go_sem,seval,Nat.reduceEqDiff,Nat.reduceLeDiff]<;>rfl));rintro _ rfl)|(apply wC_P (hcall);(focus (simp -dsimp (disch:=first|omega|(simp only [go_sem];omega)) only [go_sem,seval,Nat.reduceEqDiff,Nat.reduceLeDiff]<;>rfl));rintro _ rfl)|((with_reducible first|refine wG_decE (fun _ hG=>?_) (fun _ hG=>?_)|refine wG_decFE (fun _ hG=>?_) (fun _ hG=>?_))<;>(try simp -dsimp only [hG,decide_true,decide_false,not_true_eq_false,not_false_eq_true])<;>clear hG))<;>(try simp -dsimp (disch:=first|omega|(simp only [go_sem];omega)) only [go_sem,seval,Nat.reduceEqDiff,Nat.reduceLeDiff,f1,f2,so,sl2,s132,s133,hbl,hld,hnil]))|simp -dsimp (disch:=first|omega|(simp only [go_sem];omega)) only [go_sem,seval,Nat.reduceEqDiff,Nat.reduceLeDiff,f1,f2,so,sl2,s132,s133,hbl,hld,hnil]))
      (apply Fin.eq;(focus (simp -dsimp (disch:=first|omega|(simp only [go_sem];omega)) only [go_sem,seval,Nat.reduceEqDiff,Nat.reduceLeDiff]<;>rfl)))
      exact⟨rfl,rfl,rfl⟩
  · rw [hba] at hg hle ⊢
    rw [if_neg (by rw [hg];simp)]
    have hbl:(bt < 0)=False:=eq_false (by omega)
    have h55:=hle hg
    have hcall:=rbytes_ok b.s h55
    have hbl2:=bytesOf_len b.s h55
    have hld:List.take 64 (List.drop 66 (slC (a,0) (b,0) bt 0))=b.s.1.map eB:=by
     unfold slC
     rw [List.append_assoc,List.drop_left' (fdC_len (a,0)),List.take_append_of_le_length (by rw [fdC_len];decide)];exact fdC_0 (b,0)
    rw [hb1] at so sl2 s132 s133 hqs hld
    have hbl:((1:Int) < 0)=False:=by decide
    by_cases hz:byteAt b.s 36=0
    · rw [if_pos hz]
      have hnil:bytesOf b.s=[]:=List.length_eq_zero_iff.1 (by omega)
      rw [hnil] at hcall
      refine goS (nn f1 f2) ?_
      (repeat' (first|(with_reducible first|refine W.seq ?_|refine W.block ?_)|((first|(with_reducible first|refine W.reg ?_|refine W.skip ?_|refine W.exit ?_|refine W.ret ?_|refine W.ifc ?_)|(apply wC_Q (hqs);(focus (simp -dsimp (disch:=first|omega|(simp only [go_sem];omega)) only [go_sem,seval,Nat.reduceEqDiff,Nat.reduceLeDiff]<;>rfl));rintro _ rfl)|(apply wC_P (hcall);(focus (simp -dsimp (disch:=first|omega|(simp only [go_sem];omega)) only [go_sem,seval,Nat.reduceEqDiff,Nat.reduceLeDiff]<;>rfl));rintro _ rfl)|((with_reducible first|refine wG_decE (fun _ hG=>?_) (fun _ hG=>?_)|refine wG_decFE (fun _ hG=>?_) (fun _ hG=>?_))<;>(try simp -dsimp only [hG,decide_true,decide_false,not_true_eq_false,not_false_eq_true])<;>clear hG))<;>(try simp -dsimp (disch:=first|omega|(simp only [go_sem];omega)) only [go_sem,seval,Nat.reduceEqDiff,Nat.reduceLeDiff,f1,f2,so,sl2,s132,s133,hbl,hld]))|simp -dsimp (disch:=first|omega|(simp only [go_sem];omega)) only [go_sem,seval,Nat.reduceEqDiff,Nat.reduceLeDiff,f1,f2,so,sl2,s132,s133,hbl,hld]))
      (apply Fin.eq;(focus (simp -dsimp (disch:=first|omega|(simp only [go_sem];omega)) only [go_sem,seval,Nat.reduceEqDiff,Nat.reduceLeDiff]<;>rfl)))
      exact⟨rfl,rfl,rfl⟩
    · rw [if_neg hz]
      have hnil:(bytesOf b.s=[])=False:=eq_false (fun e=>hz (by rw [← hbl2,e];rfl))
      refine goS (nn f1 f2) ?_
      (repeat' (first|(with_reducible first|refine W.seq ?_|refine W.block ?_)|((first|(with_reducible first|refine W.reg ?_|refine W.skip ?_|refine W.exit ?_|refine W.ret ?_|refine W.ifc ?_)|(apply wC_Q (hqs);(focus (simp -dsimp (disch:=first|omega|(simp only [go_sem];omega)) only [go_sem,seval,Nat.reduceEqDiff,Nat.reduceLeDiff]<;>rfl));rintro _ rfl)|(apply wC_P (hcall);(focus (simp -dsimp (disch:=first|omega|(simp only [go_sem];omega)) only [go_sem,seval,Nat.reduceEqDiff,Nat.reduceLeDiff]<;>rfl));rintro _ rfl)|((with_reducible first|refine wG_decE (fun _ hG=>?_) (fun _ hG=>?_)|refine wG_decFE (fun _ hG=>?_) (fun _ hG=>?_))<;>(try simp -dsimp only [hG,decide_true,decide_false,not_true_eq_false,not_false_eq_true])<;>clear hG))<;>(try simp -dsimp (disch:=first|omega|(simp only [go_sem];omega)) only [go_sem,seval,Nat.reduceEqDiff,Nat.reduceLeDiff,f1,f2,so,sl2,s132,s133,hbl,hld,hnil]))|simp -dsimp (disch:=first|omega|(simp only [go_sem];omega)) only [go_sem,seval,Nat.reduceEqDiff,Nat.reduceLeDiff,f1,f2,so,sl2,s132,s133,hbl,hld,hnil]))
      (apply Fin.eq;(focus (simp -dsimp (disch:=first|omega|(simp only [go_sem];omega)) only [go_sem,seval,Nat.reduceEqDiff,Nat.reduceLeDiff]<;>rfl)))
      exact⟨rfl,rfl,rfl⟩
end Go.Proofs.Ytioojmlhmhgeeaa
