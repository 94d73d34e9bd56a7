/-
 Layer 39 (catalog),continued: the examples of the documentation.
 Conditions: of each contract as it says.
-/
import Derived.Test.YtgoleoihpgmcbaaGreatG39t
namespace Go.Proofs.YtgoleoihpgmcbaaGreat
open Go Go.E2 C39
set_option linter.unusedSimpArgs false
set_option maxHeartbeats 4000000
@[go_sem] theorem eO_all (l:List Co):(l.map eO).all (sizeOk 7)=true:=by simp [List.all_map,Function.comp_def,eO,sizeOk,D.cells,D.one]
def doneC:Ct→List Co→Ct × Bool
 | c,[]=>(c,true)
 | c,o::r=>if (doC c o).2=0 then doneC (doC c o).1 r else (c,false)
theorem do_small {c:Ct} (h:smallC c) (o:Co):smallC (doC c o).1:=by
 by_cases h0:chk c=0
 · exact Valid.small (do_valid ((chk_iff c).1 h0) o)
 · unfold doC; rw [if_pos h0]; exact h
theorem put_law (name:Str) (n t:Int):CallP Tryz.prog f_zz50 [.str name,eI n,eI t] (·=.d (eO ⟨2,0,0,n,t,0,name⟩)):=by
 refine callP_of_W fol zz50_cp ?_
 refine goS trivial ?_
 refine goR trivial ?_
 exact Fin.p rfl rfl
theorem done_ok (c:Ct) (l:List Co) (hs:smallC c) (hl:l.length≤1000):CallP Tryz.prog f_zz38 [eC c,.list (l.map eO)] (·=.tup [eC (doneC c l).1,.bool (doneC c l).2]):=by
 refine callP_of_W fol zz38_cp ?_
 refine goS trivial ?_
 refine goR trivial ?_
 refine W.loop (fun m st=>∃ (k:Nat) (d:Ct) (b7:Blk),k≤l.length∧m=l.length - k∧smallC d∧doneC c l=doneC d (l.drop k) ∧
  st=(E [(1,.d (.list (l.map eO))),(2,.ptr 0 2 1 0),(4,.ptr 0 4 1 0),(6,.d (eI k))],HB [(2,⟨1,some (cC d)⟩),(4,⟨1,some [eI 0,.nilS,.nilS]⟩),(7,b7)],[],noGh))
  ⟨_,_,stleB (HB_pad [(2,_),(4,_)] [7] rfl).symm,0,c,_,by omega,rfl,hs,rfl,rfl⟩ ?_
 rintro m st ⟨k,d,b7,hk,rfl,hd,hf,rfl⟩
 refine goR trivial ?_
 refine wG_dec (fun h1=>?_) (fun h1=>?_)
 · have hk':k < l.length:=by omega
   rw [drop_at hk',doneC] at hf
   have hdo:=Do_ok d l[k] hd
   (refine goX1 trivial (hdo) ?_; (repeat' (with_reducible apply Br.mk<;>intro _)))
   · rename_i he
     rw [if_neg he] at hf
     exact Fin.p rfl (by rw [hf]; rfl)
   · rename_i he
     rw [if_pos (Classical.not_not.1 he)] at hf
     refine ⟨_,_,?_,stleB rfl,k + 1,_,_,hk',rfl,do_small hd _,hf,rfl⟩
     omega
 · obtain rfl:k=l.length:=by omega
   rw [drop_end,doneC] at hf
   refine goR trivial ?_
   exact Fin.p rfl (by rw [hf]; rfl)
def B0:Ct:=⟨0,[],[]⟩
def B1:Ct:=⟨0,[⟨[97],1,1,9⟩,⟨[97],2,2,5⟩],[⟨7,[⟨[97],1,1,9⟩,⟨[97],2,2,5⟩]⟩]⟩
def C1:Ct:=⟨6,[⟨[97],1,1,9⟩,⟨[97],2,3,9⟩],[⟨7,[⟨[97],1,1,9⟩]⟩]⟩
def C2:Ct:=⟨6,[⟨[97],1,1,20⟩,⟨[97],2,3,9⟩,⟨[98],1,1,20⟩],[⟨7,[⟨[97],1,1,20⟩]⟩]⟩
def C3:Ct:=⟨6,[⟨[97],2,3,9⟩],[⟨7,[]⟩]⟩
def D1:Ct:=⟨0,[⟨[97],2,3,9⟩],[]⟩
def D2:Ct:=⟨0,[⟨[96],2,3,9⟩],[]⟩
def L1:Ln:=⟨2,3,9,[25]⟩
theorem v1:doneC B0 [⟨2,0,0,1,9,0,[97]⟩,⟨2,0,0,2,5,0,[97]⟩,⟨6,0,0,0,0,7,[]⟩]=(B1,true):=by decide +kernel
theorem v2:doneC B1 [⟨1,6,0,0,0,0,[]⟩,⟨2,0,0,3,9,0,[97]⟩]=(C1,true):=by decide +kernel
theorem v3:findC C1 [97] 0=(⟨[97],2,3,9⟩,0):=by decide +kernel
theorem v4:findC C1 [97] 3=(noEn,8):=by decide +kernel
theorem v5:listC C1 [98]=([],0):=by decide +kernel
theorem v6:doC C1 ⟨2,0,0,1,10,0,[98]⟩=(C1,4):=by decide +kernel
theorem v7:doC C1 ⟨2,0,0,1,5,0,[98]⟩=(C1,18):=by decide +kernel
theorem v8:doneC C1 [⟨2,0,0,1,9,0,[98]⟩,⟨5,0,0,1,20,0,[]⟩]=(C2,true):=by decide +kernel
theorem v9:doC C2 ⟨5,0,0,2,20,0,[]⟩=(C2,8):=by decide +kernel
theorem v10:doC C2 ⟨5,0,0,1,20,0,[]⟩=(C2,3):=by decide +kernel
theorem v11:doneC C2 [⟨4,0,0,1,0,0,[]⟩]=(C3,true):=by decide +kernel
theorem v12:exportC C3 [[120]]=([L1],0):=by decide +kernel
theorem v13:importC B0 [L1] [[120]]=(D1,1,0):=by decide +kernel
theorem v14:importC B0 [L1] [[]]=(B0,0,0):=by decide +kernel
theorem v15:importC B0 [L1] [[121]]=(D2,1,0):=by decide +kernel
theorem sB0:smallC B0:=by unfold smallC B0; decide
theorem sB1:smallC B1:=by unfold smallC B1; decide
theorem sC1:smallC C1:=by unfold smallC C1; decide
theorem sC2:smallC C2:=by unfold smallC C2; decide
theorem sC3:smallC C3:=by unfold smallC C3; decide
theorem p1:CallP Tryz.prog f_zz38 [.agg [.int .i64 0,.nilS,.nilS],.list ([(⟨2,0,0,1,9,0,[97]⟩:Co),⟨2,0,0,2,5,0,[97]⟩,⟨6,0,0,0,0,7,[]⟩].map eO)] (·=.tup [eC B1,.bool true]):=by
 have h:=done_ok B0 [⟨2,0,0,1,9,0,[97]⟩,⟨2,0,0,2,5,0,[97]⟩,⟨6,0,0,0,0,7,[]⟩] sB0 (by decide)
 rw [v1] at h
 exact h.args (.cons (.inr rfl) (.cons (.inl rfl) .nil))
theorem p2:CallP Tryz.prog f_zz38 [eC B1,.list ([(⟨1,6,0,0,0,0,[]⟩:Co),⟨2,0,0,3,9,0,[97]⟩].map eO)] (·=.tup [eC C1,.bool true]):=by
 have h:=done_ok B1 [⟨1,6,0,0,0,0,[]⟩,⟨2,0,0,3,9,0,[97]⟩] sB1 (by decide)
 rw [v2] at h; exact h
theorem p3:CallP Tryz.prog f_zz83 [eC C1,.str [97],.int .i64 0] (·=.tup [eE ⟨[97],2,3,9⟩,eI 0]):=by
 have h:=Find_ok C1 [97] 0 sC1
 rw [v3] at h; exact h
theorem p4:CallP Tryz.prog f_zz83 [eC C1,.str [97],.int .i64 3] (·=.tup [eE noEn,eI 8]):=by
 have h:=Find_ok C1 [97] 3 sC1
 rw [v4] at h; exact h
theorem p5:CallP Tryz.prog f_zz84 [eC C1,.str [98]] (·=.tup [.list [],eI 0]):=by
 have h:=List_ok C1 [98] sC1
 rw [v5] at h; exact h
theorem p6:CallP Tryz.prog f_zz95 [eC C1,eO ⟨2,0,0,1,10,0,[98]⟩] (·=.tup [eC C1,eI 4]):=by
 have h:=Do_ok C1 ⟨2,0,0,1,10,0,[98]⟩ sC1
 rw [v6] at h; exact h
theorem p7:CallP Tryz.prog f_zz95 [eC C1,eO ⟨2,0,0,1,5,0,[98]⟩] (·=.tup [eC C1,eI 18]):=by
 have h:=Do_ok C1 ⟨2,0,0,1,5,0,[98]⟩ sC1
 rw [v7] at h; exact h
theorem p8:CallP Tryz.prog f_zz38 [eC C1,.list ([(⟨2,0,0,1,9,0,[98]⟩:Co),⟨5,0,0,1,20,0,[]⟩].map eO)] (·=.tup [eC C2,.bool true]):=by
 have h:=done_ok C1 [⟨2,0,0,1,9,0,[98]⟩,⟨5,0,0,1,20,0,[]⟩] sC1 (by decide)
 rw [v8] at h; exact h
theorem p9:CallP Tryz.prog f_zz95 [eC C2,eO ⟨5,0,0,2,20,0,[]⟩] (·=.tup [eC C2,eI 8]):=by
 have h:=Do_ok C2 ⟨5,0,0,2,20,0,[]⟩ sC2
 rw [v9] at h; exact h
theorem p10:CallP Tryz.prog f_zz95 [eC C2,eO ⟨5,0,0,1,20,0,[]⟩] (·=.tup [eC C2,eI 3]):=by
 have h:=Do_ok C2 ⟨5,0,0,1,20,0,[]⟩ sC2
 rw [v10] at h; exact h
theorem p11:CallP Tryz.prog f_zz38 [eC C2,.list ([(⟨4,0,0,1,0,0,[]⟩:Co)].map eO)] (·=.tup [eC C3,.bool true]):=by
 have h:=done_ok C2 [⟨4,0,0,1,0,0,[]⟩] sC2 (by decide)
 rw [v11] at h; exact h
theorem p12:CallP Tryz.prog f_zz62 [eC C3,.list [.str [120]]] (·=.tup [.agg [.list [eN L1]],eI 0]):=by
 have h:=Export_ok C3 [[120]] sC3 (by decide) (by decide)
 rw [v12] at h; exact h
theorem p13:CallP Tryz.prog f_zz63 [.agg [.int .i64 0,.nilS,.nilS],.agg [.list [eN L1]],.list [.str [120]]] (·=.tup [eC D1,eI 1,eI 0]):=by
 have h:=Import_ok B0 [L1] [[120]] sB0 (by decide) (by decide) (by decide)
 rw [v13] at h
 exact h.args (.cons (.inr rfl) (.cons (.inl rfl) (.cons (.inl rfl) .nil)))
theorem p14:CallP Tryz.prog f_zz63 [.agg [.int .i64 0,.nilS,.nilS],.agg [.list [eN L1]],.list [.str []]] (·=.tup [eC B0,eI 0,eI 0]):=by
 have h:=Import_ok B0 [L1] [[]] sB0 (by decide) (by decide) (by decide)
 rw [v14] at h
 exact h.args (.cons (.inr rfl) (.cons (.inl rfl) (.cons (.inl rfl) .nil)))
theorem p15:CallP Tryz.prog f_zz63 [.agg [.int .i64 0,.nilS,.nilS],.agg [.list [eN L1]],.list [.str [121]]] (·=.tup [eC D2,eI 1,eI 0]):=by
 have h:=Import_ok B0 [L1] [[121]] sB0 (by decide) (by decide) (by decide)
 rw [v15] at h
 exact h.args (.cons (.inr rfl) (.cons (.inl rfl) (.cons (.inl rfl) .nil)))
theorem p16:CallP Tryz.prog f_zz19 [.list (D1.ents.map eE),.list (C3.ents.map eE)] (·=.d (.bool true)):=by
 have h:=SameE_ok D1.ents C3.ents (by decide) (by decide)
 rw [show decide (D1.ents=C3.ents)=true by decide] at h; exact h
theorem vIaddr_c0 (sz:Nat) (e:D) (es:List D) (k:IntKind):vIaddr sz (some (.list (e::es))) (.d (.int k 0))=if (e::es).all (sizeOk sz)=true then some (.cptr e.cells) else none:=by
 by_cases h:(e::es).all (sizeOk sz)=true
 · rw [if_pos h,vIaddr_list sz _ k 0 h (by omega) (by simp)]; rfl
 · rw [if_neg h]; simp only [vIaddr,h,false_and,if_false]; rfl
theorem vIaddr_c1 (sz:Nat) (e f:D) (es:List D) (k:IntKind):vIaddr sz (some (.list (e::f::es))) (.d (.int k 1))=if (e::f::es).all (sizeOk sz)=true then some (.cptr f.cells) else none:=by
 by_cases h:(e::f::es).all (sizeOk sz)=true
 · rw [if_pos h,vIaddr_list sz _ k 1 h (by omega) (by simp)]; rfl
 · rw [if_neg h]; simp only [vIaddr,h,false_and,if_false]; rfl
theorem vIaddr_c2 (sz:Nat) (e f g:D) (es:List D) (k:IntKind):vIaddr sz (some (.list (e::f::g::es))) (.d (.int k 2))=if (e::f::g::es).all (sizeOk sz)=true then some (.cptr g.cells) else none:=by
 by_cases h:(e::f::g::es).all (sizeOk sz)=true
 · rw [if_pos h,vIaddr_list sz _ k 2 h (by omega) (by simp)]; rfl
 · rw [if_neg h]; simp only [vIaddr,h,false_and,if_false]; rfl
theorem c2:((2:Nat):Int)=2:=rfl
theorem c3:((3:Nat):Int)=3:=rfl
set_option maxRecDepth 100000 in
theorem sanity_ok:CallP Tryz.prog f_zz22 [] (·=.d (.bool true)):=by
 refine callP_of_W fol zz22_cp ?_
 refine goS trivial ?_
 (repeat' (first|(with_reducible first|refine W.seq ?_|refine W.block ?_|refine W.scope ?_)|((first|(with_reducible first|refine W.reg ?_|refine W.skip ?_|refine W.exit ?_|refine W.ret ?_|refine W.ifc ?_)|(apply wC_P (put_law [97] 1 9); (focus (simp -dsimp (disch:=first|omega|(simp only [go_sem]; omega)) only [go_sem,seval,Nat.reduceEqDiff,Nat.reduceLeDiff]<;>rfl)); rintro _ rfl)|(apply wC_P (put_law [97] 2 5); (focus (simp -dsimp (disch:=first|omega|(simp only [go_sem]; omega)) only [go_sem,seval,Nat.reduceEqDiff,Nat.reduceLeDiff]<;>rfl)); rintro _ rfl)|(apply wC_P (put_law [97] 3 9); (focus (simp -dsimp (disch:=first|omega|(simp only [go_sem]; omega)) only [go_sem,seval,Nat.reduceEqDiff,Nat.reduceLeDiff]<;>rfl)); rintro _ rfl)|(apply wC_P (put_law [98] 1 10); (focus (simp -dsimp (disch:=first|omega|(simp only [go_sem]; omega)) only [go_sem,seval,Nat.reduceEqDiff,Nat.reduceLeDiff]<;>rfl)); rintro _ rfl)|(apply wC_P (put_law [98] 1 5); (focus (simp -dsimp (disch:=first|omega|(simp only [go_sem]; omega)) only [go_sem,seval,Nat.reduceEqDiff,Nat.reduceLeDiff]<;>rfl)); rintro _ rfl)|(apply wC_P (put_law [98] 1 9); (focus (simp -dsimp (disch:=first|omega|(simp only [go_sem]; omega)) only [go_sem,seval,Nat.reduceEqDiff,Nat.reduceLeDiff]<;>rfl)); rintro _ rfl)|(apply wC_P (p1); (focus (simp -dsimp (disch:=first|omega|(simp only [go_sem]; omega)) only [go_sem,seval,Nat.reduceEqDiff,Nat.reduceLeDiff,B1]<;>rfl)); rintro _ rfl; try simp -dsimp (disch:=first|omega|(simp only [go_sem]; omega)) only [go_sem,seval,Nat.reduceEqDiff,Nat.reduceLeDiff,B1])|(apply wC_P (p2); (focus (simp -dsimp (disch:=first|omega|(simp only [go_sem]; omega)) only [go_sem,seval,Nat.reduceEqDiff,Nat.reduceLeDiff,C1]<;>rfl)); rintro _ rfl; try simp -dsimp (disch:=first|omega|(simp only [go_sem]; omega)) only [go_sem,seval,Nat.reduceEqDiff,Nat.reduceLeDiff,C1])|(apply wC_P (p3); (focus (simp -dsimp (disch:=first|omega|(simp only [go_sem]; omega)) only [go_sem,seval,Nat.reduceEqDiff,Nat.reduceLeDiff]<;>rfl)); rintro _ rfl)|(apply wC_P (p4); (focus (simp -dsimp (disch:=first|omega|(simp only [go_sem]; omega)) only [go_sem,seval,Nat.reduceEqDiff,Nat.reduceLeDiff,noEn]<;>rfl)); rintro _ rfl; try simp -dsimp (disch:=first|omega|(simp only [go_sem]; omega)) only [go_sem,seval,Nat.reduceEqDiff,Nat.reduceLeDiff,noEn])|(apply wC_P (p5); (focus (simp -dsimp (disch:=first|omega|(simp only [go_sem]; omega)) only [go_sem,seval,Nat.reduceEqDiff,Nat.reduceLeDiff]<;>rfl)); rintro _ rfl)|(apply wC_P (p6); (focus (simp -dsimp (disch:=first|omega|(simp only [go_sem]; omega)) only [go_sem,seval,Nat.reduceEqDiff,Nat.reduceLeDiff,C1]<;>rfl)); rintro _ rfl; try simp -dsimp (disch:=first|omega|(simp only [go_sem]; omega)) only [go_sem,seval,Nat.reduceEqDiff,Nat.reduceLeDiff,C1])|(apply wC_P (p7); (focus (simp -dsimp (disch:=first|omega|(simp only [go_sem]; omega)) only [go_sem,seval,Nat.reduceEqDiff,Nat.reduceLeDiff,C1]<;>rfl)); rintro _ rfl; try simp -dsimp (disch:=first|omega|(simp only [go_sem]; omega)) only [go_sem,seval,Nat.reduceEqDiff,Nat.reduceLeDiff,C1])|(apply wC_P (p8); (focus (simp -dsimp (disch:=first|omega|(simp only [go_sem]; omega)) only [go_sem,seval,Nat.reduceEqDiff,Nat.reduceLeDiff,C2]<;>rfl)); rintro _ rfl; try simp -dsimp (disch:=first|omega|(simp only [go_sem]; omega)) only [go_sem,seval,Nat.reduceEqDiff,Nat.reduceLeDiff,C2])|(apply wC_P (p9); (focus (simp -dsimp (disch:=first|omega|(simp only [go_sem]; omega)) only [go_sem,seval,Nat.reduceEqDiff,Nat.reduceLeDiff,C2]<;>rfl)); rintro _ rfl; try simp -dsimp (disch:=first|omega|(simp only [go_sem]; omega)) only [go_sem,seval,Nat.reduceEqDiff,Nat.reduceLeDiff,C2])|(apply wC_P (p10); (focus (simp -dsimp (disch:=first|omega|(simp only [go_sem]; omega)) only [go_sem,seval,Nat.reduceEqDiff,Nat.reduceLeDiff,C2]<;>rfl)); rintro _ rfl; try simp -dsimp (disch:=first|omega|(simp only [go_sem]; omega)) only [go_sem,seval,Nat.reduceEqDiff,Nat.reduceLeDiff,C2])|(apply wC_P (p11); (focus (simp -dsimp (disch:=first|omega|(simp only [go_sem]; omega)) only [go_sem,seval,Nat.reduceEqDiff,Nat.reduceLeDiff,C3]<;>rfl)); rintro _ rfl; try simp -dsimp (disch:=first|omega|(simp only [go_sem]; omega)) only [go_sem,seval,Nat.reduceEqDiff,Nat.reduceLeDiff,C3])|(apply wC_P (p12); (focus (simp -dsimp (disch:=first|omega|(simp only [go_sem]; omega)) only [go_sem,seval,Nat.reduceEqDiff,Nat.reduceLeDiff,L1]<;>rfl)); rintro _ rfl; try simp -dsimp (disch:=first|omega|(simp only [go_sem]; omega)) only [go_sem,seval,Nat.reduceEqDiff,Nat.reduceLeDiff,L1])|(apply wC_P (p13); (focus (simp -dsimp (disch:=first|omega|(simp only [go_sem]; omega)) only [go_sem,seval,Nat.reduceEqDiff,Nat.reduceLeDiff,D1]<;>rfl)); rintro _ rfl; try simp -dsimp (disch:=first|omega|(simp only [go_sem]; omega)) only [go_sem,seval,Nat.reduceEqDiff,Nat.reduceLeDiff,D1])|(apply wC_P (p14); (focus (simp -dsimp (disch:=first|omega|(simp only [go_sem]; omega)) only [go_sem,seval,Nat.reduceEqDiff,Nat.reduceLeDiff,B0]<;>rfl)); rintro _ rfl; try simp -dsimp (disch:=first|omega|(simp only [go_sem]; omega)) only [go_sem,seval,Nat.reduceEqDiff,Nat.reduceLeDiff,B0])|(apply wC_P (p15); (focus (simp -dsimp (disch:=first|omega|(simp only [go_sem]; omega)) only [go_sem,seval,Nat.reduceEqDiff,Nat.reduceLeDiff,D2]<;>rfl)); rintro _ rfl; try simp -dsimp (disch:=first|omega|(simp only [go_sem]; omega)) only [go_sem,seval,Nat.reduceEqDiff,Nat.reduceLeDiff,D2])|(apply wC_P (p16); (focus (simp -dsimp (disch:=first|omega|(simp only [go_sem]; omega)) only [go_sem,seval,Nat.reduceEqDiff,Nat.reduceLeDiff]<;>rfl)); rintro _ rfl)|((with_reducible first|refine wG_decE (fun _ hG=>?_) (fun _ hG=>?_)|refine wG_decFE (fun _ hG=>?_) (fun _ hG=>?_))<;>(try simp -dsimp only [hG,decide_true,decide_false,not_true_eq_false,not_false_eq_true])<;>clear hG))<;>(try simp -dsimp (disch:=first|omega|(simp only [go_sem]; omega)) only [go_sem,seval,Nat.reduceEqDiff,Nat.reduceLeDiff,B0,B1,C1,C2,C3,D1,D2,L1,noEn,vIaddr_c0,vIaddr_c1,vIaddr_c2,c2,c3]))|simp -dsimp (disch:=first|omega|(simp only [go_sem]; omega)) only [go_sem,seval,Nat.reduceEqDiff,Nat.reduceLeDiff,B0,B1,C1,C2,C3,D1,D2,L1,noEn,vIaddr_c0,vIaddr_c1,vIaddr_c2,c2,c3]))
 all_goals first|(exfalso; omega)|exact Fin.p rfl rfl
end Go.Proofs.YtgoleoihpgmcbaaGreat
