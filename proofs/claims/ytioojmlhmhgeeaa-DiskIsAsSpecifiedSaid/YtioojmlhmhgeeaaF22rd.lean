/-
 Layer 21 (disk): the disk of the specification: what a failure keeps of a sector.
 Conditions: of each contract as it says.
-/
import Derived.Test.YtioojmlhmhgeeaaF22rc
import Derived.Test.YtioojmlhmhgeeaaF22c
namespace Go.Proofs.Ytioojmlhmhgeeaa
open Go Go.E2 C22
set_option linter.unusedSimpArgs false
set_option maxHeartbeats 1000000
def mix (lv bv:Sec) (i:Nat):List UInt8:=lv.1.take 32 ++ (bv.1.drop 32).take (i - 32) ++ lv.1.drop i
theorem mix_len (lv bv:Sec) {i:Nat} (h1:32≤i) (h2:i≤64):(mix lv bv i).length=64:=by
 unfold mix
 simp only [List.length_append,List.length_take,List.length_drop,lv.2,bv.2]
 omega
theorem mix_32 (lv bv:Sec):mix lv bv 32=lv.1:=by unfold mix; simp
theorem mix_64 (lv bv:Sec):mix lv bv 64=(torn bv lv).1:=by
 unfold mix torn
 simp only
 rw [List.drop_of_length_le (l:=lv.1) (by rw [lv.2]; decide),List.append_nil,List.take_of_length_le (l:=bv.1.drop 32) (by rw [List.length_drop,bv.2]; decide)]
theorem mix_succ (lv bv:Sec) {i:Nat} (h1:32≤i) (h2:i < 64):((mix lv bv i).map eB).take i ++ [eB (bv.1[i]'(by rw [bv.2]; exact h2))] ++ ((mix lv bv i).map eB).drop (i + 1)=(mix lv bv (i + 1)).map eB:=by
 have hl:(lv.1.take 32 ++ (bv.1.drop 32).take (i - 32)).length=i:=by
  simp only [List.length_append,List.length_take,List.length_drop,lv.2,bv.2]; omega
 have e1:(mix lv bv i).take i=lv.1.take 32 ++ (bv.1.drop 32).take (i - 32):=by unfold mix; rw [List.take_left' hl]
 have e2:(mix lv bv i).drop (i + 1)=lv.1.drop (i + 1):=by
  unfold mix
  rw [← List.drop_drop,List.drop_left' hl,List.drop_drop]
 rw [← List.map_take,← List.map_drop,e1,e2]
 unfold mix
 have e3:(bv.1.drop 32).take (i + 1 - 32)=(bv.1.drop 32).take (i - 32) ++ [bv.1[i]'(by rw [bv.2]; exact h2)]:=by
  rw [show i + 1 - 32=(i - 32) + 1 by omega,List.take_add_one,List.getElem?_drop,show 32 + (i - 32)=i by omega,List.getElem?_eq_getElem (by rw [bv.2]; exact h2)]
  rfl
 rw [e3]
 simp only [List.map_append,List.map_cons,List.map_nil,List.append_assoc]
theorem rkept_ok (c:Cel) (x:Int) (hne:c.op ≠ []) (hl:c.op.length≤2000000000) (hbad:c.bad=true→c.s=z0):CallP Try.prog f_zz18 [eR c,.int .i64 x] (·=.d (eR (kept c x))):=by
 refine CallP.of_deep (callT_of_W fol zz18_cp ?_)
 have hl0:0 < c.op.length:=List.length_pos_iff.2 hne
 obtain ⟨b1,b2⟩:=rem_bounds c.op.length x
 obtain ⟨b3,b4⟩:=rem_pos c.op.length x
 have hr:((x.tmod (c.op.length + 3) + c.op.length) + 3).tmod (c.op.length + 3)=remOf c.op.length x:=rfl
 have eop:eL c.op=.list (c.op.map eS):=by unfold eL; rw [if_neg hne]
 have er:eR c=.agg (c.s.1.map eB ++ [.bool c.bad,.list (c.op.map eS)]):=by unfold eR; rw [eop]
 have hcl:=rCel_len c.s c.bad (.list (c.op.map eS))
 have hc64:=rCel_64 c.s c.bad (.list (c.op.map eS))
 have hc65:=rCel_65 c.s c.bad (.list (c.op.map eS))
 have hc0:=rCel_0 c.s c.bad (.list (c.op.map eS))
 have hzz:zr 64 (D.int .u8 0) ++ [.bool false,.nilS]=z0.1.map eB ++ [.bool false,.nilS]:=rfl
 have hzl:=rCel_len z0 false .nilS
 rw [er]
 refine goS (nn hcl hc65) ?_
 (repeat' (first|(with_reducible first|refine W.seq ?_|refine W.block ?_)|((first|(with_reducible first|refine W.reg ?_|refine W.skip ?_|refine W.exit ?_|refine W.ret ?_|refine W.ifc ?_)|((with_reducible first|refine wG_decE (fun _ hG=>?_) (fun _ hG=>?_)|refine wG_decFE (fun _ hG=>?_) (fun _ hG=>?_))<;>(try simp -dsimp only [hG,decide_true,decide_false,not_true_eq_false,not_false_eq_true])<;>clear hG))<;>(try simp -dsimp (disch:=first|omega|(simp only [go_sem]; omega)) only [go_sem,seval,Nat.reduceEqDiff,Nat.reduceLeDiff,hr,hcl,hc64,hc65,hc0,hzz,hzl]))|simp -dsimp (disch:=first|omega|(simp only [go_sem]; omega)) only [go_sem,seval,Nat.reduceEqDiff,Nat.reduceLeDiff,hr,hcl,hc64,hc65,hc0,hzz,hzl]))
 · rename_i h
   have hk:kept c x=⟨c.s,c.bad,[]⟩:=by unfold kept; rw [if_pos h]
   (apply Fin.eq; (focus (simp -dsimp (disch:=first|omega|(simp only [go_sem]; omega)) only [go_sem,seval,Nat.reduceEqDiff,Nat.reduceLeDiff]<;>rfl)))
   exact ⟨rfl,_,.refl _,by rw [hk,List.append_assoc]; rfl⟩
 · rename_i h h'
   have e1:(remOf c.op.length x - 1).toNat=(remOf c.op.length x).toNat - 1:=by omega
   have hk:kept c x=⟨c.op[(remOf c.op.length x - 1).toNat],false,[]⟩:=by
    unfold kept; rw [if_neg h,if_pos h',← e1,List.getElem?_eq_getElem (by omega)]; rfl
   (apply Fin.eq; (focus (simp -dsimp (disch:=first|omega|(simp only [go_sem]; omega)) only [go_sem,seval,Nat.reduceEqDiff,Nat.reduceLeDiff]<;>rfl)))
   exact ⟨rfl,_,.refl _,by rw [hk]; rfl⟩
 · rename_i h h' h''
   have hk:kept c x=⟨z0,true,[]⟩:=by unfold kept; rw [if_neg h,if_neg h',if_pos h'']
   (apply Fin.eq; (focus (simp -dsimp (disch:=first|omega|(simp only [go_sem]; omega)) only [go_sem,seval,Nat.reduceEqDiff,Nat.reduceLeDiff]<;>rfl)))
   exact ⟨rfl,_,.refl _,by rw [hk,List.append_assoc]; rfl⟩
 · rename_i h h' h''
   have hk:kept c x=⟨torn (if 1 < c.op.length then (c.op[c.op.length - 2]?).getD z0 else c.s) ((c.op[c.op.length - 1]?).getD z0),false,[]⟩:=by unfold kept; rw [if_neg h,if_neg h',if_neg h'']
   have hlast:(c.op[c.op.length - 1]?).getD z0=c.op[((c.op.length:Int) - 1).toNat]'(by omega):=by
    have e:((c.op.length:Int) - 1).toNat=c.op.length - 1:=by omega
    simp only [e]
    rw [List.getElem?_eq_getElem (by omega)]; rfl
   rw [hlast] at hk
   generalize hlv:c.op[((c.op.length:Int) - 1).toNat]'(by omega)=lv at hk
   have hcs:(c.bad=true∧zr 64 (D.int .u8 0)=c.s.1.map eB)∨(c.bad=false∧True):=by
    cases hb:c.bad with
    | true=>exact .inl ⟨rfl,by rw [hbad hb]; rfl⟩
    | false=>exact .inr ⟨rfl,trivial⟩
   have h1c:((1 < (c.op.length:Int))=True∧1 < c.op.length)∨((1 < (c.op.length:Int))=False∧¬ 1 < c.op.length):=by
    by_cases h1:1 < c.op.length
    · exact .inl ⟨eq_true (by omega),h1⟩
    · exact .inr ⟨eq_false (by omega),h1⟩
   obtain ⟨bv,hbv⟩:∃ bv,bv=if 1 < c.op.length then (c.op[c.op.length - 2]?).getD z0 else c.s:=⟨_,rfl⟩
   rw [← hbv] at hk
   refine h1c.elim (fun h=>?ka) (fun h=>?kb)
   case' ka =>
    obtain ⟨e1,h1⟩:=h
    rw [if_pos h1] at hbv
    have hb2:bv=c.op[((c.op.length:Int) - 2).toNat]'(by omega):=by
     have e:((c.op.length:Int) - 2).toNat=c.op.length - 2:=by omega
     simp only [e]
     rw [hbv,List.getElem?_eq_getElem (by omega)]; rfl
    rcases hcs with ⟨hb,hz⟩|⟨hb,hz⟩
    all_goals
     refine goS hb ?_
     (repeat' (first|(with_reducible first|refine W.seq ?_|refine W.block ?_)|((first|(with_reducible first|refine W.reg ?_|refine W.skip ?_|refine W.exit ?_|refine W.ret ?_|refine W.ifc ?_)|((with_reducible first|refine wG_decE (fun _ hG=>?_) (fun _ hG=>?_)|refine wG_decFE (fun _ hG=>?_) (fun _ hG=>?_))<;>(try simp -dsimp only [hG,decide_true,decide_false,not_true_eq_false,not_false_eq_true])<;>clear hG))<;>(try simp -dsimp (disch:=first|omega|(simp only [go_sem]; omega)) only [go_sem,seval,Nat.reduceEqDiff,Nat.reduceLeDiff,hb,hcl,hc65,hc0,e1,hlv,← hb2]))|simp -dsimp (disch:=first|omega|(simp only [go_sem]; omega)) only [go_sem,seval,Nat.reduceEqDiff,Nat.reduceLeDiff,hb,hcl,hc65,hc0,e1,hlv,← hb2]))
   case' kb =>
    obtain ⟨e1,h1⟩:=h
    rw [if_neg h1] at hbv
    rcases hcs with ⟨hb,hz⟩|⟨hb,hz⟩
    all_goals
     refine goS hb ?_
     (repeat' (first|(with_reducible first|refine W.seq ?_|refine W.block ?_)|((first|(with_reducible first|refine W.reg ?_|refine W.skip ?_|refine W.exit ?_|refine W.ret ?_|refine W.ifc ?_)|((with_reducible first|refine wG_decE (fun _ hG=>?_) (fun _ hG=>?_)|refine wG_decFE (fun _ hG=>?_) (fun _ hG=>?_))<;>(try simp -dsimp only [hG,decide_true,decide_false,not_true_eq_false,not_false_eq_true])<;>clear hG))<;>(try simp -dsimp (disch:=first|omega|(simp only [go_sem]; omega)) only [go_sem,seval,Nat.reduceEqDiff,Nat.reduceLeDiff,hb,hcl,hc65,hc0,e1,hlv]))|simp -dsimp (disch:=first|omega|(simp only [go_sem]; omega)) only [go_sem,seval,Nat.reduceEqDiff,Nat.reduceLeDiff,hb,hcl,hc65,hc0,e1,hlv]))
    all_goals
     try rw [hz]
     rw [← hbv]
   all_goals
    refine W.loop (fun z st=>∃ (i:Nat) (b2:Blk) (m:List D),32≤i∧i≤64∧z=64 - i∧m=(mix lv bv i).map eB∧st=(E [(4,.ptr 0 4 1 0),(7,.ptr 0 7 1 0),(8,.ptr 0 8 1 0),(9,.d (.int .i64 i))],HB [(2,b2),(4,⟨1,some (z0.1.map eB ++ [.bool false,.nilS])⟩),(7,⟨1,some (bv.1.map eB)⟩),(8,⟨1,some m⟩)],[],noGh))
     ⟨_,_,stle,32,_,_,by omega,by omega,rfl,by rw [mix_32],rfl⟩ ?_
    rintro z st ⟨i,b2,_,hi1,hi2,rfl,rfl,rfl⟩
    have hml:((mix lv bv i).map eB).length=64:=by rw [List.length_map]; exact mix_len lv bv hi1 hi2
    refine goR trivial ?_
    refine wG_dec (fun g1=>?_) (fun g1=>?_)
    · have hi3:i < 64:=by omega
      have hgb:(List.drop (i * 1) (bv.1.map eB)).head?=some (eB (bv.1[i]'(by rw [bv.2]; exact hi3))):=by rw [Nat.mul_one,List.head?_drop,List.getElem?_map,List.getElem?_eq_getElem (by rw [bv.2]; exact hi3)]; rfl
      have hms:=mix_succ lv bv hi1 hi3
      generalize (bv.1[i]'(by rw [bv.2]; exact hi3))=vv at hgb hms
      simp only [eB] at hgb hms
      have h63:i * 1≤63:=by omega
      (repeat' (first|(with_reducible first|refine W.seq ?_|refine W.block ?_)|((first|(with_reducible first|refine W.reg ?_|refine W.skip ?_|refine W.exit ?_|refine W.ret ?_|refine W.ifc ?_)|((with_reducible first|refine wG_decE (fun _ hG=>?_) (fun _ hG=>?_)|refine wG_decFE (fun _ hG=>?_) (fun _ hG=>?_))<;>(try simp -dsimp only [hG,decide_true,decide_false,not_true_eq_false,not_false_eq_true])<;>clear hG))<;>(try simp -dsimp (disch:=first|omega|(simp only [go_sem]; omega)) only [go_sem,seval,Nat.reduceEqDiff,Nat.reduceLeDiff,hgb,hml,h63]))|simp -dsimp (disch:=first|omega|(simp only [go_sem]; omega)) only [go_sem,seval,Nat.reduceEqDiff,Nat.reduceLeDiff,hgb,hml,h63]))
      refine ⟨_,_,?_,stle,i + 1,_,_,by omega,by omega,rfl,(by simpa only [Nat.mul_one] using hms),rfl⟩
      omega
    · obtain rfl:i=64:=by omega
      rw [mix_64]
      (repeat' (first|(with_reducible first|refine W.seq ?_|refine W.block ?_)|((first|(with_reducible first|refine W.reg ?_|refine W.skip ?_|refine W.exit ?_|refine W.ret ?_|refine W.ifc ?_)|((with_reducible first|refine wG_decE (fun _ hG=>?_) (fun _ hG=>?_)|refine wG_decFE (fun _ hG=>?_) (fun _ hG=>?_))<;>(try simp -dsimp only [hG,decide_true,decide_false,not_true_eq_false,not_false_eq_true])<;>clear hG))<;>(try simp -dsimp (disch:=first|omega|(simp only [go_sem]; omega)) only [go_sem,seval,Nat.reduceEqDiff,Nat.reduceLeDiff]))|simp -dsimp (disch:=first|omega|(simp only [go_sem]; omega)) only [go_sem,seval,Nat.reduceEqDiff,Nat.reduceLeDiff]))
      (apply Fin.eq; (focus (simp -dsimp (disch:=first|omega|(simp only [go_sem]; omega)) only [go_sem,seval,Nat.reduceEqDiff,Nat.reduceLeDiff]<;>rfl)))
      exact ⟨rfl,_,.refl _,by rw [hk]; rfl⟩
end Go.Proofs.Ytioojmlhmhgeeaa
