/-
 Layer 39 (catalog): operations encoded and decoded.
 Conditions: of each contract as it says.
-/
import Derived.Test.YtgoleoihpgmcbaaGreatG39u
import Derived.Test.YtgoleoihpgmcbaaGreatW1d
import Derived.Test.YtgoleoihpgmcbaaGreatS39g
namespace Go.Proofs.YtgoleoihpgmcbaaGreat
open Go Go.E2 C39 CW
set_option linter.unusedSimpArgs false
set_option maxHeartbeats 4000000
theorem ints6 {o:Co} (h:rightO o):CallP Tryz.prog f_zz98 [.list [eI o.kind,eI o.tick,eI o.ver,eI o.obj,eI o.last,eI o.snap]] (·=.d (.list ((intsB [o.kind,o.tick,o.ver,o.obj,o.last,o.snap]).map eB))) :=
 Wire.Ints_ok [o.kind,o.tick,o.ver,o.obj,o.last,o.snap] (by simp) h.all
theorem rints6 {o:Co} (h:rightO o):CallP Tryz.prog f_zz39 [.list [eI o.kind,eI o.tick,eI o.ver,eI o.obj,eI o.last,eI o.snap]] (·=.d (.list ((intsB [o.kind,o.tick,o.ver,o.obj,o.last,o.snap]).map eB))) :=
 Wire.rInts_ok [o.kind,o.tick,o.ver,o.obj,o.last,o.snap] (by simp) h.all
theorem Encode_ok (o:Co) (h:rightO o) (hn:o.name.length≤1000):CallP Tryz.prog f_zz61 [eO o] (·=.d (.str (encO o))):=by
 refine callP_of_W fol zz61_cp ?_
 have hl:=encO_len h hn
 have hi:=ints6 h
 have hb:=Wire.Bytes_ok o.name (by omega)
 unfold encO at hl ⊢
 rw [List.length_append] at hl
 generalize intsB [o.kind,o.tick,o.ver,o.obj,o.last,o.snap]=x at hl hi ⊢
 generalize bytesB o.name=y at hl hb ⊢
 refine goS trivial ?_
 (refine goX2 trivial (hi) (hb) ?_; (repeat' (with_reducible apply Br.mk<;>intro _)))
 exact Fin.p rfl rfl
theorem rEncode_ok (o:Co) (h:rightO o) (hn:o.name.length≤1000):CallP Tryz.prog f_zz26 [eO o] (·=.d (.str (encO o))):=by
 refine callP_of_W fol zz26_cp ?_
 have hl:=encO_len h hn
 have hi:=rints6 h
 have hb:=Wire.rBytes_ok o.name (by omega)
 unfold encO at hl ⊢
 rw [List.length_append] at hl
 generalize intsB [o.kind,o.tick,o.ver,o.obj,o.last,o.snap]=x at hl hi ⊢
 generalize bytesB o.name=y at hl hb ⊢
 refine goS trivial ?_
 (refine goX2 trivial (hi) (hb) ?_; (repeat' (with_reducible apply Br.mk<;>intro _)))
 exact Fin.p rfl rfl
theorem Decode_ok (s:List UInt8) (hs:s.length≤100000):CallP Tryz.prog f_zz60 [.str s] (·=.tup [eO (decS s).1,eI (decS s).2]):=by
 refine callP_of_W fol zz60_cp ?_
 have hi:=Wire.GetInts_ok s (by omega)
 obtain ⟨l,n,e,hr⟩:∃ l n e,getInts s=(l,n,e):=⟨_,_,_,rfl⟩
 rw [hr] at hi
 by_cases he:e=0
 case neg =>
  rw [decS_bad1 hr (.inl he)]
  (refine goX1 he (hi) ?_; (repeat' (with_reducible apply Br.mk<;>intro _)))
  all_goals exact Fin.p rfl rfl
 subst he
 by_cases h6:l.length=6
 case neg =>
  rw [decS_bad1 hr (.inr h6)]
  have g1:((l.length:Int)=6)=False:=eq_false (by omega)
  (repeat' (first|(with_reducible first|refine W.seq ?_|refine W.block ?_|refine W.scope ?_)|((first|(with_reducible first|refine W.reg ?_|refine W.skip ?_|refine W.exit ?_|refine W.ret ?_|refine W.ifc ?_)|(apply wC_P (hi); (focus (simp -dsimp (disch:=first|omega|(simp only [go_sem]; omega)) only [go_sem,seval,Nat.reduceEqDiff,Nat.reduceLeDiff]<;>rfl)); rintro _ rfl)|((with_reducible first|refine wG_decE (fun _ hG=>?_) (fun _ hG=>?_)|refine wG_decFE (fun _ hG=>?_) (fun _ hG=>?_))<;>(try simp -dsimp only [hG,decide_true,decide_false,not_true_eq_false,not_false_eq_true])<;>clear hG))<;>(try simp -dsimp (disch:=first|omega|(simp only [go_sem]; omega)) only [go_sem,seval,Nat.reduceEqDiff,Nat.reduceLeDiff,g1,List.length_map]))|simp -dsimp (disch:=first|omega|(simp only [go_sem]; omega)) only [go_sem,seval,Nat.reduceEqDiff,Nat.reduceLeDiff,g1,List.length_map]))
  all_goals exact Fin.p rfl rfl
 obtain ⟨n,rfl,h1,_,_⟩:=getInts_canon hr
 have hb:=Wire.GetBytes_ok (s.drop n) (by rw [List.length_drop]; omega)
 obtain ⟨t,m,e,hr2⟩:∃ t m e,getBytes (s.drop n)=(t,m,e):=⟨_,_,_,rfl⟩
 rw [hr2] at hb
 have g1:(l.length:Int)=6:=by omega
 by_cases he:e=0
 case neg =>
  rw [decS_bad2 hr h6 (by simpa using hr2) (.inl he)]
  (repeat' (first|(with_reducible first|refine W.seq ?_|refine W.block ?_|refine W.scope ?_)|((first|(with_reducible first|refine W.reg ?_|refine W.skip ?_|refine W.exit ?_|refine W.ret ?_|refine W.ifc ?_)|(apply wC_P (hi); (focus (simp -dsimp (disch:=first|omega|(simp only [go_sem]; omega)) only [go_sem,seval,Nat.reduceEqDiff,Nat.reduceLeDiff]<;>rfl)); rintro _ rfl)|(apply wC_P (hb); (focus (simp -dsimp (disch:=first|omega|(simp only [go_sem]; omega)) only [go_sem,seval,Nat.reduceEqDiff,Nat.reduceLeDiff]<;>rfl)); rintro _ rfl)|((with_reducible first|refine wG_decE (fun _ hG=>?_) (fun _ hG=>?_)|refine wG_decFE (fun _ hG=>?_) (fun _ hG=>?_))<;>(try simp -dsimp only [hG,decide_true,decide_false,not_true_eq_false,not_false_eq_true])<;>clear hG))<;>(try simp -dsimp (disch:=first|omega|(simp only [go_sem]; omega)) only [go_sem,seval,Nat.reduceEqDiff,Nat.reduceLeDiff,g1,List.length_map,he,Int.toNat_natCast]))|simp -dsimp (disch:=first|omega|(simp only [go_sem]; omega)) only [go_sem,seval,Nat.reduceEqDiff,Nat.reduceLeDiff,g1,List.length_map,he,Int.toNat_natCast]))
  all_goals exact Fin.p rfl rfl
 subst he
 obtain ⟨m,rfl,h3,_⟩:=getBytes_canon hr2
 rw [List.length_drop] at h3
 by_cases hlen:(n:Int) + (m:Int)=(s.length:Int)
 case neg =>
  rw [decS_bad2 hr h6 (by simpa using hr2) (.inr hlen)]
  (repeat' (first|(with_reducible first|refine W.seq ?_|refine W.block ?_|refine W.scope ?_)|((first|(with_reducible first|refine W.reg ?_|refine W.skip ?_|refine W.exit ?_|refine W.ret ?_|refine W.ifc ?_)|(apply wC_P (hi); (focus (simp -dsimp (disch:=first|omega|(simp only [go_sem]; omega)) only [go_sem,seval,Nat.reduceEqDiff,Nat.reduceLeDiff]<;>rfl)); rintro _ rfl)|(apply wC_P (hb); (focus (simp -dsimp (disch:=first|omega|(simp only [go_sem]; omega)) only [go_sem,seval,Nat.reduceEqDiff,Nat.reduceLeDiff]<;>rfl)); rintro _ rfl)|((with_reducible first|refine wG_decE (fun _ hG=>?_) (fun _ hG=>?_)|refine wG_decFE (fun _ hG=>?_) (fun _ hG=>?_))<;>(try simp -dsimp only [hG,decide_true,decide_false,not_true_eq_false,not_false_eq_true])<;>clear hG))<;>(try simp -dsimp (disch:=first|omega|(simp only [go_sem]; omega)) only [go_sem,seval,Nat.reduceEqDiff,Nat.reduceLeDiff,g1,List.length_map,hlen,Int.toNat_natCast]))|simp -dsimp (disch:=first|omega|(simp only [go_sem]; omega)) only [go_sem,seval,Nat.reduceEqDiff,Nat.reduceLeDiff,g1,List.length_map,hlen,Int.toNat_natCast]))
  all_goals exact Fin.p rfl rfl
 rw [decS_good hr h6 (by simpa using hr2) hlen,opOf_get h6]
 (repeat' (first|(with_reducible first|refine W.seq ?_|refine W.block ?_|refine W.scope ?_)|((first|(with_reducible first|refine W.reg ?_|refine W.skip ?_|refine W.exit ?_|refine W.ret ?_|refine W.ifc ?_)|(apply wC_P (hi); (focus (simp -dsimp (disch:=first|omega|(simp only [go_sem]; omega)) only [go_sem,seval,Nat.reduceEqDiff,Nat.reduceLeDiff]<;>rfl)); rintro _ rfl)|(apply wC_P (hb); (focus (simp -dsimp (disch:=first|omega|(simp only [go_sem]; omega)) only [go_sem,seval,Nat.reduceEqDiff,Nat.reduceLeDiff]<;>rfl)); rintro _ rfl)|((with_reducible first|refine wG_decE (fun _ hG=>?_) (fun _ hG=>?_)|refine wG_decFE (fun _ hG=>?_) (fun _ hG=>?_))<;>(try simp -dsimp only [hG,decide_true,decide_false,not_true_eq_false,not_false_eq_true])<;>clear hG))<;>(try simp -dsimp (disch:=first|omega|(simp only [go_sem]; omega)) only [go_sem,seval,Nat.reduceEqDiff,Nat.reduceLeDiff,g1,List.length_map,hlen,Int.toNat_natCast]))|simp -dsimp (disch:=first|omega|(simp only [go_sem]; omega)) only [go_sem,seval,Nat.reduceEqDiff,Nat.reduceLeDiff,g1,List.length_map,hlen,Int.toNat_natCast]))
 all_goals first|exact Fin.p rfl rfl|trace_state
end Go.Proofs.YtgoleoihpgmcbaaGreat
/-
 Layer 39 (catalog): the reference's decoding; operations replayed.
 Conditions: of each contract as it says.
-/
namespace Go.Proofs.YtgoleoihpgmcbaaGreat
open Go Go.E2 C39 CW
set_option linter.unusedSimpArgs false
set_option maxHeartbeats 4000000
def eK (o:Co) (e:Int):D:=.agg [.int .i64 o.kind,.int .i64 o.tick,.int .i64 o.ver,.int .i64 o.obj,.int .i64 o.last,.int .i64 o.snap,.str o.name,.int .i64 e]
attribute [go_sem] eK
theorem rDecode_ok (s:List UInt8) (hs:s.length≤1000):CallP Tryz.prog f_zz25 [.str s] (·=.d (eK (decS s).1 (decS s).2)):=by
 refine callP_of_W fol zz25_cp ?_
 have hi:=Wire.rGetInts_ok s (by omega)
 obtain ⟨l,n,e,hr⟩:∃ l n e,getInts s=(l,n,e):=⟨_,_,_,rfl⟩
 rw [hr] at hi
 by_cases he:e=0
 case neg =>
  rw [decS_bad1 hr (.inl he)]
  (refine goX1 he (hi) ?_; (repeat' (with_reducible apply Br.mk<;>intro _)))
  all_goals exact Fin.p rfl rfl
 subst he
 by_cases h6:l.length=6
 case neg =>
  rw [decS_bad1 hr (.inr h6)]
  have g1:((l.length:Int)=6)=False:=eq_false (by omega)
  (repeat' (first|(with_reducible first|refine W.seq ?_|refine W.block ?_|refine W.scope ?_)|((first|(with_reducible first|refine W.reg ?_|refine W.skip ?_|refine W.exit ?_|refine W.ret ?_|refine W.ifc ?_)|(apply wC_P (hi); (focus (simp -dsimp (disch:=first|omega|(simp only [go_sem]; omega)) only [go_sem,seval,Nat.reduceEqDiff,Nat.reduceLeDiff]<;>rfl)); rintro _ rfl)|((with_reducible first|refine wG_decE (fun _ hG=>?_) (fun _ hG=>?_)|refine wG_decFE (fun _ hG=>?_) (fun _ hG=>?_))<;>(try simp -dsimp only [hG,decide_true,decide_false,not_true_eq_false,not_false_eq_true])<;>clear hG))<;>(try simp -dsimp (disch:=first|omega|(simp only [go_sem]; omega)) only [go_sem,seval,Nat.reduceEqDiff,Nat.reduceLeDiff,g1,List.length_map]))|simp -dsimp (disch:=first|omega|(simp only [go_sem]; omega)) only [go_sem,seval,Nat.reduceEqDiff,Nat.reduceLeDiff,g1,List.length_map]))
  all_goals exact Fin.p rfl rfl
 obtain ⟨n,rfl,h1,_,hri⟩:=getInts_canon hr
 have hb:=Wire.rGetBytes_ok (s.drop n) (by rw [List.length_drop]; omega)
 obtain ⟨t,m,e,hr2⟩:∃ t m e,getBytes (s.drop n)=(t,m,e):=⟨_,_,_,rfl⟩
 rw [hr2] at hb
 have g1:(l.length:Int)=6:=by omega
 by_cases he:e=0
 case neg =>
  rw [decS_bad2 hr h6 (by simpa using hr2) (.inl he)]
  (repeat' (first|(with_reducible first|refine W.seq ?_|refine W.block ?_|refine W.scope ?_)|((first|(with_reducible first|refine W.reg ?_|refine W.skip ?_|refine W.exit ?_|refine W.ret ?_|refine W.ifc ?_)|(apply wC_P (hi); (focus (simp -dsimp (disch:=first|omega|(simp only [go_sem]; omega)) only [go_sem,seval,Nat.reduceEqDiff,Nat.reduceLeDiff]<;>rfl)); rintro _ rfl)|(apply wC_P (hb); (focus (simp -dsimp (disch:=first|omega|(simp only [go_sem]; omega)) only [go_sem,seval,Nat.reduceEqDiff,Nat.reduceLeDiff]<;>rfl)); rintro _ rfl)|((with_reducible first|refine wG_decE (fun _ hG=>?_) (fun _ hG=>?_)|refine wG_decFE (fun _ hG=>?_) (fun _ hG=>?_))<;>(try simp -dsimp only [hG,decide_true,decide_false,not_true_eq_false,not_false_eq_true])<;>clear hG))<;>(try simp -dsimp (disch:=first|omega|(simp only [go_sem]; omega)) only [go_sem,seval,Nat.reduceEqDiff,Nat.reduceLeDiff,g1,List.length_map,he,Int.toNat_natCast]))|simp -dsimp (disch:=first|omega|(simp only [go_sem]; omega)) only [go_sem,seval,Nat.reduceEqDiff,Nat.reduceLeDiff,g1,List.length_map,he,Int.toNat_natCast]))
  all_goals exact Fin.p rfl rfl
 subst he
 have hiff:encO ⟨l[0],l[1],l[2],l[3],l[4],l[5],t⟩=s↔(n:Int) + m=s.length:=by
  obtain ⟨a,b,c,d,e,f,rfl⟩:=six h6
  exact enc_iff hr (by simpa using hr2)
 obtain ⟨m,rfl,h3,h4⟩:=getBytes_canon hr2
 rw [List.length_drop] at h3
 have htl:t.length≤1000:=by
  have:=congrArg List.length h4
  simp only [bytesB,List.length_append,List.length_take,List.length_drop] at this
  omega
 have hen:=rEncode_ok ⟨l[0],l[1],l[2],l[3],l[4],l[5],t⟩ ⟨hri _ (List.getElem_mem _),hri _ (List.getElem_mem _),hri _ (List.getElem_mem _),hri _ (List.getElem_mem _),hri _ (List.getElem_mem _),hri _ (List.getElem_mem _)⟩ htl
 by_cases hlen:(n:Int) + (m:Int)=(s.length:Int)
 case neg =>
  have g2:(encO ⟨l[0],l[1],l[2],l[3],l[4],l[5],t⟩=s)=False:=eq_false fun h=>hlen (hiff.1 h)
  rw [decS_bad2 hr h6 (by simpa using hr2) (.inr hlen)]
  (repeat' (first|(with_reducible first|refine W.seq ?_|refine W.block ?_|refine W.scope ?_)|((first|(with_reducible first|refine W.reg ?_|refine W.skip ?_|refine W.exit ?_|refine W.ret ?_|refine W.ifc ?_)|(apply wC_P (hi); (focus (simp -dsimp (disch:=first|omega|(simp only [go_sem]; omega)) only [go_sem,seval,Nat.reduceEqDiff,Nat.reduceLeDiff]<;>rfl)); rintro _ rfl)|(apply wC_P (hb); (focus (simp -dsimp (disch:=first|omega|(simp only [go_sem]; omega)) only [go_sem,seval,Nat.reduceEqDiff,Nat.reduceLeDiff]<;>rfl)); rintro _ rfl)|(apply wC_P (hen); (focus (simp -dsimp (disch:=first|omega|(simp only [go_sem]; omega)) only [go_sem,seval,Nat.reduceEqDiff,Nat.reduceLeDiff]<;>rfl)); rintro _ rfl)|((with_reducible first|refine wG_decE (fun _ hG=>?_) (fun _ hG=>?_)|refine wG_decFE (fun _ hG=>?_) (fun _ hG=>?_))<;>(try simp -dsimp only [hG,decide_true,decide_false,not_true_eq_false,not_false_eq_true])<;>clear hG))<;>(try simp -dsimp (disch:=first|omega|(simp only [go_sem]; omega)) only [go_sem,seval,Nat.reduceEqDiff,Nat.reduceLeDiff,g1,List.length_map,g2,Int.toNat_natCast]))|simp -dsimp (disch:=first|omega|(simp only [go_sem]; omega)) only [go_sem,seval,Nat.reduceEqDiff,Nat.reduceLeDiff,g1,List.length_map,g2,Int.toNat_natCast]))
  all_goals first|exact Fin.p rfl rfl|trace_state
 have g2:encO ⟨l[0],l[1],l[2],l[3],l[4],l[5],t⟩=s:=hiff.2 hlen
 rw [decS_good hr h6 (by simpa using hr2) hlen,opOf_get h6]
 (repeat' (first|(with_reducible first|refine W.seq ?_|refine W.block ?_|refine W.scope ?_)|((first|(with_reducible first|refine W.reg ?_|refine W.skip ?_|refine W.exit ?_|refine W.ret ?_|refine W.ifc ?_)|(apply wC_P (hi); (focus (simp -dsimp (disch:=first|omega|(simp only [go_sem]; omega)) only [go_sem,seval,Nat.reduceEqDiff,Nat.reduceLeDiff]<;>rfl)); rintro _ rfl)|(apply wC_P (hb); (focus (simp -dsimp (disch:=first|omega|(simp only [go_sem]; omega)) only [go_sem,seval,Nat.reduceEqDiff,Nat.reduceLeDiff]<;>rfl)); rintro _ rfl)|(apply wC_P (hen); (focus (simp -dsimp (disch:=first|omega|(simp only [go_sem]; omega)) only [go_sem,seval,Nat.reduceEqDiff,Nat.reduceLeDiff]<;>rfl)); rintro _ rfl)|((with_reducible first|refine wG_decE (fun _ hG=>?_) (fun _ hG=>?_)|refine wG_decFE (fun _ hG=>?_) (fun _ hG=>?_))<;>(try simp -dsimp only [hG,decide_true,decide_false,not_true_eq_false,not_false_eq_true])<;>clear hG))<;>(try simp -dsimp (disch:=first|omega|(simp only [go_sem]; omega)) only [go_sem,seval,Nat.reduceEqDiff,Nat.reduceLeDiff,g1,List.length_map,g2,Int.toNat_natCast]))|simp -dsimp (disch:=first|omega|(simp only [go_sem]; omega)) only [go_sem,seval,Nat.reduceEqDiff,Nat.reduceLeDiff,g1,List.length_map,g2,Int.toNat_natCast]))
 all_goals first|exact Fin.p rfl rfl|trace_state
theorem emptyLe:DsLe [eI 0,.nilS,.nilS] (cC ⟨0,[],[]⟩):=.cons (.inl rfl) (.cons (.inr rfl) (.cons (.inr rfl) .nil))
theorem sB:smallC ⟨0,[],[]⟩:=by unfold smallC; decide
theorem Replay_ok (l:List (List UInt8)) (hl:l.length≤1000) (hs:∀ s ∈ l,s.length≤1000) :
 CallP Tryz.prog f_zz65 [.list (l.map .str)] (·=.tup [eC (repS ⟨0,[],[]⟩ 0 l).1,eI (repS ⟨0,[],[]⟩ 0 l).2.1,eI (repS ⟨0,[],[]⟩ 0 l).2.2]):=by
 refine callP_of_W fol zz65_cp ?_
 refine goS trivial ?_
 refine goR trivial ?_
 refine W.loop (fun m st=>∃ (k:Nat) (d:Ct) (b8:Blk),k≤l.length∧m=l.length - k∧smallC d∧repS ⟨0,[],[]⟩ 0 l=repS d k (l.drop k) ∧
  st=(E [(0,.d (.list (l.map .str))),(2,.ptr 0 2 1 0),(5,.ptr 0 5 1 0),(10,.d (.list (l.map .str))),(11,.d (eI l.length)),(12,.d (eI k))],HB [(2,⟨1,some [eI 0,.nilS,.nilS]⟩),(5,⟨1,some (cC d)⟩),(8,b8)],[],noGh))
  ⟨_,_,st_leH (by (simp -dsimp (disch:=first|omega|(simp only [go_sem]; omega)) only [go_sem,seval,Nat.reduceEqDiff,Nat.reduceLeDiff]<;>((repeat' apply And.intro)<;>first|exact VLe.refl _|(apply vle_int; omega)|(apply vle_int; simp; done)|exact VLe.own _ _|exact VLe.nilown _|exact VLe.norm _))) ((HBle.same 2 _ (HBle.box 5 1 emptyLe (HBle.refl []))).pad [8] rfl),0,⟨0,[],[]⟩,_,by omega,rfl,sB,rfl,rfl⟩ ?_
 rintro m st ⟨k,d,b8,hk,rfl,hd,hr,rfl⟩
 by_cases h1:(k:Int) < (l.length:Int)
 case neg =>
  obtain rfl:k=l.length:=by omega
  rw [List.drop_of_length_le (Nat.le_refl _),repS] at hr
  (refine goX h1 ?_; (repeat' (with_reducible apply Br.mk<;>intro _)))
  exact Fin.p rfl (by rw [hr]; rfl)
 have hk':k < l.length:=by omega
 have hsk:=hs _ (List.getElem_mem hk')
 rw [drop_at hk',repS] at hr
 have hde:=Decode_ok l[k] (by omega)
 obtain ⟨o,e,hoe⟩:∃ o e,decS l[k]=(o,e):=⟨_,_,rfl⟩
 rw [hoe] at hde hr
 by_cases he:e=0
 case neg =>
  rw [if_pos he] at hr
  (refine goX1 (nn h1 he) (hde) ?_; (repeat' (with_reducible apply Br.mk<;>intro _)))
  exact Fin.p rfl (by rw [hr]; rfl)
 subst he
 rw [if_neg (by simp)] at hr
 have hdo:=Do_ok d o hd
 have hds:=do_small hd o
 have her:=@do_err d o
 obtain ⟨n,e,hne⟩:∃ n e,doC d o=(n,e):=⟨_,_,rfl⟩
 simp only [hne] at hdo hds her hr
 by_cases he:e=0
 case neg =>
  rw [if_pos he] at hr
  obtain rfl:=her he
  (refine goX2 (nn h1 he) (hde) (hdo) ?_; (repeat' (with_reducible apply Br.mk<;>intro _)))
  exact Fin.p rfl (by rw [hr]; rfl)
 subst he
 rw [if_neg (by simp)] at hr
 (refine goX2 h1 (hde) (hdo) ?_; (repeat' (with_reducible apply Br.mk<;>intro _)))
 refine ⟨_,_,?_,stleB rfl,k + 1,n,_,hk',rfl,hds,hr,rfl⟩
 omega
theorem rReplay_ok (l:List (List UInt8)) (hl:l.length≤1000) (hs:∀ s ∈ l,s.length≤1000) :
 CallP Tryz.prog f_zz27 [.list (l.map .str)] (·=.d (eM (repS ⟨0,[],[]⟩ 0 l).1 (repS ⟨0,[],[]⟩ 0 l).2.1 (repS ⟨0,[],[]⟩ 0 l).2.2)):=by
 refine callP_of_W fol zz27_cp ?_
 refine goS trivial ?_
 refine goR trivial ?_
 refine W.loop (fun m st=>∃ (k:Nat) (d:Ct) (b5 b6:Blk),k≤l.length∧m=l.length - k∧smallC d∧repS ⟨0,[],[]⟩ 0 l=repS d k (l.drop k) ∧
  st=(E [(0,.d (.list (l.map .str))),(2,.ptr 0 2 1 0),(3,.ptr 0 3 1 0),(4,.d (eI k))],HB [(2,⟨1,some [eI 0,.nilS,.nilS,eI 0,eI 0]⟩),(3,⟨1,some (cC d)⟩),(5,b5),(6,b6)],[],noGh))
  ⟨_,_,st_leH (by (simp -dsimp (disch:=first|omega|(simp only [go_sem]; omega)) only [go_sem,seval,Nat.reduceEqDiff,Nat.reduceLeDiff]<;>((repeat' apply And.intro)<;>first|exact VLe.refl _|(apply vle_int; omega)|(apply vle_int; simp; done)|exact VLe.own _ _|exact VLe.nilown _|exact VLe.norm _))) ((HBle.same 2 _ (HBle.box 3 1 emptyLe (HBle.refl []))).pad [5,6] rfl),0,⟨0,[],[]⟩,_,_,by omega,rfl,sB,rfl,rfl⟩ ?_
 rintro m st ⟨k,d,b5,b6,hk,rfl,hd,hr,rfl⟩
 by_cases h1:(k:Int) < (l.length:Int)
 case neg =>
  obtain rfl:k=l.length:=by omega
  rw [List.drop_of_length_le (Nat.le_refl _),repS] at hr
  (refine goX h1 ?_; (repeat' (with_reducible apply Br.mk<;>intro _)))
  exact Fin.p rfl (by rw [hr]; rfl)
 have hk':k < l.length:=by omega
 have hsk:=hs _ (List.getElem_mem hk')
 rw [drop_at hk',repS] at hr
 have hde:=rDecode_ok l[k] (by omega)
 obtain ⟨o,e,hoe⟩:∃ o e,decS l[k]=(o,e):=⟨_,_,rfl⟩
 rw [hoe] at hde hr
 by_cases he:e=0
 case neg =>
  rw [if_pos he] at hr
  (refine goX1 (nn h1 he) (hde) ?_; (repeat' (with_reducible apply Br.mk<;>intro _)))
  exact Fin.p rfl (by rw [hr]; rfl)
 subst he
 rw [if_neg (by simp)] at hr
 have hdo:=refDo_ok d o hd
 have hds:=do_small hd o
 obtain ⟨n,e,hne⟩:∃ n e,doC d o=(n,e):=⟨_,_,rfl⟩
 simp only [hne] at hdo hds hr
 by_cases he:e=0
 case neg =>
  rw [if_pos he] at hr
  (refine goX2 (nn h1 he) (hde) (hdo) ?_; (repeat' (with_reducible apply Br.mk<;>intro _)))
  exact Fin.p rfl (by rw [hr]; rfl)
 subst he
 rw [if_neg (by simp)] at hr
 (refine goX2 h1 (hde) (hdo) ?_; (repeat' (with_reducible apply Br.mk<;>intro _)))
 refine ⟨_,_,?_,stleB rfl,k + 1,n,_,_,hk',rfl,hds,hr,rfl⟩
 omega
end Go.Proofs.YtgoleoihpgmcbaaGreat
/-
 Layer 39 (catalog): the law CatalogRecordsAsSpecified.
 Conditions: of each contract as it says.
-/
namespace Go.Proofs.YtgoleoihpgmcbaaGreat
open Go Go.E2 C39 CW
set_option linter.unusedSimpArgs false
set_option maxHeartbeats 4000000
theorem same_ok (a:Ct) (ha:smallC a):CallP Tryz.prog f_zz41 [eC a,eC a] (·=.d (.bool true)):=by
 have h:=Same_ok a a ha ha
 rw [decide_eq_true rfl] at h; exact h
theorem repS_small:∀ (l:List (List UInt8)) (c:Ct) (k:Int),smallC c→smallC (repS c k l).1
 | [],c,k,h=>h
 | s::l,c,k,h=>by
   rw [repS]
   split
   · exact h
   split
   · exact h
   · exact repS_small l _ _ (do_small h _)
theorem law4_ok (o:Co) (s:List UInt8) (l:List (List UInt8)) (ho:rightO o):CallP Tryz.prog f_zz7 [eO o,.str s,.list (l.map .str)] (·=.d (.bool true)):=by
 refine callP_of_W fol zz7_cp ?_
 refine goS trivial ?_
 by_cases h1:o.name.length≤300∧s.length≤300∧l.length≤20
 case neg =>
  (refine goX1 trivial (sanity_ok) ?_; (repeat' (with_reducible apply Br.mk<;>intro _)))
  all_goals first|(exfalso; omega)|exact Fin.p rfl rfl
 obtain ⟨h1,h2,h3⟩:=h1
 (refine goX1 trivial (sanity_ok) ?_; (repeat' (with_reducible apply Br.mk<;>intro _)))
 all_goals try (exfalso; omega)
 refine W.loop (fun m st=>∃ (k:Nat),k≤l.length∧m=l.length - k∧(∀ j (hj:j < l.length),j < k→l[j].length≤300) ∧
  st=(E [(1,.d (.str s)),(2,.d (.list (l.map .str))),(3,.ptr 0 3 1 0),(7,.d (eI k))],HB [(3,⟨1,some [.int .i64 o.kind,.int .i64 o.tick,.int .i64 o.ver,.int .i64 o.obj,.int .i64 o.last,.int .i64 o.snap,.str o.name]⟩)],[],noGh))
  ⟨_,_,stleB rfl,0,by omega,rfl,fun _ _ h=>by omega,rfl⟩ ?_
 rintro m st ⟨k,hk,rfl,hlo,rfl⟩
 by_cases h4:(k:Int) < (l.length:Int)
 case pos =>
  have hk':k < l.length:=by omega
  (refine goX1 h4 (sanity_ok) ?_; (repeat' (with_reducible apply Br.mk<;>intro _)))
  · exact Fin.p rfl rfl
  · refine ⟨_,_,?_,stleB rfl,k + 1,hk',rfl,fun j hj hlt=>?_,rfl⟩
    · omega
    · by_cases e:j=k
      · subst e; omega
      · exact hlo j hj (by omega)
 have hls:∀ x ∈ l,x.length≤1000:=fun x hx=>by
  obtain ⟨j,hj,rfl⟩:=List.getElem_of_mem hx
  have:=hlo j hj (by omega)
  omega
 have hen:=Encode_ok o ho (by omega)
 have hren:=rEncode_ok o ho (by omega)
 have hel:=encO_len ho (by omega)
 have hde:=Decode_ok s (by omega)
 have hrde:=rDecode_ok s (by omega)
 have hdd:=Decode_ok (encO o) (by omega)
 rw [dec_enc ho (by omega)] at hdd
 have hrp:=Replay_ok l (by omega) hls
 have hrrp:=rReplay_ok l (by omega) hls
 have hsm:=same_ok (repS ⟨0,[],[]⟩ 0 l).1 (repS_small l _ _ sB)
 generalize (repS ⟨0,[],[]⟩ 0 l)=r at hrp hrrp hsm
 generalize decS s=d at hde hrde
 (repeat' (first|(with_reducible first|refine W.seq ?_|refine W.block ?_|refine W.scope ?_)|((first|(with_reducible first|refine W.reg ?_|refine W.skip ?_|refine W.exit ?_|refine W.ret ?_|refine W.ifc ?_)|(apply wC_P (hen); (focus (simp -dsimp (disch:=first|omega|(simp only [go_sem]; omega)) only [go_sem,seval,Nat.reduceEqDiff,Nat.reduceLeDiff]<;>rfl)); rintro _ rfl)|(apply wC_P (hren); (focus (simp -dsimp (disch:=first|omega|(simp only [go_sem]; omega)) only [go_sem,seval,Nat.reduceEqDiff,Nat.reduceLeDiff]<;>rfl)); rintro _ rfl)|(apply wC_P (hde); (focus (simp -dsimp (disch:=first|omega|(simp only [go_sem]; omega)) only [go_sem,seval,Nat.reduceEqDiff,Nat.reduceLeDiff]<;>rfl)); rintro _ rfl)|(apply wC_P (hrde); (focus (simp -dsimp (disch:=first|omega|(simp only [go_sem]; omega)) only [go_sem,seval,Nat.reduceEqDiff,Nat.reduceLeDiff]<;>rfl)); rintro _ rfl)|(apply wC_P (hdd); (focus (simp -dsimp (disch:=first|omega|(simp only [go_sem]; omega)) only [go_sem,seval,Nat.reduceEqDiff,Nat.reduceLeDiff]<;>rfl)); rintro _ rfl)|(apply wC_P (hrp); (focus (simp -dsimp (disch:=first|omega|(simp only [go_sem]; omega)) only [go_sem,seval,Nat.reduceEqDiff,Nat.reduceLeDiff]<;>rfl)); rintro _ rfl)|(apply wC_P (hrrp); (focus (simp -dsimp (disch:=first|omega|(simp only [go_sem]; omega)) only [go_sem,seval,Nat.reduceEqDiff,Nat.reduceLeDiff]<;>rfl)); rintro _ rfl)|(apply wC_P (hsm); (focus (simp -dsimp (disch:=first|omega|(simp only [go_sem]; omega)) only [go_sem,seval,Nat.reduceEqDiff,Nat.reduceLeDiff]<;>rfl)); rintro _ rfl)|(apply wC_P (sanity_ok); (focus (simp -dsimp (disch:=first|omega|(simp only [go_sem]; omega)) only [go_sem,seval,Nat.reduceEqDiff,Nat.reduceLeDiff]<;>rfl)); rintro _ rfl)|((with_reducible first|refine wG_decE (fun _ hG=>?_) (fun _ hG=>?_)|refine wG_decFE (fun _ hG=>?_) (fun _ hG=>?_))<;>(try simp -dsimp only [hG,decide_true,decide_false,not_true_eq_false,not_false_eq_true])<;>clear hG))<;>(try simp -dsimp (disch:=first|omega|(simp only [go_sem]; omega)) only [go_sem,seval,Nat.reduceEqDiff,Nat.reduceLeDiff,h4,eq_self]))|simp -dsimp (disch:=first|omega|(simp only [go_sem]; omega)) only [go_sem,seval,Nat.reduceEqDiff,Nat.reduceLeDiff,h4,eq_self]))
 all_goals first|exact Fin.p rfl rfl|trace_state
end Go.Proofs.YtgoleoihpgmcbaaGreat
