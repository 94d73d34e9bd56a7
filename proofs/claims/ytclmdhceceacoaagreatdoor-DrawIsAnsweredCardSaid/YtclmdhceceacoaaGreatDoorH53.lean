/-
 Layer 43: challenges; an answer.
 Conditions: of each contract as it says.
-/
import Derived.Test.YtclmdhceceacoaaGreatDoorH51
import Derived.Test.YtclmdhceceacoaaGreatDoorH22
namespace Go.Proofs.YtclmdhceceacoaaGreatDoor
open Go Go.E2 CW CH C44
set_option linter.unusedSimpArgs false
set_option maxHeartbeats 4000000
def AskOk (ask:List (Nat × Nat)) (n:Nat):Prop:=∀ x ∈ ask,x.1 < n∧x.2 < P
theorem wildN_ok {y:Nat} (h:y < P):CallP Tryz.prog f_zz61 [eN y] (·=.d (.bool false)):=by
 have:=wild_ok (y:Int)
 have hP:P=2147483647:=rfl
 rwa [decide_eq_false (fun h1:bad (y:Int)=>h1 ⟨by omega,by omega⟩)] at this
theorem challenge_ok (ask:List (Nat × Nat)) (n:Nat) (h:AskOk ask n) (hl:ask.length≤100000):CallP Tryz.prog f_zz37 [.list (ask.map eQ),eN n] (·=.d (eN 0)):=by
 refine callP_of_W fol zz37_cp ?_
 refine goS trivial ?_
 (refine goX trivial ?_; (repeat' (with_reducible apply Br.mk<;>intro _)))
 refine W.loop (fun q st=>∃ (k:Nat) (b6:Blk),k≤ask.length∧q=ask.length - k ∧
  st=(E [(9,.d (eN k)),(8,.d (eN ask.length)),(7,.d (.list (ask.map eQ))),(1,.d (eN n))],HB [(6,b6)],[],noGh))
  ⟨_,_,stleB (HB_pad [] [6] rfl).symm,0,_,by omega,rfl,rfl⟩ ?_
 rintro q st ⟨k,b6,hk,rfl,rfl⟩
 by_cases g1:(k:Int) < (ask.length:Int)
 case neg =>
  obtain rfl:k=ask.length:=by omega
  (refine goX g1 ?_; (repeat' (with_reducible apply Br.mk<;>intro _)))
  exact Fin.p rfl rfl
 have hk':k < ask.length:=by omega
 obtain ⟨h1,h2⟩:=h _ (List.getElem_mem hk')
 obtain ⟨p,hp⟩:∃ p,ask[k]=p:=⟨_,rfl⟩
 rw [hp] at h1 h2
 obtain ⟨bx,y⟩:=p
 simp only at h1 h2
 have hw:=wildN_ok h2
 have b1:¬ (bx:Int) < 0:=by omega
 have b2:¬ (bx:Int) ≥ (n:Int):=by omega
 (refine goX1 (nn g1 (nn hk' (nn hp (nn b1 b2)))) (hw) ?_; (repeat' (with_reducible apply Br.mk<;>intro _)))
 refine ⟨_,_,?_,stleB (by rfl),k + 1,_,by omega,rfl,rfl⟩
 omega
theorem plain_ok (x:D) (sums:List Nat) (all:Nat) (hl:sums.length≤100000):CallS Tryz.prog f_zz58 [x,eN all] [SlA 1 x (sums.map eN)] (fun r post=>∃ y,r=.d (.agg [y,eN all])∧post=[SlA 1 y (sums.map eN),SlA 1 x (sums.map eN)]):=by
 refine callS_of_W fol zz58_cp fun R G σ hs=>?_
 have hm:=mostBytes_eq
 have hls:vLen false (some x)=some (.d (.int .i64 (sums.length:Int))):=by have:=hs.gv.len; rwa [List.length_map] at this
 refine goS hls ?_
 (refine goX hls ?_; (repeat' (with_reducible apply Br.mk<;>intro _)))
 refine W.loop (fun q st=>∃ (k:Nat) (y:D) (G:Gh),k≤sums.length∧q=sums.length - k∧Sep (SlA 1 y ((sums.take k).map eN)::SlA 1 x (sums.map eN)::R) G ∧
  st=(E [(12,.d (eN k)),(11,.d (eN sums.length)),(10,.d x),(5,.ptr 0 5 1 0),(4,.ptr 0 4 1 0)],HB [(4,⟨1,some [.nilS,eI 0]⟩),(5,⟨1,some [y,eN all]⟩)],σ,G))
  ⟨_,_,stleB (by rfl),0,.nilS,G,by omega,rfl,by rw [List.take_zero]; exact hs.slNil,rfl⟩ ?_
 clear hs
 rintro q st ⟨k,y,G,hk,rfl,hs,rfl⟩
 have hv:=hs.gv
 have hy1:y.one=true:=by rcases hv.shape with rfl|⟨b1,n1,c1,rfl⟩<;>rfl
 by_cases g1:(k:Int) < (sums.length:Int)
 case neg =>
  obtain rfl:k=sums.length:=by omega
  rw [List.take_length] at hs
  rcases hv.shape with rfl|⟨b1,n1,c1,rfl⟩
  all_goals
   (refine goX g1 ?_; (repeat' (with_reducible apply Br.mk<;>intro _)))
   exact Fin.eq rfl ⟨rfl,_,⟨_,rfl,rfl⟩,hs⟩
 have hk':k < sums.length:=by omega
 have hvx:=hs.tail.gv
 obtain ⟨b0,c0,cs,rfl,hb0,hr⟩:=hvx.inv (by intro e; rw [List.map_eq_nil_iff] at e; rw [e] at hk'; simp at hk')
 rw [List.length_map] at hr
 have hget:vCells false 1 (some cs) (k * 1)=some (.d (eN sums[k])):=by
  have:=hr.fld (i:=k) (j:=0) (by simpa using hk') (by omega)
  rw [Nat.add_zero] at this
  rw [this,List.getElem_map]; rfl
 have htk:sums.take (k + 1)=sums.take k ++ [sums[k]]:=List.take_succ_eq_append_getElem hk'
 generalize sums[k]=v at *
 have hl2:(sums.take k).length=k:=by rw [List.length_take]; omega
 (refine goX (nn g1 (nn hk' (nn hb0 (nn hget hy1)))) ?_; (repeat' (with_reducible apply Br.mk<;>intro _)))
 refine appV_GV2 hv (viewC_list (es:=[eN v]) rfl) rfl rfl rfl (by rw [List.length_map,hm,hl2]; show (_ + 1) * 8≤_; omega) fun y' G4 hg hto=>?_
 have hs3:=hs.grow hto (es':=(sums.take (k + 1)).map eN) (by rw [htk,List.map_append]; exact hg)
 obtain ⟨b8,c8,cs8,hxe,_,_⟩:=hg.inv (by simp)
 generalize (List.map eN (List.take k sums) ++ [eN v]).length=n8 at hxe
 subst hxe
 refine goS trivial ?_
 (refine goX trivial ?_; (repeat' (with_reducible apply Br.mk<;>intro _)))
 refine ⟨_,_,?_,stleB (by rfl),k + 1,_,G4,by omega,rfl,hs3,rfl⟩
 omega
end Go.Proofs.YtclmdhceceacoaaGreatDoor
/-
 Layer 43: the answer to a challenge.
 Conditions: of each contract as it says.
-/
namespace Go.Proofs.YtclmdhceceacoaaGreatDoor
open Go Go.E2 CW CH C44
set_option linter.unusedSimpArgs false
set_option maxHeartbeats 4000000
def midS (w:Nat) (S:List Nat) (s:List UInt8) (y j:Nat):List Nat:=(List.range w).map fun i=>if i < j then (S.getD i 0 + sy s i * y % P) % P else S.getD i 0
theorem midS_len (w:Nat) (S:List Nat) (s:List UInt8) (y j:Nat):(midS w S s y j).length=w:=by simp [midS]
theorem midS_get {w:Nat} {S:List Nat} {s:List UInt8} {y j i:Nat} (h:i < w):(midS w S s y j)[i]?=some (if i < j then (S.getD i 0 + sy s i * y % P) % P else S.getD i 0):=by
 rw [midS,List.getElem?_map,List.getElem?_range h]; rfl
theorem midS_zero {w:Nat} {S:List Nat} (s:List UInt8) (y:Nat) (h:S.length=w):midS w S s y 0=S:=by
 refine List.ext_getElem? fun i=>?_
 rcases Nat.lt_or_ge i w with hi|hi
 · rw [midS_get hi,if_neg (by omega),List.getD_eq_getElem?_getD,List.getElem?_eq_getElem (by omega)]; rfl
 · rw [List.getElem?_eq_none (by rw [midS_len]; exact hi),List.getElem?_eq_none (by omega)]
theorem midS_set {w:Nat} {S:List Nat} {s:List UInt8} {y j:Nat} (h:j < w):(midS w S s y j).set j ((S.getD j 0 + sy s j * y % P) % P)=midS w S s y (j + 1):=by
 refine List.ext_getElem? fun i=>?_
 rw [List.getElem?_set,midS_len]
 by_cases e:j=i
 · subst e
   rw [if_pos rfl,if_pos h,midS_get h,if_pos (by omega)]
 · rw [if_neg e]
   rcases Nat.lt_or_ge i w with hi|hi
   · rw [midS_get hi,midS_get hi]
     by_cases h2:i < j
     · rw [if_pos h2,if_pos (by omega)]
     · rw [if_neg h2,if_neg (by omega)]
   · rw [List.getElem?_eq_none (by rw [midS_len]; exact hi),List.getElem?_eq_none (by rw [midS_len]; exact hi)]
theorem ansS_res (w:Nat) (blk:Nat→List UInt8) (ask:List (Nat × Nat)):res (ansS w blk ask):=fun x hx=>by
 obtain ⟨j,_,rfl⟩:=List.mem_map.1 hx
 exact Nat.mod_lt _ (by decide)
theorem midS_end {w:Nat} {blk:Nat→List UInt8} {l:List (Nat × Nat)} {b y j:Nat} (hz:∀ i,j≤i→sy (blk b) i=0) :
 midS w (ansS w blk l) (blk b) y j=ansS w blk (l ++ [(b,y)]):=by
 refine List.ext_getElem? fun i=>?_
 rcases Nat.lt_or_ge i w with hi|hi
 · rw [midS_get hi,ansS_get hi,ansS,List.getElem?_map,List.getElem?_range hi,Option.map_some,asum_snoc]
   by_cases h:i < j
   · rw [if_pos h,Nat.add_mod (asum _ l)]
   · rw [if_neg h,hz i (by omega),Nat.zero_mul,Nat.add_zero]
 · rw [List.getElem?_eq_none (by rw [midS_len]; exact hi),List.getElem?_eq_none (by rw [ansS_len]; exact hi)]
theorem symsE_all (l:List (List UInt8)):(l.map fun s=>D.list ((syms s).map eN)).all (sizeOk 1)=true:=by rw [List.all_eq_true]; intro x hx; obtain ⟨s,_,rfl⟩:=List.mem_map.1 hx; rfl
def eSy (s:List UInt8):D:=.list ((syms s).map eN)
attribute [go_sem] eSy
@[go_sem] theorem eSy_all (l:List (List UInt8)):(l.map eSy).all (sizeOk 1)=true:=symsE_all l
theorem Answer_ok (w:Nat) (hw:1≤w∧w≤64) (blks:List (List UInt8)) (hb:blks.length≤200) (hs:∀ s ∈ blks,s.length≤100000∧syN s≤w) (tags:List Nat) (ht:res tags) (htl:tags.length=blks.length)
 (ask:List (Nat × Nat)) (ha:AskOk ask blks.length) (hal:ask.length≤100000) :
 CallP Tryz.prog f_zz51 [eN w,.list (blks.map D.str),.list (tags.map eN),.list (ask.map eQ)] (·=.tup [.agg [.list ((ansS w (fun k=>blks.getD k []) ask).map eN),eN (asum (fun k=>tags.getD k 0) ask % P)],eI 0]):=by
 refine CallP.of_deep (callT_of_W fol zz51_cp ?_)
 have hm:=mostBytes_eq
 have w1:¬ (w:Int) < 1:=by omega
 have w2:¬ (w:Int) > 64:=by omega
 have w3:¬ (blks.length:Int) > 200:=by omega
 have w4:(tags.length:Int)=(blks.length:Int):=by omega
 refine goS trivial ?_
 (refine goX (nn w1 (nn w2 (nn w3 w4))) ?_; (repeat' (with_reducible apply Br.mk<;>intro _)))
 refine W.loop (fun q st=>∃ k:Nat,k≤blks.length∧q=blks.length - k ∧
  st=(E [(41,.d (eN k)),(40,.d (eN blks.length)),(39,.d (.list (blks.map D.str))),(10,.own 1 ((blks.take k).map eSy)),(8,.ptr 0 8 1 0),(0,.d (eN w)),(1,.d (.list (blks.map D.str))),(2,.d (.list (tags.map eN))),(3,.d (.list (ask.map eQ)))],HB [(8,⟨1,some [.nilS,eI 0]⟩)],[],noGh))
  ⟨_,_,stleB (by rfl),0,by omega,rfl,rfl⟩ ?_
 rintro q st ⟨k,hk,rfl,rfl⟩
 by_cases g1:(k:Int) < (blks.length:Int)
 case pos =>
  have hk':k < blks.length:=by omega
  obtain ⟨h1,h2⟩:=hs _ (List.getElem_mem hk')
  obtain ⟨s,hse⟩:∃ s,blks[k]=s:=⟨_,rfl⟩
  rw [hse] at h1 h2
  have hy:=Symbols_ok s h1
  have hsl:=syms_len s
  have h3:¬ ((syms s).length:Int) > (w:Int):=by omega
  have htk:(blks.take (k + 1)).map eSy=(blks.take k).map eSy ++ [.list ((syms s).map eN)]:=by rw [List.take_succ_eq_append_getElem hk',hse,List.map_append]; rfl
  have hll:((blks.take k).map eSy).length=k:=by rw [List.length_map,List.length_take]; omega
  generalize (blks.take k).map eSy=T at *
  (refine goX1 (nn g1 (nn hk' (nn hse (nn h3 hll)))) (hy) ?_; (repeat' (with_reducible apply Br.mk<;>intro _)))
  refine ⟨_,_,?_,st_leB (by (simp -dsimp (disch:=first|omega|(simp only [go_sem]; omega)) only [go_sem,seval,Nat.reduceEqDiff,Nat.reduceLeDiff,htk]<;>((repeat' apply And.intro)<;>first|exact VLe.refl _|(apply vle_int; omega)|(apply vle_int; simp; done)|exact VLe.own _ _|exact VLe.nilown _|exact VLe.norm _))) (by rfl),k + 1,by omega,rfl,rfl⟩
  omega
 obtain rfl:k=blks.length:=by omega
 rw [List.take_length]
 have hc1:=ContainsN_ok ht (by omega)
 have hc2:=challenge_ok ask blks.length ha hal
 have q1:(w:Int)≤(w:Int):=Int.le_refl _
 have q2:w * 8≤140737488355328:=by omega
 (refine goX2 (nn g1 (nn q1 q2)) (hc1) (hc2) ?_; (repeat' (with_reducible apply Br.mk<;>intro _)))
 refine wNew_mk fun b hb0=>?_
 simp -dsimp (disch:=first|omega|(simp only [go_sem]; omega)) only [go_sem,seval,Nat.reduceEqDiff,Nat.reduceLeDiff,Int.toNat_natCast]
 have hcb:Sep [CellA b (rep w [eI 0])] (noGh.set b (some (rep w [eI 0]))):=Sep.new hb0 Sep.nil
 have hr0:Row 1 w w ((ansS w (fun k=>blks.getD k []) []).map eN) (rep w [eI 0]):=by
  have:=row_rep (sz:=1) (eN 0) rfl w
  have e:(ansS w (fun k=>blks.getD k []) []).map eN=List.replicate w (eN 0):=by
   have:ansS w (fun k=>blks.getD k []) []=List.replicate w 0:=by
    refine List.ext_getElem? fun i=>?_
    rw [ansS,List.getElem?_map]
    rcases Nat.lt_or_ge i w with hi|hi
    · rw [List.getElem?_range hi,List.getElem?_replicate,if_pos hi]; rfl
    · rw [List.getElem?_eq_none (by rw [List.length_range]; exact hi),List.getElem?_replicate,if_neg (by omega)]; rfl
   rw [this,List.map_replicate]
  rw [e]; exact this
 generalize noGh.set b (some (rep w [D.int IntKind.i64 0]))=G0 at hcb ⊢
 generalize rep w [D.int IntKind.i64 0]=cs0 at hcb hr0
 obtain ⟨blk,hblk⟩:∃ blk:Nat→List UInt8,blk=fun k=>blks.getD k []:=⟨_,rfl⟩
 rw [← hblk] at hr0 ⊢
 (refine goX trivial ?_; (repeat' (with_reducible apply Br.mk<;>intro _)))
 refine W.loop (fun q st=>∃ (k:Nat) (b18:Blk) (cs:List D) (G:Gh) (al:Nat),k≤ask.length∧q=ask.length - k∧al=asum (fun k=>tags.getD k 0) (ask.take k) % P∧Sep [CellA b cs] G∧Row 1 w w ((ansS w blk (ask.take k)).map eN) cs ∧
  st=(E [(72,.d (eN k)),(71,.d (eN ask.length)),(70,.d (.list (ask.map eQ))),(16,.d (eN al)),(15,.d (.gs b 0 w w)),(10,.own 1 (blks.map eSy)),(8,.ptr 0 8 1 0),(2,.d (.list (tags.map eN)))],HB [(8,⟨1,some [.nilS,eI 0]⟩),(18,b18)],[],G))
  ⟨_,_,stleB (HB_pad [(8,_)] [18] rfl).symm,0,_,_,G0,0,by omega,rfl,rfl,hcb,by rw [List.take_zero]; exact hr0,rfl⟩ ?_
 clear hcb hr0 hb0
 rintro q st ⟨k,b18,cs,G,al,hk,rfl,hal2,hcb,hr,rfl⟩
 by_cases g2:(k:Int) < (ask.length:Int)
 case neg =>
  obtain rfl:k=ask.length:=by omega
  rw [List.take_length] at hr hal2
  subst hal2
  have hsep:Sep [SlA 1 (.gs b 0 w w) ((ansS w blk ask).map eN)] G:=Sep.toSl hcb hr
  (refine goX g2 ?_; (repeat' (with_reducible apply Br.mk<;>intro _)))
  refine goM (plain_ok (.gs b 0 w w) (ansS w blk ask) (asum (fun k=>tags.getD k 0) ask % P) (by rw [ansS_len]; omega)) hsep ?_
  rintro _ _ G2 ⟨y,rfl,rfl⟩ hs2
  have hv:=hs2.gv
  have hdy:=hv.dr
  rcases hv.shape with rfl|⟨b1,n1,c1,rfl⟩
  all_goals
   refine goS trivial ?_
   (refine goX trivial ?_; (repeat' (with_reducible apply Br.mk<;>intro _)))
   refine Fin.eq rfl ⟨rfl,_,.tup _ _ (.cons ?_ (.cons (.refl _) .nil)),rfl⟩
   have h3:=DRs.cons hdy (.cons (.refl (eN (asum (fun k=>tags.getD k 0) ask % P))) .nil)
   exact DR.agg _ _ h3.1 h3.2
 have hk':k < ask.length:=by omega
 obtain ⟨h1,h2⟩:=ha _ (List.getElem_mem hk')
 have htk:ask.take (k + 1)=ask.take k ++ [ask[k]]:=List.take_succ_eq_append_getElem hk'
 obtain ⟨p,hp⟩:∃ p,ask[k]=p:=⟨_,rfl⟩
 rw [hp] at h1 h2 htk
 obtain ⟨bx,y⟩:=p
 simp only at h1 h2
 have hbs:=hs _ (List.getElem_mem h1)
 have hbk:blk bx=blks[bx]:=by rw [hblk]; show blks.getD bx []=_; rw [List.getD_eq_getElem?_getD,List.getElem?_eq_getElem h1]; rfl
 have hend:∀ i,syN (blk bx)≤i→sy (blk bx) i=0:=fun i hi=>sy_out (by unfold syN at hi; omega)
 have hme:=midS_end (w:=w) (blk:=blk) (l:=ask.take k) (b:=bx) (y:=y) hend
 rw [← htk] at hme
 have hSl:=ansS_len w blk (ask.take k)
 have hSr:=ansS_res w blk (ask.take k)
 rw [← hbk] at hbs
 have hesy:eSy (blks[bx])=.list ((syms (blk bx)).map eN):=by rw [hbk]; rfl
 have hbsl:blks[bx]=blk bx:=hbk.symm
 have has:asum (fun k=>tags.getD k 0) (ask.take (k + 1))=asum (fun k=>tags.getD k 0) (ask.take k) + tags.getD bx 0 * y:=by rw [htk,asum_snoc]
 have hbt:bx < tags.length:=by omega
 rw [getD_get hbt] at has
 have htb:=ht _ (List.getElem_mem hbt)
 generalize hS:ansS w blk (ask.take k)=S at *
 generalize asum (fun k=>tags.getD k 0) (ask.take k)=A at has hal2
 generalize hs0:blk bx=s at *
 obtain ⟨s1,s2⟩:=hbs
 have hsl:=syms_len s
 have hsl':((syms s).length:Int)=((syN s:Nat):Int):=by rw [hsl]
 (refine goX (nn g2 (nn hk' (nn hp (nn h1 (nn hbsl hsl'))))) ?_; (repeat' (with_reducible apply Br.mk<;>intro _)))
 refine W.loop (fun q st=>∃ (j:Nat) (cs:List D) (G:Gh),j≤syN s∧q=syN s - j∧Sep [CellA b cs] G∧Row 1 w w ((midS w S s y j).map eN) cs ∧
  st=(E [(82,.d (eN j)),(81,.d (eN (syN s))),(80,.d (.list ((syms s).map eN))),(72,.d (eN k)),(71,.d (eN ask.length)),(70,.d (.list (ask.map eQ))),(18,.ptr 0 18 (b18.g + 1) 0),(16,.d (eN al)),(15,.d (.gs b 0 w w)),(10,.own 1 (blks.map eSy)),(8,.ptr 0 8 1 0),(2,.d (.list (tags.map eN)))],HB [(8,⟨1,some [.nilS,eI 0]⟩),(18,⟨b18.g + 1,some [eN bx,eN y]⟩)],[],G))
  ⟨_,_,stleB (by rfl),0,_,_,by omega,rfl,hcb,by rw [midS_zero _ _ hSl]; exact hr,rfl⟩ ?_
 clear hcb hr
 rintro q st ⟨j,cs,G,hj,rfl,hcb,hr,rfl⟩
 have hcg:G.c b=some cs:=hcb.get
 by_cases g3:(j:Int) < ((syN s:Nat):Int)
 case neg =>
  obtain rfl:j=syN s:=by omega
  rw [hme] at hr
  have htm:=times_ok tags[bx] y htb h2
  have hsm:=sum_ok [al,tags[bx] * y % P] (by
   intro x hx
   rcases List.mem_cons.1 hx with rfl|hx
   · rw [hal2]; exact Nat.mod_lt _ (by decide)
   · rw [List.mem_singleton.1 hx]; exact Nat.mod_lt _ (by decide)) (by simp)
  have hsv:[al,tags[bx] * y % P].sum % P=asum (fun k=>tags.getD k 0) (ask.take (k + 1)) % P:=by
   rw [List.sum_cons,List.sum_singleton,has,hal2,← Nat.add_mod]
  rw [hsv] at hsm
  generalize htv:tags[bx]=tv at *
  generalize tv * y % P=ty at *
  generalize hA':asum (fun k=>tags.getD k 0) (ask.take (k + 1)) % P=A' at hsm
  have hsm':CallP Tryz.prog f_zz65 [.list [eN al,eN ty]] (·=.d (eN A')):=hsm
  (refine goX2 (nn g3 (nn hbt htv)) (htm) (hsm') ?_; (repeat' (with_reducible apply Br.mk<;>intro _)))
  refine ⟨_,_,?_,stleB (by rfl),k + 1,_,_,G,A',by omega,rfl,hA'.symm,hcb,hr,rfl⟩
  omega
 have hj2:j < syN s:=by omega
 have hj3:j < (syms s).length:=by omega
 have hj4:j < w:=by omega
 have hsy:(syms s)[j]=sy s j:=by simp [syms]
 have hml:=midS_len w S s y j
 have hmj:(midS w S s y j)[j]?=some (S.getD j 0):=by rw [midS_get hj4,if_neg (Nat.lt_irrefl j)]
 have hmg:(midS w S s y j)[j]'(by omega)=S.getD j 0:=by
  have:=List.getElem?_eq_getElem (l:=midS w S s y j) (i:=j) (by omega)
  rw [hmj] at this
  exact (Option.some.inj this).symm
 have hSj:S.getD j 0 < P:=by rw [getD_get (by omega)]; exact hSr _ (List.getElem_mem _)
 have hP:P=2147483647:=rfl
 have hsylt:=sy_lt s j
 have htm:=times_ok (sy s j) y (by omega) h2
 have hsm:=sum_ok [S.getD j 0,sy s j * y % P] (by
  intro x hx
  rcases List.mem_cons.1 hx with rfl|hx
  · exact hSj
  · rw [List.mem_singleton.1 hx]; exact Nat.mod_lt _ (by decide)) (by simp)
 rw [List.sum_cons,List.sum_singleton] at hsm
 have hset:=midS_set (w:=w) (S:=S) (s:=s) (y:=y) hj4
 have hfit:=hr.fits (i:=j) (by rw [List.length_map]; omega)
 have hrs:=hr.set (i:=j) (by rw [List.length_map]; omega) (x:=eN ((S.getD j 0 + sy s j * y % P) % P)) rfl
 rw [← List.map_set,hset] at hrs
 have hget:vCells false 1 (some cs) (j * 1)=some (.d (eN (S.getD j 0))):=by
  have:=hr.fld (i:=j) (j:=0) (by rw [List.length_map]; omega) (by omega)
  rw [Nat.add_zero] at this
  rw [this,List.getElem_map,hmg]; rfl
 generalize hsyv:sy s j=sj at *
 generalize sj * y % P=ty at *
 generalize S.getD j 0=Sj at *
 generalize (Sj + ty) % P=nv at *
 have hsm':CallP Tryz.prog f_zz65 [.list [eN Sj,eN ty]] (·=.d (eN nv)):=hsm
 (refine goX2 (nn g3 (nn hj3 (nn hsy (nn hj4 (nn hcg (nn hget hfit)))))) (htm) (hsm') ?_; (repeat' (with_reducible apply Br.mk<;>intro _)))
 refine ⟨_,_,?_,stleB (by rfl),j + 1,_,_,by omega,rfl,hcb.set,hrs,rfl⟩
 omega
end Go.Proofs.YtclmdhceceacoaaGreatDoor
/-
 Layer 43: whether an answer is accepted.
 Conditions: of each contract as it says.
-/
namespace Go.Proofs.YtclmdhceceacoaaGreatDoor
open Go Go.E2 CW CH C44
set_option linter.unusedSimpArgs false
set_option maxHeartbeats 4000000
def accV (mix seeds sums:List Nat) (ask:List (Nat × Nat)):Nat:=dotN mix (fun j=>sums.getD j 0) mix.length + asum (fun k=>seeds.getD k 0) ask
theorem KeyOk.verify {mix seeds:List Nat} (h:KeyOk mix seeds) (ask:List (Nat × Nat)) (ha:AskOk ask seeds.length) (hal:ask.length≤100000) (sums:List Nat) (hsr:res sums) (hsl:sums.length=mix.length) (tg:Nat) (ht:tg < P) :
 CallP Tryz.prog f_zz52 [.agg [.list (mix.map eN),.list (seeds.map eN)],.list (ask.map eQ),.agg [.list (sums.map eN),eN tg]] (·=.d (eN (if accV mix seeds sums ask % P=tg then 0 else 23))):=by
 refine callP_of_W fol zz52_cp ?_
 have hc:=h.check
 have m2:=h.m2
 have s2:=h.s2
 have hw:=wildN_ok ht
 have hcs:=ContainsN_ok hsr (by omega)
 have hch:=challenge_ok ask seeds.length ha hal
 have hp:=product_ok mix sums h.mr hsr (by omega) (by omega)
 have hl:(sums.length:Int)=(mix.length:Int):=by omega
 have hdn:fsum (fun j=>mix.getD j 0 * sums.getD j 0) sums.length=dotN mix (fun j=>sums.getD j 0) mix.length:=by rw [hsl]; rfl
 rw [hdn] at hp
 have hacc:accV mix seeds sums ask=dotN mix (fun j=>sums.getD j 0) mix.length + asum (fun k=>seeds.getD k 0) ask:=rfl
 generalize dotN mix (fun j=>sums.getD j 0) mix.length=dn at *
 refine goS trivial ?_
 (refine goX4 hl (hc) (hw) (hcs) (hch) ?_; (repeat' (with_reducible apply Br.mk<;>intro _)))
 refine goC hp ?_
 (refine goX trivial ?_; (repeat' (with_reducible apply Br.mk<;>intro _)))
 refine W.loop (fun q st=>∃ (k:Nat) (b11:Blk) (al:Nat),k≤ask.length∧q=ask.length - k∧al=(dn + asum (fun k=>seeds.getD k 0) (ask.take k)) % P ∧
  st=(E [(49,.d (eN k)),(48,.d (eN ask.length)),(47,.d (.list (ask.map eQ))),(9,.d (eN al)),(3,.ptr 0 3 1 0),(5,.ptr 0 5 1 0)],HB [(3,⟨1,some [.list (mix.map eN),.list (seeds.map eN)]⟩),(5,⟨1,some [.list (sums.map eN),eN tg]⟩),(11,b11)],[],noGh))
  ⟨_,_,stleB (HB_pad [(3,_),(5,_)] [11] rfl).symm,0,_,dn % P,by omega,rfl,rfl,rfl⟩ ?_
 rintro q st ⟨k,b11,al,hk,rfl,hal2,rfl⟩
 by_cases g1:(k:Int) < (ask.length:Int)
 case neg =>
  obtain rfl:k=ask.length:=by omega
  rw [List.take_length,← hacc] at hal2
  rw [← hal2]
  by_cases e:al=tg
  · rw [if_pos e]
    have e2:((al:Int)=(tg:Int))=True:=eq_true (by omega)
    (refine goX (nn g1 e2) ?_; (repeat' (with_reducible apply Br.mk<;>intro _)))
    exact Fin.p rfl rfl
  · rw [if_neg e]
    have e2:¬ (al:Int)=(tg:Int):=by omega
    (refine goX (nn g1 e2) ?_; (repeat' (with_reducible apply Br.mk<;>intro _)))
    exact Fin.p rfl rfl
 have hk':k < ask.length:=by omega
 obtain ⟨h1,h2⟩:=ha _ (List.getElem_mem hk')
 have htk:ask.take (k + 1)=ask.take k ++ [ask[k]]:=List.take_succ_eq_append_getElem hk'
 obtain ⟨p,hp1⟩:∃ p,ask[k]=p:=⟨_,rfl⟩
 rw [hp1] at h1 h2 htk
 obtain ⟨bx,y⟩:=p
 simp only at h1 h2
 have has:asum (fun k=>seeds.getD k 0) (ask.take (k + 1))=asum (fun k=>seeds.getD k 0) (ask.take k) + seeds.getD bx 0 * y:=by rw [htk,asum_snoc]
 rw [getD_get h1] at has
 have hsb:=h.sr _ (List.getElem_mem h1)
 have htm:=times_ok seeds[bx] y hsb h2
 have hsm:=sum_ok [al,seeds[bx] * y % P] (by
  intro x hx
  rcases List.mem_cons.1 hx with rfl|hx
  · rw [hal2]; exact Nat.mod_lt _ (by decide)
  · rw [List.mem_singleton.1 hx]; exact Nat.mod_lt _ (by decide)) (by simp)
 have hsv:[al,seeds[bx] * y % P].sum % P=(dn + asum (fun k=>seeds.getD k 0) (ask.take (k + 1))) % P:=by
  rw [List.sum_cons,List.sum_singleton,has,hal2,← Nat.add_mod,Nat.add_assoc]
 rw [hsv] at hsm
 generalize hsx:seeds[bx]=sx at *
 generalize sx * y % P=ty at *
 generalize hA':(dn + asum (fun k=>seeds.getD k 0) (ask.take (k + 1))) % P=A' at hsm
 have hsm':CallP Tryz.prog f_zz65 [.list [eN al,eN ty]] (·=.d (eN A')):=hsm
 (refine goX2 (nn g1 (nn hk' (nn hp1 (nn h1 hsx)))) (htm) (hsm') ?_; (repeat' (with_reducible apply Br.mk<;>intro _)))
 refine ⟨_,_,?_,stleB (by rfl),k + 1,_,A',by omega,rfl,hA'.symm,rfl⟩
 omega
def syP (s:List UInt8) (j:Nat):Nat→Nat
 | 0=>0
 | i + 1=>syP s j i * 256 + byAt s (3 * j + i)
theorem syP_lt (s:List UInt8) (j:Nat):∀ i,syP s j i < 256 ^ i
 | 0=>Nat.zero_lt_one
 | i + 1=>by
   have h1:=syP_lt s j i
   have h2:=byAt_lt s (3 * j + i)
   rw [syP,Nat.pow_succ]
   have:(syP s j i + 1) * 256≤256 ^ i * 256:=Nat.mul_le_mul_right 256 h1
   omega
theorem syP_3 (s:List UInt8) (j:Nat):syP s j 3=sy s j:=by
 simp only [syP,sy,Nat.zero_mul,Nat.zero_add,Nat.add_zero]
theorem symbol_ok (s:List UInt8) (hs:s.length≤100000) (j:Nat) (hj:j≤100000):CallP Tryz.prog f_zz13 [.str s,eN j] (·=.d (eN (sy s j))):=by
 refine callP_of_W fol zz13_cp ?_
 have e3:3 * (j:Int)=((3 * j:Nat):Int):=by omega
 have e4:((3 * j:Nat):Int) + 3=((3 * j + 3:Nat):Int):=by omega
 refine goS trivial ?_
 (refine goX e3 ?_; (repeat' (with_reducible apply Br.mk<;>intro _)))
 refine W.loop (fun q st=>∃ i:Nat,i≤3∧q=3 - i ∧
  st=(E [(6,.d (eN (3 * j + i))),(5,.d (eN (syP s j i))),(0,.d (.str s)),(1,.d (eN j))],HB [],[],noGh))
  ⟨_,_,stleB (by rfl),0,by omega,rfl,rfl⟩ ?_
 rintro q st ⟨i,hi,rfl,rfl⟩
 by_cases g1:((3 * j + i:Nat):Int) < ((3 * j + 3:Nat):Int)
 case neg =>
  obtain rfl:i=3:=by omega
  rw [← syP_3]
  (refine goX (nn e3 (nn e4 g1)) ?_; (repeat' (with_reducible apply Br.mk<;>intro _)))
  exact Fin.p rfl rfl
 have hlt:=syP_lt s j i
 have hp:256 ^ i≤256 ^ 2:=Nat.pow_le_pow_right (by decide) (by omega)
 have hst:syP s j (i + 1)=syP s j i * 256 + byAt s (3 * j + i):=rfl
 have hp2:(256:Nat) ^ 2=65536:=by decide
 rw [hp2] at hp
 generalize syP s j i=n at *
 have e5:(n:Int) * 256=((n * 256:Nat):Int):=by omega
 by_cases g2:((3 * j + i:Nat):Int) < (s.length:Int)
 · have hk:3 * j + i < s.length:=by omega
   have hb:byAt s (3 * j + i)=s[3 * j + i].toNat:=by rw [byAt,dif_pos hk]
   have hbl:=byAt_lt s (3 * j + i)
   have hw:=wrapB s[3 * j + i]
   rw [hb] at hst hbl
   have e6:((n * 256:Nat):Int) + (s[3 * j + i].toNat:Int)=((n * 256 + s[3 * j + i].toNat:Nat):Int):=by omega
   (refine goX (nn e3 (nn e4 (nn e5 (nn g1 (nn g2 (nn hk (nn hw e6))))))) ?_; (repeat' (with_reducible apply Br.mk<;>intro _)))
   refine ⟨_,_,?_,st_leB (by (simp -dsimp (disch:=first|omega|(simp only [go_sem]; omega)) only [go_sem,seval,Nat.reduceEqDiff,Nat.reduceLeDiff,hst]<;>((repeat' apply And.intro)<;>first|exact VLe.refl _|(apply vle_int; omega)|(apply vle_int; simp; done)|exact VLe.own _ _|exact VLe.nilown _|exact VLe.norm _))) (by rfl),i + 1,by omega,rfl,rfl⟩
   omega
 · have hb:byAt s (3 * j + i)=0:=by rw [byAt,dif_neg (by omega)]
   rw [hb,Nat.add_zero] at hst
   (refine goX (nn e3 (nn e4 (nn e5 (nn g1 g2)))) ?_; (repeat' (with_reducible apply Br.mk<;>intro _)))
   refine ⟨_,_,?_,st_leB (by (simp -dsimp (disch:=first|omega|(simp only [go_sem]; omega)) only [go_sem,seval,Nat.reduceEqDiff,Nat.reduceLeDiff,hst]<;>((repeat' apply And.intro)<;>first|exact VLe.refl _|(apply vle_int; omega)|(apply vle_int; simp; done)|exact VLe.own _ _|exact VLe.nilown _|exact VLe.norm _))) (by rfl),i + 1,by omega,rfl,rfl⟩
   omega
end Go.Proofs.YtclmdhceceacoaaGreatDoor
/-
 Layer 43: the answer to a challenge,from blocks that may change.
 Conditions: of each contract as it says.
-/
namespace Go.Proofs.YtclmdhceceacoaaGreatDoor
open Go Go.E2 CW CH C44
set_option linter.unusedSimpArgs false
set_option maxHeartbeats 4000000
theorem AnswerG_ok (b0 c0:Nat) (w:Nat) (hw:1≤w∧w≤64) (blks:List (List UInt8)) (hb:blks.length≤200) (hs:∀ s ∈ blks,s.length≤100000∧syN s≤w) (tags:List Nat) (ht:res tags) (htl:tags.length=blks.length)
 (ask:List (Nat × Nat)) (ha:AskOk ask blks.length) (hal:ask.length≤100000) :
 CallS Tryz.prog f_zz51 [eN w,.gs b0 0 blks.length c0,.list (tags.map eN),.list (ask.map eQ)] [SlA 1 (.gs b0 0 blks.length c0) (blks.map D.str)]
  (fun r post=>∃ y,r=.tup [.agg [y,eN (asum (fun k=>tags.getD k 0) ask % P)],eI 0]∧post=[SlA 1 y ((ansS w (fun k=>blks.getD k []) ask).map eN),SlA 1 (.gs b0 0 blks.length c0) (blks.map D.str)]):=by
 refine callS_of_W fol zz51_cp fun R G1 σ hs1=>?_
 have hgv0:=hs1.gv
 have hm:=mostBytes_eq
 have w1:¬ (w:Int) < 1:=by omega
 have w2:¬ (w:Int) > 64:=by omega
 have w3:¬ (blks.length:Int) > 200:=by omega
 have w4:(tags.length:Int)=(blks.length:Int):=by omega
 refine goS trivial ?_
 (refine goX (nn w1 (nn w2 (nn w3 w4))) ?_; (repeat' (with_reducible apply Br.mk<;>intro _)))
 refine W.loop (fun q st=>∃ k:Nat,k≤blks.length∧q=blks.length - k ∧
  st=(E [(41,.d (eN k)),(40,.d (eN blks.length)),(39,.d (.gs b0 0 blks.length c0)),(10,.own 1 ((blks.take k).map eSy)),(8,.ptr 0 8 1 0),(0,.d (eN w)),(1,.d (.gs b0 0 blks.length c0)),(2,.d (.list (tags.map eN))),(3,.d (.list (ask.map eQ)))],HB [(8,⟨1,some [.nilS,eI 0]⟩)],σ,G1))
  ⟨_,_,stleB (by rfl),0,by omega,rfl,rfl⟩ ?_
 rintro q st ⟨k,hk,rfl,rfl⟩
 by_cases g1:(k:Int) < (blks.length:Int)
 case pos =>
  have hk':k < blks.length:=by omega
  obtain ⟨b1,c1,cs1,hxe,hb1,hr1⟩:=hgv0.inv (by intro e; rw [List.map_eq_nil_iff] at e; rw [e] at hk'; simp at hk')
  rw [List.length_map] at hxe hr1
  cases hxe
  have hget1:vCells false 1 (some cs1) (k * 1)=some (.d (.str blks[k])):=by
   have:=hr1.fld (i:=k) (j:=0) (by simpa using hk') (by omega)
   rw [Nat.add_zero] at this
   rw [this,List.getElem_map]; rfl
  obtain ⟨h1,h2⟩:=hs _ (List.getElem_mem hk')
  obtain ⟨s,hse⟩:∃ s,blks[k]=s:=⟨_,rfl⟩
  rw [hse] at h1 h2 hget1
  have hy:=Symbols_ok s h1
  have hsl:=syms_len s
  have h3:¬ ((syms s).length:Int) > (w:Int):=by omega
  have htk:(blks.take (k + 1)).map eSy=(blks.take k).map eSy ++ [.list ((syms s).map eN)]:=by rw [List.take_succ_eq_append_getElem hk',hse,List.map_append]; rfl
  have hll:((blks.take k).map eSy).length=k:=by rw [List.length_map,List.length_take]; omega
  generalize (blks.take k).map eSy=T at *
  (refine goX1 (nn g1 (nn hk' (nn hb1 (nn hget1 (nn h3 hll))))) (hy) ?_; (repeat' (with_reducible apply Br.mk<;>intro _)))
  refine ⟨_,_,?_,st_leB (by (simp -dsimp (disch:=first|omega|(simp only [go_sem]; omega)) only [go_sem,seval,Nat.reduceEqDiff,Nat.reduceLeDiff,htk]<;>((repeat' apply And.intro)<;>first|exact VLe.refl _|(apply vle_int; omega)|(apply vle_int; simp; done)|exact VLe.own _ _|exact VLe.nilown _|exact VLe.norm _))) (by rfl),k + 1,by omega,rfl,rfl⟩
  omega
 obtain rfl:k=blks.length:=by omega
 rw [List.take_length]
 have hc1:=ContainsN_ok ht (by omega)
 have hc2:=challenge_ok ask blks.length ha hal
 have q1:(w:Int)≤(w:Int):=Int.le_refl _
 have q2:w * 8≤140737488355328:=by omega
 (refine goX2 (nn g1 (nn q1 q2)) (hc1) (hc2) ?_; (repeat' (with_reducible apply Br.mk<;>intro _)))
 refine wNew_mk fun b hb0=>?_
 simp -dsimp (disch:=first|omega|(simp only [go_sem]; omega)) only [go_sem,seval,Nat.reduceEqDiff,Nat.reduceLeDiff,Int.toNat_natCast]
 have hcb:Sep (CellA b (rep w [eI 0])::SlA 1 (.gs b0 0 blks.length c0) (blks.map D.str)::R) (G1.set b (some (rep w [eI 0]))):=Sep.new hb0 hs1
 have hr0:Row 1 w w ((ansS w (fun k=>blks.getD k []) []).map eN) (rep w [eI 0]):=by
  have:=row_rep (sz:=1) (eN 0) rfl w
  have e:(ansS w (fun k=>blks.getD k []) []).map eN=List.replicate w (eN 0):=by
   have:ansS w (fun k=>blks.getD k []) []=List.replicate w 0:=by
    refine List.ext_getElem? fun i=>?_
    rw [ansS,List.getElem?_map]
    rcases Nat.lt_or_ge i w with hi|hi
    · rw [List.getElem?_range hi,List.getElem?_replicate,if_pos hi]; rfl
    · rw [List.getElem?_eq_none (by rw [List.length_range]; exact hi),List.getElem?_replicate,if_neg (by omega)]; rfl
   rw [this,List.map_replicate]
  rw [e]; exact this
 generalize G1.set b (some (rep w [D.int IntKind.i64 0]))=G0 at hcb ⊢
 generalize rep w [D.int IntKind.i64 0]=cs0 at hcb hr0
 obtain ⟨blk,hblk⟩:∃ blk:Nat→List UInt8,blk=fun k=>blks.getD k []:=⟨_,rfl⟩
 rw [← hblk] at hr0 ⊢
 (refine goX trivial ?_; (repeat' (with_reducible apply Br.mk<;>intro _)))
 refine W.loop (fun q st=>∃ (k:Nat) (b18:Blk) (cs:List D) (G:Gh) (al:Nat),k≤ask.length∧q=ask.length - k∧al=asum (fun k=>tags.getD k 0) (ask.take k) % P∧Sep (CellA b cs::SlA 1 (.gs b0 0 blks.length c0) (blks.map D.str)::R) G∧Row 1 w w ((ansS w blk (ask.take k)).map eN) cs ∧
  st=(E [(72,.d (eN k)),(71,.d (eN ask.length)),(70,.d (.list (ask.map eQ))),(16,.d (eN al)),(15,.d (.gs b 0 w w)),(10,.own 1 (blks.map eSy)),(8,.ptr 0 8 1 0),(2,.d (.list (tags.map eN)))],HB [(8,⟨1,some [.nilS,eI 0]⟩),(18,b18)],σ,G))
  ⟨_,_,stleB (HB_pad [(8,_)] [18] rfl).symm,0,_,_,G0,0,by omega,rfl,rfl,hcb,by rw [List.take_zero]; exact hr0,rfl⟩ ?_
 clear hcb hr0 hb0
 rintro q st ⟨k,b18,cs,G,al,hk,rfl,hal2,hcb,hr,rfl⟩
 by_cases g2:(k:Int) < (ask.length:Int)
 case neg =>
  obtain rfl:k=ask.length:=by omega
  rw [List.take_length] at hr hal2
  subst hal2
  have hsep:Sep ([SlA 1 (.gs b 0 w w) ((ansS w blk ask).map eN)] ++ (SlA 1 (.gs b0 0 blks.length c0) (blks.map D.str)::R)) G:=Sep.toSl hcb hr
  (refine goX g2 ?_; (repeat' (with_reducible apply Br.mk<;>intro _)))
  refine goM (plain_ok (.gs b 0 w w) (ansS w blk ask) (asum (fun k=>tags.getD k 0) ask % P) (by rw [ansS_len]; omega)) hsep ?_
  rintro _ _ G2 ⟨y,rfl,rfl⟩ hs2
  have hs3:Sep (SlA 1 y ((ansS w blk ask).map eN)::SlA 1 (.gs b0 0 blks.length c0) (blks.map D.str)::R) G2:=Sep.tail (Sep.swap hs2)
  have hv:=hs3.gv
  rcases hv.shape with rfl|⟨b1,n1,c1,rfl⟩
  all_goals
   refine goS trivial ?_
   (refine goX trivial ?_; (repeat' (with_reducible apply Br.mk<;>intro _)))
   exact Fin.eq rfl ⟨rfl,_,⟨_,rfl,rfl⟩,hs3⟩
 have hk':k < ask.length:=by omega
 obtain ⟨h1,h2⟩:=ha _ (List.getElem_mem hk')
 have htk:ask.take (k + 1)=ask.take k ++ [ask[k]]:=List.take_succ_eq_append_getElem hk'
 obtain ⟨p,hp⟩:∃ p,ask[k]=p:=⟨_,rfl⟩
 rw [hp] at h1 h2 htk
 obtain ⟨bx,y⟩:=p
 simp only at h1 h2
 have hbs:=hs _ (List.getElem_mem h1)
 have hbk:blk bx=blks[bx]:=by rw [hblk]; show blks.getD bx []=_; rw [List.getD_eq_getElem?_getD,List.getElem?_eq_getElem h1]; rfl
 have hend:∀ i,syN (blk bx)≤i→sy (blk bx) i=0:=fun i hi=>sy_out (by unfold syN at hi; omega)
 have hme:=midS_end (w:=w) (blk:=blk) (l:=ask.take k) (b:=bx) (y:=y) hend
 rw [← htk] at hme
 have hSl:=ansS_len w blk (ask.take k)
 have hSr:=ansS_res w blk (ask.take k)
 rw [← hbk] at hbs
 have hesy:eSy (blks[bx])=.list ((syms (blk bx)).map eN):=by rw [hbk]; rfl
 have hbsl:blks[bx]=blk bx:=hbk.symm
 have has:asum (fun k=>tags.getD k 0) (ask.take (k + 1))=asum (fun k=>tags.getD k 0) (ask.take k) + tags.getD bx 0 * y:=by rw [htk,asum_snoc]
 have hbt:bx < tags.length:=by omega
 rw [getD_get hbt] at has
 have htb:=ht _ (List.getElem_mem hbt)
 generalize hS:ansS w blk (ask.take k)=S at *
 generalize asum (fun k=>tags.getD k 0) (ask.take k)=A at has hal2
 generalize hs0:blk bx=s at *
 obtain ⟨s1,s2⟩:=hbs
 have hsl:=syms_len s
 have hsl':((syms s).length:Int)=((syN s:Nat):Int):=by rw [hsl]
 (refine goX (nn g2 (nn hk' (nn hp (nn h1 (nn hbsl hsl'))))) ?_; (repeat' (with_reducible apply Br.mk<;>intro _)))
 refine W.loop (fun q st=>∃ (j:Nat) (cs:List D) (G:Gh),j≤syN s∧q=syN s - j∧Sep (CellA b cs::SlA 1 (.gs b0 0 blks.length c0) (blks.map D.str)::R) G∧Row 1 w w ((midS w S s y j).map eN) cs ∧
  st=(E [(82,.d (eN j)),(81,.d (eN (syN s))),(80,.d (.list ((syms s).map eN))),(72,.d (eN k)),(71,.d (eN ask.length)),(70,.d (.list (ask.map eQ))),(18,.ptr 0 18 (b18.g + 1) 0),(16,.d (eN al)),(15,.d (.gs b 0 w w)),(10,.own 1 (blks.map eSy)),(8,.ptr 0 8 1 0),(2,.d (.list (tags.map eN)))],HB [(8,⟨1,some [.nilS,eI 0]⟩),(18,⟨b18.g + 1,some [eN bx,eN y]⟩)],σ,G))
  ⟨_,_,stleB (by rfl),0,_,_,by omega,rfl,hcb,by rw [midS_zero _ _ hSl]; exact hr,rfl⟩ ?_
 clear hcb hr
 rintro q st ⟨j,cs,G,hj,rfl,hcb,hr,rfl⟩
 have hcg:G.c b=some cs:=hcb.get
 by_cases g3:(j:Int) < ((syN s:Nat):Int)
 case neg =>
  obtain rfl:j=syN s:=by omega
  rw [hme] at hr
  have htm:=times_ok tags[bx] y htb h2
  have hsm:=sum_ok [al,tags[bx] * y % P] (by
   intro x hx
   rcases List.mem_cons.1 hx with rfl|hx
   · rw [hal2]; exact Nat.mod_lt _ (by decide)
   · rw [List.mem_singleton.1 hx]; exact Nat.mod_lt _ (by decide)) (by simp)
  have hsv:[al,tags[bx] * y % P].sum % P=asum (fun k=>tags.getD k 0) (ask.take (k + 1)) % P:=by
   rw [List.sum_cons,List.sum_singleton,has,hal2,← Nat.add_mod]
  rw [hsv] at hsm
  generalize htv:tags[bx]=tv at *
  generalize tv * y % P=ty at *
  generalize hA':asum (fun k=>tags.getD k 0) (ask.take (k + 1)) % P=A' at hsm
  have hsm':CallP Tryz.prog f_zz65 [.list [eN al,eN ty]] (·=.d (eN A')):=hsm
  (refine goX2 (nn g3 (nn hbt htv)) (htm) (hsm') ?_; (repeat' (with_reducible apply Br.mk<;>intro _)))
  refine ⟨_,_,?_,stleB (by rfl),k + 1,_,_,G,A',by omega,rfl,hA'.symm,hcb,hr,rfl⟩
  omega
 have hj2:j < syN s:=by omega
 have hj3:j < (syms s).length:=by omega
 have hj4:j < w:=by omega
 have hsy:(syms s)[j]=sy s j:=by simp [syms]
 have hml:=midS_len w S s y j
 have hmj:(midS w S s y j)[j]?=some (S.getD j 0):=by rw [midS_get hj4,if_neg (Nat.lt_irrefl j)]
 have hmg:(midS w S s y j)[j]'(by omega)=S.getD j 0:=by
  have:=List.getElem?_eq_getElem (l:=midS w S s y j) (i:=j) (by omega)
  rw [hmj] at this
  exact (Option.some.inj this).symm
 have hSj:S.getD j 0 < P:=by rw [getD_get (by omega)]; exact hSr _ (List.getElem_mem _)
 have hP:P=2147483647:=rfl
 have hsylt:=sy_lt s j
 have htm:=times_ok (sy s j) y (by omega) h2
 have hsm:=sum_ok [S.getD j 0,sy s j * y % P] (by
  intro x hx
  rcases List.mem_cons.1 hx with rfl|hx
  · exact hSj
  · rw [List.mem_singleton.1 hx]; exact Nat.mod_lt _ (by decide)) (by simp)
 rw [List.sum_cons,List.sum_singleton] at hsm
 have hset:=midS_set (w:=w) (S:=S) (s:=s) (y:=y) hj4
 have hfit:=hr.fits (i:=j) (by rw [List.length_map]; omega)
 have hrs:=hr.set (i:=j) (by rw [List.length_map]; omega) (x:=eN ((S.getD j 0 + sy s j * y % P) % P)) rfl
 rw [← List.map_set,hset] at hrs
 have hget:vCells false 1 (some cs) (j * 1)=some (.d (eN (S.getD j 0))):=by
  have:=hr.fld (i:=j) (j:=0) (by rw [List.length_map]; omega) (by omega)
  rw [Nat.add_zero] at this
  rw [this,List.getElem_map,hmg]; rfl
 generalize hsyv:sy s j=sj at *
 generalize sj * y % P=ty at *
 generalize S.getD j 0=Sj at *
 generalize (Sj + ty) % P=nv at *
 have hsm':CallP Tryz.prog f_zz65 [.list [eN Sj,eN ty]] (·=.d (eN nv)):=hsm
 (refine goX2 (nn g3 (nn hj3 (nn hsy (nn hj4 (nn hcg (nn hget hfit)))))) (htm) (hsm') ?_; (repeat' (with_reducible apply Br.mk<;>intro _)))
 refine ⟨_,_,?_,stleB (by rfl),j + 1,_,_,by omega,rfl,hcb.set,hrs,rfl⟩
 omega
end Go.Proofs.YtclmdhceceacoaaGreatDoor
