/-
 Layer 44: Recover,of the program.
 Conditions: of each contract as it says.
-/
import Derived.Test.YtclmdhceceacoaaGreatDoorH17
namespace Go.Proofs.YtclmdhceceacoaaGreatDoor
open Go Go.E2 CW CH C44
set_option linter.unusedSimpArgs false
set_option maxHeartbeats 4000000
def Arr (t:Tk) (l:List Pc) (c:List D) (G:Gh):Prop :=
 c.length=13∧∀ i:Nat,i < 13→(fst1 t l (i:Int)=none∧c[i]?=some .nilP)∨∃ p b,fst1 t l (i:Int)=some p∧c[i]?=some (.gp b 0)∧G.c b=some [eI p.at_,eI p.val]
theorem fst1_snoc (t:Tk) (l:List Pc) (p:Pc) (i:Int):fst1 t (l ++ [p]) i=(fst1 t l i).or (if pOk t i p=true then some p else none):=by
 unfold fst1
 rw [List.find?_append,List.find?_singleton]
theorem Arr.nil (t:Tk) (G:Gh):Arr t [] (zr 13 .nilP) G:=⟨rfl,fun i hi=>.inl ⟨rfl,by
 rw [zr,List.getElem?_replicate,if_pos hi]⟩⟩
theorem Arr.new {t:Tk} {l:List Pc} {c:List D} {G:Gh} (h:Arr t l c G) {b:Nat} (hb:G.c b=none) (cs:List D):Arr t l c (G.set b (some cs)):=by
 refine ⟨h.1,fun i hi=>?_⟩
 rcases h.2 i hi with h|⟨p,b',h1,h2,h3⟩
 · exact .inl h
 · refine .inr ⟨p,b',h1,h2,?_⟩
   rw [Gh.set_c,upd,if_neg (by rintro rfl; rw [hb] at h3; cases h3)]
   exact h3
theorem Arr.same {t:Tk} {l:List Pc} {c:List D} {G:Gh} (h:Arr t l c G) {p:Pc} (hp:∀ i:Nat,i < 13→pOk t i p=true→fst1 t l i ≠ none):Arr t (l ++ [p]) c G:=by
 refine ⟨h.1,fun i hi=>?_⟩
 have e:fst1 t (l ++ [p]) i=fst1 t l i:=by
  rw [fst1_snoc]
  have:=hp i hi
  cases h1:fst1 t l i with
  | some q=>rfl
  | none =>
   rw [h1] at this
   by_cases h2:pOk t i p=true
   · exact absurd rfl (this h2)
   · rw [if_neg h2]; rfl
 rw [e]
 exact h.2 i hi
theorem Arr.put {t:Tk} {l:List Pc} {c:List D} {G:Gh} (h:Arr t l c G) {p:Pc} {a b:Nat} (ha:p.at_=(a:Int)) (h13:a < 13) (hf:fits t p=true) (hn:fst1 t l p.at_=none) (hb:G.c b=some [eI p.at_,eI p.val]):Arr t (l ++ [p]) (c.set a (.gp b 0)) G:=by
 refine ⟨by rw [List.length_set]; exact h.1,fun i hi=>?_⟩
 by_cases e:i=a
 · subst e
   refine .inr ⟨p,b,?_,?_,hb⟩
   · rw [fst1_snoc,← ha,hn,if_pos (by unfold pOk; simp [hf])]; rfl
   · rw [List.getElem?_set_self (by rw [h.1]; exact hi)]
 · have e2:fst1 t (l ++ [p]) i=fst1 t l i:=by
    rw [fst1_snoc,if_neg (by unfold pOk; simp; intro e'; exfalso; omega)]
    cases fst1 t l i<;>rfl
   rw [e2,List.getElem?_set_ne (Ne.symm e)]
   exact h.2 i hi
theorem fst1_out {t:Tk} {l:List Pc} {i:Int} (h:¬ (1≤i∧i≤t.marks.length)):fst1 t l i=none:=by
 cases e:fst1 t l i with
 | none=>rfl
 | some p =>
  obtain ⟨h1,h2,_⟩:=fst1_some e
  have:=(fits_iff.1 h2).2.1
  exact absurd ⟨by omega,by omega⟩ h
theorem ul_out (t:Tk) (l:List Pc):∀ m,ul t l (t.marks.length + m)=ul t l t.marks.length
 | 0=>rfl
 | m + 1=>by rw [← Nat.add_assoc,ul,ul_out t l m,fst1_out (by omega)]; simp
theorem Recover_ok (t:Tk) (l:List Pc) (hl:l.length≤100000):CallP Tryz.prog f_zz39 [eT t,.list (l.map eP)] (·=.tup [eN (reco t l).1,eN (reco t l).2]):=by
 refine CallP.of_deep (callT_of_W fol zz39_cp ?_)
 have hvl:=Valid_ok t
 have hT:eT t=.agg [eI t.house,eI t.need,.list (t.marks.map eD)]:=rfl
 cases hv:t.valid with
 | false =>
  rw [hv] at hvl
  have hr:reco t l=(0,1):=by unfold reco; rw [if_pos hv]
  rw [hr]
  rw [hT] at hvl ⊢
  refine goS trivial ?_
  (refine goX1 trivial (hvl) ?_; (repeat' (with_reducible apply Br.mk<;>intro _)))
  exact Fin.eq rfl ⟨rfl,_,.refl _,rfl⟩
 | true =>
 rw [hv] at hvl
 obtain ⟨v1,v2,v3,v4,v5⟩:=Tk.valid_iff.1 hv
 obtain ⟨ul1,ul2⟩:=us_len_le t l
 rw [hT] at hvl ⊢
 have hA0:=Arr.nil t noGh
 obtain ⟨z13,hz⟩:∃ z,z=zr 13 D.nilP:=⟨_,rfl⟩
 have z13e:zr 13 D.nilP=z13:=hz.symm
 rw [z13e] at hA0
 refine goS z13e ?_
 (refine goX1 z13e (hvl) ?_; (repeat' (with_reducible apply Br.mk<;>intro _)))
 refine W.loop (fun q st=>∃ (k:Nat) (c:List D) (G:Gh),k≤l.length∧q=l.length - k∧Arr t (l.take k) c G ∧
  st=(E [(21,.d (eN k)),(20,.d (eN l.length)),(19,.d (.list (l.map eP))),(6,.ptr 0 6 1 0),(2,.ptr 0 2 1 0)],HB [(2,⟨1,some [eI t.house,eI t.need,.list (t.marks.map eD)]⟩),(6,⟨1,some c⟩)],[],G))
  ⟨_,_,stleB (by rfl),0,z13,noGh,by omega,rfl,hA0,rfl⟩ ?_
 · rintro q st ⟨k,c,G,hk,rfl,hA,rfl⟩
   by_cases g1:(k:Int) < (l.length:Int)
   case pos =>
    have hk':k < l.length:=by omega
    have htk:l.take (k + 1)=l.take k ++ [l[k]]:=List.take_succ_eq_append_getElem hk'
    have hf:=Fits_ok t l[k]
    rw [hT] at hf
    unfold eP at hf
    generalize hp:l[k]=p at *
    obtain ⟨pa,pv⟩:=p
    (refine goX (nn g1 (nn hk' hp)) ?_; (repeat' (with_reducible apply Br.mk<;>intro _)))
    refine wNew_mk fun b hb=>?_
    refine goS trivial ?_
    have hA1:=hA.new hb [eI pa,eI pv]
    have hb1:(G.set b (some [eI pa,eI pv])).c b=some [eI pa,eI pv]:=by simp [upd]
    generalize G.set b (some [eI pa,eI pv])=G1 at hA1 hb1 ⊢
    have hcl:=hA1.1
    by_cases a1:1≤pa
    case neg =>
     have hA2:Arr t (l.take (k + 1)) c G1:=by
      rw [htk]
      exact hA1.same fun i hi h=>by unfold pOk at h; rw [Bool.and_eq_true,decide_eq_true_eq] at h; exact absurd (fits_iff.1 h.2).2.1.1 a1
     (refine goX (nn a1 hb1) ?_; (repeat' (with_reducible apply Br.mk<;>intro _)))
     refine ⟨_,_,?_,stleB (by rfl),k + 1,c,G1,by omega,rfl,hA2,rfl⟩
     omega
    by_cases a2:pa≤(t.marks.length:Int)
    case neg =>
     have hA2:Arr t (l.take (k + 1)) c G1:=by
      rw [htk]
      exact hA1.same fun i hi h=>by unfold pOk at h; rw [Bool.and_eq_true,decide_eq_true_eq] at h; exact absurd (fits_iff.1 h.2).2.1.2.1 a2
     (refine goX (nn a1 (nn a2 hb1)) ?_; (repeat' (with_reducible apply Br.mk<;>intro _)))
     refine ⟨_,_,?_,stleB (by rfl),k + 1,c,G1,by omega,rfl,hA2,rfl⟩
     omega
    obtain ⟨a,ha⟩:∃ a:Nat,pa=(a:Int):=⟨pa.toNat,by omega⟩
    subst ha
    have a13:a < 13:=by omega
    have hdr:∀ x,c[a]?=some x→(List.drop (a * 1) c).head?=some x:=fun x h=>by rw [Nat.mul_one,List.head?_drop,h]
    rcases hA1.2 a a13 with ⟨h1,h2⟩|⟨p',b',h1,h2,h3⟩
    · have h4:=hdr _ h2
      cases hfit:fits t ⟨a,pv⟩ with
      | false =>
       rw [hfit] at hf
       have hA2:Arr t (l.take (k + 1)) c G1:=by
        rw [htk]
        exact hA1.same fun i hi h=>by unfold pOk at h; rw [Bool.and_eq_true] at h; exact absurd h.2 (by rw [hfit]; decide)
       (refine goX1 (nn a1 (nn a2 (nn hb1 (nn hcl (nn a13 h4))))) (hf) ?_; (repeat' (with_reducible apply Br.mk<;>intro _)))
       refine ⟨_,_,?_,stleB (by rfl),k + 1,c,G1,by omega,rfl,hA2,rfl⟩
       omega
      | true =>
       rw [hfit] at hf
       have hA2:Arr t (l.take (k + 1)) (c.set a (.gp b 0)) G1:=by
        rw [htk]
        exact hA1.put rfl a13 hfit h1 hb1
       have a12:a * 1≤12:=by omega
       (refine goX1 (nn a1 (nn a2 (nn hb1 (nn hcl (nn a13 (nn h4 a12)))))) (hf) ?_; (repeat' (with_reducible apply Br.mk<;>intro _)))
       refine ⟨_,_,?_,stleB (by rfl),k + 1,_,G1,by omega,rfl,?_,rfl⟩
       · omega
       · rw [List.set_eq_take_append_cons_drop,if_pos (by omega)] at hA2
         rw [Nat.mul_one,List.append_assoc]
         exact hA2
    · have h4:=hdr _ h2
      have hA2:Arr t (l.take (k + 1)) c G1:=by
       rw [htk]
       exact hA1.same fun i hi h=>by
        unfold pOk at h
        rw [Bool.and_eq_true,decide_eq_true_eq] at h
        have:(i:Int)=(a:Int):=h.1.symm
        rw [this,h1]; simp
      (refine goX (nn a1 (nn a2 (nn hb1 (nn hcl (nn a13 h4))))) ?_; (repeat' (with_reducible apply Br.mk<;>intro _)))
      refine ⟨_,_,?_,stleB (by rfl),k + 1,c,G1,by omega,rfl,hA2,rfl⟩
      omega
   obtain rfl:k=l.length:=by omega
   rw [List.take_length] at hA
   have hcl:=hA.1
   (refine goX (nn g1 hcl) ?_; (repeat' (with_reducible apply Br.mk<;>intro _)))
   have ht13:List.take 13 c=c:=List.take_of_length_le (by omega)
   rw [ht13]
   refine W.loop (fun q st=>∃ (j:Nat) (u:List Pc),j≤13∧q=13 - j∧u=(ul t l (j - 1)).take t.need.toNat ∧
    st=(E [(53,.d (eN j)),(52,.d (.agg c)),(9,.own 2 (u.map eP)),(2,.ptr 0 2 1 0)],HB [(2,⟨1,some [eI t.house,eI t.need,.list (t.marks.map eD)]⟩),(6,⟨1,some c⟩)],[],G))
    ⟨_,_,stleB (by rfl),0,[],by omega,rfl,by rw [ul,List.take_nil],rfl⟩ ?_
   rintro q st ⟨j,u,hj,rfl,hu,rfl⟩
   have hull:=ul_len t l (j - 1)
   have hul2:u.length≤12:=by rw [hu,List.length_take]; omega
   by_cases g2:(j:Int) < 13
   case neg =>
    obtain rfl:j=13:=by omega
    have hus:u=us t l:=by
     have h1:=ul_out t l (12 - t.marks.length)
     rw [show t.marks.length + (12 - t.marks.length)=12 by omega] at h1
     rw [hu,show 13 - 1=12 by omega,h1]; rfl
    subst hus
    clear hu hull hul2
    by_cases g3:((us t l).length:Int) < t.need
    · have hr:reco t l=(0,8):=by unfold reco; rw [if_neg (by rw [hv]; decide),if_pos g3]
      rw [hr]
      (refine goX g3 ?_; (repeat' (with_reducible apply Br.mk<;>intro _)))
      exact Fin.eq rfl ⟨rfl,_,.refl _,rfl⟩
    have hz:=atZero_ok (uQ t l) (by rw [List.length_map]; omega) (uQ_good t l)
    rw [← us_eQ] at hz
    have hzl:=zer_lt (uQ t l)
    have hP:P=2147483647:=rfl
    have hd:=Deal_ok t.house.toNat (zer (uQ t l)) t.need.toNat t.marks.length (by omega) hzl (by omega) (by omega)
    have e1:eN t.house.toNat=eI t.house:=by unfold eN; rw [show ((t.house.toNat:Nat):Int)=t.house by omega]
    have e2:eN t.need.toNat=eI t.need:=by unfold eN; rw [show ((t.need.toNat:Nat):Int)=t.need by omega]
    rw [e1,e2] at hd
    have hmk:mks t (seedOf t l)=marksL t.house.toNat (zer (uQ t l)) t.need.toNat t.marks.length:=rfl
    have hml:=marksL_len t.house.toNat (zer (uQ t l)) t.need.toNat t.marks.length
    have hso:seedOf t l=zer (uQ t l):=rfl
    rw [← hmk] at hd hml
    rw [← hso] at hz hd hzl
    have hs:=Equal_ok (mks t (seedOf t l)) t.marks (by rw [hml]; omega) (by omega)
    generalize shares t.house.toNat (seedOf t l) t.need.toNat t.marks.length=sl at hd
    by_cases g4:mks t (seedOf t l)=t.marks
    · have hr:reco t l=(seedOf t l,0):=by unfold reco; rw [if_neg (by rw [hv]; decide),if_neg g3,if_pos g4]
      rw [hr]
      rw [decide_eq_true g4] at hs
      generalize mks t (seedOf t l)=mk at *
      generalize seedOf t l=sd at *
      (refine goX3 g3 (hz) (hd) (hs) ?_; (repeat' (with_reducible apply Br.mk<;>intro _)))
      exact Fin.eq rfl ⟨rfl,_,.refl _,rfl⟩
    · have hr:reco t l=(0,23):=by unfold reco; rw [if_neg (by rw [hv]; decide),if_neg g3,if_neg g4]
      rw [hr]
      rw [decide_eq_false g4] at hs
      generalize mks t (seedOf t l)=mk at *
      generalize seedOf t l=sd at *
      (refine goX3 g3 (hz) (hd) (hs) ?_; (repeat' (with_reducible apply Br.mk<;>intro _)))
      exact Fin.eq rfl ⟨rfl,_,.refl _,rfl⟩
   have hj13:j < 13:=by omega
   have hdr:∀ x,c[j]?=some x→(List.drop (j * 1) c).head?=some x:=fun x h=>by rw [Nat.mul_one,List.head?_drop,h]
   rcases hA.2 j hj13 with ⟨h1,h2⟩|⟨p,b,h1,h2,h3⟩
   · have h4:=hdr _ h2
     have hu1:ul t l (j + 1 - 1)=ul t l (j - 1):=by
      cases j with
      | zero=>rfl
      | succ i=>rw [Nat.add_sub_cancel,Nat.add_sub_cancel,ul,h1]; simp
     (refine goX (nn g2 (nn hcl (nn hj13 h4))) ?_; (repeat' (with_reducible apply Br.mk<;>intro _)))
     refine ⟨_,_,?_,stleB (by rfl),j + 1,u,by omega,rfl,by rw [hu1]; exact hu,rfl⟩
     omega
   · have h4:=hdr _ h2
     obtain ⟨f1,f2,f3⟩:=fst1_some h1
     have f4:=(fits_iff.1 f2).2.1
     obtain ⟨i,rfl⟩:∃ i,j=i + 1:=⟨j - 1,by omega⟩
     rw [Nat.add_sub_cancel] at hull hu
     have hu1:ul t l (i + 1)=ul t l i ++ [p]:=by rw [ul,h1]; rfl
     by_cases g3:(u.length:Int) < t.need
     · have hu2:u ++ [p]=(ul t l (i + 1)).take t.need.toNat:=by
        have hlt:(ul t l i).length < t.need.toNat:=by rw [hu,List.length_take] at g3; omega
        rw [hu1,List.take_of_length_le (by rw [List.length_append]; simp; omega),hu,List.take_of_length_le (by omega)]
       have hel:u.map eP ++ [.agg [eI p.at_,eI p.val]]=(u ++ [p]).map eP:=by rw [List.map_append]; rfl
       have hm:=mostBytes_eq
       generalize u ++ [p]=v at hu2 hel
       (refine goX (nn g2 (nn hcl (nn hj13 (nn h4 (nn g3 (nn h3 hel)))))) ?_; (repeat' (with_reducible apply Br.mk<;>intro _)))
       refine ⟨_,_,?_,stleB (by rfl),i + 1 + 1,v,by omega,rfl,hu2,rfl⟩
       omega
     · have hu2:u=(ul t l (i + 1)).take t.need.toNat:=by
        have hlt:t.need.toNat≤(ul t l i).length:=by rw [hu,List.length_take] at g3; omega
        rw [hu1,List.take_append_of_le_length hlt]; exact hu
       (refine goX (nn g2 (nn hcl (nn hj13 (nn h4 g3)))) ?_; (repeat' (with_reducible apply Br.mk<;>intro _)))
       refine ⟨_,_,?_,stleB (by rfl),i + 1 + 1,u,by omega,rfl,hu2,rfl⟩
       omega
end Go.Proofs.YtclmdhceceacoaaGreatDoor
/-
 Layer 44: Draw of the program.
 Conditions: of each contract as it says.
-/
namespace Go.Proofs.YtclmdhceceacoaaGreatDoor
open Go Go.E2 CW CH C44
set_option linter.unusedSimpArgs false
set_option maxHeartbeats 4000000
attribute [go_sem] eT
@[go_sem] theorem eT_all (l:List Tk):(l.map eT).all (sizeOk 3)=true:=by rw [List.all_eq_true]; intro x hx; obtain ⟨s,_,rfl⟩:=List.mem_map.1 hx; rfl
def okAt (ts:List Tk) (k:Nat):Bool:=match ts[k]? with
 | none=>true
 | some t=>t.valid && (k == 0 || match ts[k - 1]? with
   | none=>true
   | some u=>decide (u.house < t.house))
def okT (ts:List Tk):Bool:=(List.range ts.length).all (okAt ts)
theorem okT_take {ts:List Tk}:okT ts=true↔∀ k,k < ts.length→okAt ts k=true:=by
 unfold okT; rw [List.all_eq_true]; simp
theorem checkTickets_ok (ts:List Tk) (hl:ts.length≤1000):CallP Tryz.prog f_zz21 [.list (ts.map eT)] (·=.d (.bool (okT ts))):=by
 refine callP_of_W fol zz21_cp ?_
 refine goS trivial ?_
 (refine goX trivial ?_; (repeat' (with_reducible apply Br.mk<;>intro _)))
 refine W.loop (fun q st=>∃ (k:Nat) (b4:Blk),k≤ts.length∧q=ts.length - k∧(∀ j,j < k→okAt ts j=true) ∧
  st=(E [(7,.d (eN k)),(6,.d (eN ts.length)),(5,.d (.list (ts.map eT))),(0,.d (.list (ts.map eT)))],HB [(4,b4)],[],noGh))
  ⟨_,_,stleB (HB_pad [] [4] rfl).symm,0,_,by omega,rfl,fun _ h=>by omega,rfl⟩ ?_
 rintro q st ⟨k,b4,hk,rfl,hok,rfl⟩
 by_cases g1:(k:Int) < (ts.length:Int)
 case neg =>
  obtain rfl:k=ts.length:=by omega
  have:okT ts=true:=okT_take.2 hok
  rw [this]
  (refine goX g1 ?_; (repeat' (with_reducible apply Br.mk<;>intro _)))
  exact Fin.p rfl rfl
 have hk':k < ts.length:=by omega
 have hvl:=Valid_ok ts[k]
 unfold eT at hvl
 have hka:okAt ts k=(ts[k].valid && (k == 0 || match ts[k - 1]? with
  | none=>true
  | some u=>decide (u.house < ts[k].house))):=by unfold okAt; rw [List.getElem?_eq_getElem hk']
 have hbad:okAt ts k=false→okT ts=false:=fun h=>by
  cases e:okT ts with
  | false=>rfl
  | true=>rw [okT_take.1 e k hk'] at h; cases h
 have hstep:okAt ts k=true→∀ j,j < k + 1→okAt ts j=true:=fun h j hj=>by
  by_cases e:j=k
  · rw [e]; exact h
  · exact hok j (by omega)
 cases hv:ts[k].valid with
 | false =>
  rw [hv] at hvl hka
  rw [hbad hka]
  (refine goX1 (nn g1 hk') (hvl) ?_; (repeat' (with_reducible apply Br.mk<;>intro _)))
  exact Fin.p rfl rfl
 | true =>
  rw [hv] at hvl hka
  by_cases g2:(k:Int) > 0
  case neg =>
   have hk0:(k == 0)=true:=by rw [beq_iff_eq]; omega
   rw [hk0] at hka
   have hs:=hstep hka
   (refine goX1 (nn g1 (nn hk' g2)) (hvl) ?_; (repeat' (with_reducible apply Br.mk<;>intro _)))
   refine ⟨_,_,?_,stleB (by rfl),k + 1,_,by omega,rfl,hs,rfl⟩
   omega
  obtain ⟨j,rfl⟩:∃ j,k=j + 1:=⟨k - 1,by omega⟩
  have hj':j < ts.length:=by omega
  have hek:((j + 1:Nat):Int) - 1=(j:Int):=by omega
  rw [Nat.add_sub_cancel,List.getElem?_eq_getElem hj'] at hka
  have hka2:okAt ts (j + 1)=decide (ts[j].house < ts[j + 1].house):=by rw [hka]; simp
  by_cases g3:ts[j + 1].house≤ts[j].house
  · rw [decide_eq_false (by omega)] at hka2
    rw [hbad hka2]
    (refine goX1 (nn g1 (nn hk' (nn g2 (nn hek (nn hj' g3))))) (hvl) ?_; (repeat' (with_reducible apply Br.mk<;>intro _)))
    exact Fin.p rfl rfl
  · rw [decide_eq_true (by omega)] at hka2
    have hs:=hstep hka2
    (refine goX1 (nn g1 (nn hk' (nn g2 (nn hek (nn hj' g3))))) (hvl) ?_; (repeat' (with_reducible apply Br.mk<;>intro _)))
    refine ⟨_,_,?_,stleB (by rfl),j + 1 + 1,_,by omega,rfl,hs,rfl⟩
    omega
theorem reco_fst_lt (t:Tk) (l:List Pc):(reco t l).1 < P:=by
 have:=zer_lt (uQ t l)
 have h0:0 < P:=by decide
 unfold reco seedOf
 split
 · exact h0
 · split
   · exact h0
   · split
     · exact this
     · exact h0
theorem reco_snd (t:Tk) (l:List Pc) (hv:t.valid=true):(reco t l).2=0∨(reco t l).2=23∨(reco t l).2=8:=by
 unfold reco
 rw [if_neg (by rw [hv]; decide)]
 split
 · exact .inr (.inr rfl)
 · split
   · exact .inl rfl
   · exact .inr (.inl rfl)
abbrev Zp:=Tk × List Pc
def rc (x:Zp):Nat × Nat:=reco x.1 x.2
def dIn (z:List Zp):List Int:=z.flatMap fun x=>if (rc x).2=0 then [x.1.house] else []
def dEx (z:List Zp):List Int:=z.flatMap fun x=>if (rc x).2=23 then [x.1.house] else []
def dNm (z:List Zp):List Int:=0::z.flatMap fun x=>if (rc x).2=0 then [x.1.house,((rc x).1:Int)] else []
structure Dr where
 lot:Dg
 inn:List Int
 ex:List Int
 e:Nat
def lotOf (l:List Int):Dg:=⟨dig 194 (l.map intB),dig_len _ _⟩
def zDg:Dg:=⟨List.replicate 16 0,by simp⟩
def draw (ts:List Tk) (ps:List (List Pc)):Dr :=
 if ts.length ≠ ps.length∨okT ts=false then ⟨zDg,[],[],1⟩
 else if (ts.zip ps).any (fun x=>(rc x).2 == 8) then ⟨zDg,[],[],8⟩
 else ⟨lotOf (dNm (ts.zip ps)),dIn (ts.zip ps),dEx (ts.zip ps),0⟩
def eL (l:List Pc):D:=.list (l.map eP)
attribute [go_sem] eL
@[go_sem] theorem eL_all (l:List (List Pc)):(l.map eL).all (sizeOk 1)=true:=by rw [List.all_eq_true]; intro x hx; obtain ⟨s,_,rfl⟩:=List.mem_map.1 hx; rfl
def eDr (d:Dr):AV:=.tup [.agg (d.lot.1.map eB ++ [.list (d.inn.map eI),.list (d.ex.map eI)]),eN d.e]
theorem zDg_eq:zr 16 (D.int .u8 0)=zDg.1.map eB:=by rfl
theorem Draw_ok (ts:List Tk) (ps:List (List Pc)) (h1:ts.length≤30) (h2:ps.length≤1000) (h3:∀ l ∈ ps,l.length≤100000):CallP Tryz.prog f_zz55 [.list (ts.map eT),.list (ps.map eL)] (·=eDr (draw ts ps)):=by
 refine CallP.of_deep (callT_of_W fol zz55_cp ?_)
 have hck:=checkTickets_ok ts (by omega)
 have hm:=mostBytes_eq
 obtain ⟨z16,hz16⟩:∃ z,z=zr 16 (D.int .u8 0):=⟨_,rfl⟩
 have z16l:z16.length=16:=by rw [hz16]; rfl
 have z16e:zr 16 (D.int .u8 0)=z16:=hz16.symm
 have zer_dr:∀ (G:Gh) (n:Nat),DRA G.c (.tup [.agg (z16 ++ [.nilS,.nilS]),eN n]) (eDr ⟨zDg,[],[],n⟩):=fun G n=>by
  unfold eDr
  refine .tup _ _ (.cons ?_ (.cons (.refl _) .nil))
  rw [hz16,zDg_eq]
  have h3:DRs G.c (zDg.1.map eB ++ [.nilS,.nilS]) (zDg.1.map eB ++ [.list [],.list []]):=by
   generalize zDg.1.map eB=l
   induction l with
   | nil=>exact .cons .nil (.cons .nil .nil)
   | cons x l ih=>exact .cons (.refl _) ih
  exact DR.agg _ _ h3.1 h3.2
 have tk18:∀ x y:D,List.take 18 (z16 ++ [x,y])=z16 ++ [x,y]:=fun x y=>List.take_of_length_le (by rw [List.length_append,z16l]; exact Nat.le_refl 18)
 have z1:(z16 ++ [D.nilS,D.nilS]).all D.one=true:=by rw [hz16]; rfl
 have z2:∀ x y:D,(z16 ++ [x,y]).all D.one=(x.one && y.one):=fun x y=>by rw [hz16,List.all_append]; simp [zr,D.one]
 have dr18:∀ x y:D,List.drop 18 (z16 ++ [x,y])=[]:=fun x y=>List.drop_of_length_le (by rw [List.length_append,z16l]; exact Nat.le_refl 18)
 have tk16:∀ x y:D,List.take 16 (z16 ++ [x,y])=z16:=fun x y=>by rw [List.take_append_of_le_length (by omega),List.take_of_length_le (by omega)]
 have tk17:∀ x y:D,List.take 17 (z16 ++ [x,y])=z16 ++ [x]:=fun x y=>by rw [List.take_append,List.take_of_length_le (by omega),z16l]; rfl
 have dr17:∀ x y:D,List.drop 17 (z16 ++ [x,y])=[y]:=fun x y=>by rw [List.drop_append,List.drop_of_length_le (by omega),z16l]; rfl
 have dr16:∀ x y:D,List.drop 16 (z16 ++ [x,y])=[x,y]:=fun x y=>by rw [List.drop_append_of_le_length (by omega),List.drop_of_length_le (by omega)]; rfl
 have one0:D.nilS.one=true:=rfl
 have one1:∀ b n c,(D.gs b 0 n c).one=true:=fun _ _ _=>rfl
 have dr0:∀ x y:D,List.drop 0 (z16 ++ [x,y])=z16 ++ [x,y]:=fun x y=>List.drop_zero
 by_cases hlen:ts.length=ps.length
 case neg =>
  have hd:draw ts ps=⟨zDg,[],[],1⟩:=by unfold draw; rw [if_pos (.inl hlen)]
  rw [hd]
  have hlen':¬ (ts.length:Int)=(ps.length:Int):=by omega
  refine goS z16e ?_
  (refine goX (nn z16e (nn z16l (nn hlen' z1))) ?_; (repeat' (with_reducible apply Br.mk<;>intro _)))
  exact Fin.eq (r:=.tup [.agg (z16 ++ [.nilS,.nilS]),eN 1]) (by simp -dsimp (disch:=first|omega|(simp only [go_sem]; omega)) only [go_sem,seval,Nat.reduceEqDiff,Nat.reduceLeDiff,z16l,tk18,dr0,dr18,List.append_nil]; try rfl) ⟨rfl,_,zer_dr _ 1,rfl⟩
 have hlen':(ts.length:Int)=(ps.length:Int):=by omega
 cases hok:okT ts with
 | false =>
  rw [hok] at hck
  have hd:draw ts ps=⟨zDg,[],[],1⟩:=by unfold draw; rw [if_pos (.inr hok)]
  rw [hd]
  refine goS z16e ?_
  (refine goX1 (nn z16e (nn z16l (nn hlen' z1))) (hck) ?_; (repeat' (with_reducible apply Br.mk<;>intro _)))
  exact Fin.eq (r:=.tup [.agg (z16 ++ [.nilS,.nilS]),eN 1]) (by simp -dsimp (disch:=first|omega|(simp only [go_sem]; omega)) only [go_sem,seval,Nat.reduceEqDiff,Nat.reduceLeDiff,z16l,tk18,dr0,dr18,List.append_nil]; try rfl) ⟨rfl,_,zer_dr _ 1,rfl⟩
 | true =>
 rw [hok] at hck
 refine goS z16e ?_
 (refine goX1 (nn z16e (nn z16l (nn hlen' z1))) (hck) ?_; (repeat' (with_reducible apply Br.mk<;>intro _)))
 obtain ⟨z,hz⟩:∃ z,z=ts.zip ps:=⟨_,rfl⟩
 have hzl:z.length=ps.length:=by rw [hz,List.length_zip]; omega
 have hzg:∀ k (h:k < z.length) (h':k < ts.length) (h'':k < ps.length),z[k]=(ts[k],ps[k]):=fun k h h' h''=>by subst hz; rw [List.getElem_zip]
 have hvals:∀ k (h':k < ts.length),ts[k].valid=true:=fun k h'=>by
  have:=okT_take.1 hok k h'
  unfold okAt at this
  rw [List.getElem?_eq_getElem h'] at this
  exact (Bool.and_eq_true _ _ ▸ this).1
 refine W.loop (fun q st=>∃ (k:Nat) (x y:D) (b9:Blk) (nm:List Int) (G:Gh),k≤ps.length∧q=ps.length - k∧(z.take k).any (fun x=>(rc x).2 == 8)=false ∧
  Sep [SlA 1 x ((dIn (z.take k)).map eI),SlA 1 y ((dEx (z.take k)).map eI)] G∧nm=dNm (z.take k)∧nm.length≤1 + 2 * k∧(dIn (z.take k)).length≤k∧(dEx (z.take k)).length≤k ∧
  st=(E [(26,.d (eN k)),(25,.d (eN ps.length)),(24,.d (.list (ts.map eT))),(7,.own 1 (nm.map eI)),(6,.ptr 0 6 1 0),(4,.ptr 0 4 1 0),(1,.d (.list (ps.map eL)))],
   HB [(4,⟨1,some (z16 ++ [.nilS,.nilS])⟩),(6,⟨1,some (z16 ++ [x,y])⟩),(9,b9)],[],G))
  ⟨_,_,stleB (HB_pad [(4,_),(6,_)] [9] rfl).symm,0,.nilS,.nilS,_,[0],noGh,by omega,rfl,rfl,Sep.nil.slNil.slNil,rfl,by simp,by simp [dIn],by simp [dEx],rfl⟩ ?_
 rintro q st ⟨k,x,y,b9,nm,G,hk,rfl,hany,hs,hnm,hnl,hil,hel,rfl⟩
 by_cases g1:(k:Int) < (ps.length:Int)
 case neg =>
  obtain rfl:k=ps.length:=by omega
  rw [← hzl,List.take_length] at hany hs hnm
  have hd:draw ts ps=⟨lotOf (dNm z),dIn z,dEx z,0⟩:=by
   unfold draw
   rw [if_neg (by rw [hok]; simp [hlen]),← hz,if_neg (by rw [hany]; decide)]
  have hlo:CallP Tryz.prog f_zz63 [.int .i64 194,.list (nm.map eI)] (·=.d (eD (lotOf nm))):=of_ok 194 (by decide) nm (by omega) (by
   intro n hn
   rw [hnm,dNm,List.mem_cons,List.mem_flatMap] at hn
   rcases hn with rfl|⟨w,hw,hn⟩
   · exact ⟨by decide,by decide⟩
   · obtain ⟨i,hi,rfl⟩:=List.getElem_of_mem hw
     have hlt:=reco_fst_lt (z[i]).1 (z[i]).2
     have hP:P=2147483647:=rfl
     have hv:=hvals i (by omega)
     have hv:=Tk.valid_iff.1 hv
     have e1:(z[i]).1=ts[i]'(by omega):=by rw [hzg i hi (by omega) (by omega)]
     split at hn
     · simp only [List.mem_cons,List.not_mem_nil,or_false] at hn
       rcases hn with rfl|rfl
       · rw [e1]; exact ⟨by omega,by omega⟩
       · exact i64_nat (by unfold rc; omega)
     · cases hn)
  rw [hd,← hnm]
  have hv:=hs.gv
  have hv2:=hs.tail.gv
  have hdx:=hv.dr
  have hdy:=hv2.dr
  obtain ⟨d1,d2,d3,d4⟩:=dgOk (lotOf nm).2
  have hlc:eD (lotOf nm)=.agg ((lotOf nm).1.map eB):=rfl
  rw [hlc] at hlo
  generalize hlce:(lotOf nm).1.map eB=lc at d1 d2 d3 d4 hlo
  have tkL:∀ x y:D,List.take 18 (lc ++ [x,y])=lc ++ [x,y]:=fun x y=>List.take_of_length_le (by rw [List.length_append,d1]; exact Nat.le_refl 18)
  have drL:∀ x y:D,List.drop 18 (lc ++ [x,y])=[]:=fun x y=>List.drop_of_length_le (by rw [List.length_append,d1]; exact Nat.le_refl 18)
  have hx1:x.one=true:=by rcases hv.shape with rfl|⟨b1,n1,c1,rfl⟩<;>rfl
  have hy1:y.one=true:=by rcases hv2.shape with rfl|⟨b1,n1,c1,rfl⟩<;>rfl
  have z3:(lc ++ [x,y]).all D.one=true:=by rw [List.all_append,d3]; simp [hx1,hy1]
  (refine goX1 (nn g1 (nn z16e (nn z16l (nn z1 (nn d1 (nn d3 (nn dr16 (nn tkL z3)))))))) (hlo) ?_; (repeat' (with_reducible apply Br.mk<;>intro _)))
  refine Fin.eq (r:=.tup [.agg (lc ++ [x,y]),eI 0]) (by simp -dsimp (disch:=first|omega|(simp only [go_sem]; omega)) only [go_sem,seval,Nat.reduceEqDiff,Nat.reduceLeDiff,tkL,dr0,dr18,drL,List.append_nil,d1,z16l]; try rfl) ⟨rfl,_,?_,rfl⟩
  unfold eDr
  refine .tup _ _ (.cons ?_ (.cons (.refl _) .nil))
  rw [hlce]
  have h3:DRs G.c (lc ++ [x,y]) (lc ++ [.list ((dIn z).map eI),.list ((dEx z).map eI)]):=by
   clear d1 d2 d3 d4 hlo tkL z3 drL hlce
   induction lc with
   | nil=>exact .cons hdx (.cons hdy .nil)
   | cons x l ih=>exact .cons (.refl _) ih
  exact DR.agg _ _ h3.1 h3.2
 have hk1:k < ps.length:=by omega
 have hk2:k < ts.length:=by omega
 have hk3:k < z.length:=by omega
 have hpl:=h3 _ (List.getElem_mem hk1)
 have hrc:=Recover_ok ts[k] ps[k] hpl
 have hvk:=hvals k hk2
 have hlt:=reco_fst_lt ts[k] ps[k]
 have hsn:=reco_snd ts[k] ps[k] hvk
 have htk:z.take (k + 1)=z.take k ++ [z[k]]:=List.take_succ_eq_append_getElem hk3
 rw [hzg k hk3 hk2 hk1] at htk
 have hrr:rc (ts[k],ps[k])=reco ts[k] ps[k]:=rfl
 have hin:dIn (z.take (k + 1))=dIn (z.take k) ++ (if (reco ts[k] ps[k]).2=0 then [ts[k].house] else []):=by rw [htk,dIn,List.flatMap_append,List.flatMap_singleton,hrr]; rfl
 have hex:dEx (z.take (k + 1))=dEx (z.take k) ++ (if (reco ts[k] ps[k]).2=23 then [ts[k].house] else []):=by rw [htk,dEx,List.flatMap_append,List.flatMap_singleton,hrr]; rfl
 have hnm1:dNm (z.take (k + 1))=dNm (z.take k) ++ (if (reco ts[k] ps[k]).2=0 then [ts[k].house,((reco ts[k] ps[k]).1:Int)] else []):=by rw [htk,dNm,dNm,List.flatMap_append,List.flatMap_singleton,hrr]; rfl
 have han1:(z.take (k + 1)).any (fun x=>(rc x).2 == 8)=((reco ts[k] ps[k]).2 == 8):=by rw [htk,List.any_append,hany]; simp [hrr]
 unfold eT at hrc
 generalize reco ts[k] ps[k]=rr at *
 obtain ⟨sd,er⟩:=rr
 simp only at hlt hsn hin hex hnm1 han1
 have hval:=Tk.valid_iff.1 hvk
 rcases hsn with rfl|rfl|rfl
 · rw [if_pos rfl] at hin hnm1
   rw [if_neg (by decide),List.append_nil] at hex
   have hv:=hs.gv
   have hv2:=hs.tail.gv
   have hnme:nm.map eI ++ [eI ts[k].house,eN sd]=(nm ++ [ts[k].house,(sd:Int)]).map eI:=by rw [List.map_append]; rfl
   have hnl2:(nm ++ [ts[k].house,(sd:Int)]).length≤1 + 2 * (k + 1):=by rw [List.length_append]; simp; omega
   have hnm2:nm ++ [ts[k].house,(sd:Int)]=dNm (z.take (k + 1)):=by rw [hnm1,hnm]
   generalize nm ++ [ts[k].house,(sd:Int)]=nm' at hnme hnl2 hnm2
   have hx1:x.one=true:=by rcases hv.shape with rfl|⟨b1,n1,c1,rfl⟩<;>rfl
   have hy1:y.one=true:=by rcases hv2.shape with rfl|⟨b1,n1,c1,rfl⟩<;>rfl
   (refine goX1 (nn g1 (nn hk1 (nn hk2 (nn z16e (nn z16l (nn z1 (nn dr16 (nn z2 (nn hx1 hy1))))))))) (hrc) ?_; (repeat' (with_reducible apply Br.mk<;>intro _)))
   refine appV_GV2 hv (viewC_list (es:=[eI ts[k].house]) rfl) rfl rfl rfl (by rw [List.length_map,hm]; show (_ + 1) * 8≤_; omega) fun x' G4 hg hto=>?_
   have hs3:=hs.grow hto (es':=(dIn (z.take (k + 1))).map eI) (by rw [hin,List.map_append]; exact hg)
   obtain ⟨b8,c8,cs8,hxe,_,_⟩:=hg.inv (by simp)
   generalize (List.map eI (dIn (List.take k z)) ++ [eI ts[k].house]).length=n8 at hxe
   subst hxe
   refine goS trivial ?_
   (refine goX (nn z16l (nn z1 (nn tk16 (nn dr17 hnme)))) ?_; (repeat' (with_reducible apply Br.mk<;>intro _)))
   have hil2:(dIn (z.take (k + 1))).length≤k + 1:=by rw [hin,List.length_append]; simp; omega
   refine ⟨_,_,?_,stleB (by simp only [List.append_assoc,List.cons_append,List.nil_append]; rfl),k + 1,_,y,_,nm',G4,by omega,rfl,han1,by rw [hex]; exact hs3,hnm2,hnl2,hil2,by rw [hex]; omega,rfl⟩
   omega
 · rw [if_pos rfl] at hex
   rw [if_neg (by decide),List.append_nil] at hin hnm1
   have hv:=hs.gv
   have hv2:=hs.tail.gv
   have hx1:x.one=true:=by rcases hv.shape with rfl|⟨b1,n1,c1,rfl⟩<;>rfl
   have hy1:y.one=true:=by rcases hv2.shape with rfl|⟨b1,n1,c1,rfl⟩<;>rfl
   (refine goX1 (nn g1 (nn hk1 (nn hk2 (nn z16e (nn z16l (nn z1 (nn dr17 (nn z2 (nn hx1 hy1))))))))) (hrc) ?_; (repeat' (with_reducible apply Br.mk<;>intro _)))
   refine appV_GV2 hv2 (viewC_list (es:=[eI ts[k].house]) rfl) rfl rfl rfl (by rw [List.length_map,hm]; show (_ + 1) * 8≤_; omega) fun x' G4 hg hto=>?_
   have hs3:=(hs.swap.grow hto (es':=(dEx (z.take (k + 1))).map eI) (by rw [hex,List.map_append]; exact hg)).swap
   obtain ⟨b8,c8,cs8,hxe,_,_⟩:=hg.inv (by simp)
   generalize (List.map eI (dEx (List.take k z)) ++ [eI ts[k].house]).length=n8 at hxe
   subst hxe
   refine goS trivial ?_
   (refine goX (nn z16l (nn z1 (nn tk17 dr18))) ?_; (repeat' (with_reducible apply Br.mk<;>intro _)))
   have hel2:(dEx (z.take (k + 1))).length≤k + 1:=by rw [hex,List.length_append]; simp; omega
   refine ⟨_,_,?_,stleB (by simp only [List.append_assoc,List.cons_append,List.nil_append,List.append_nil]; rfl),k + 1,x,_,_,nm,G4,by omega,rfl,han1,by rw [hin]; exact hs3,by rw [hnm1]; exact hnm,by omega,by rw [hin]; omega,hel2,rfl⟩
   omega
 · have hd:draw ts ps=⟨zDg,[],[],8⟩:=by
    unfold draw
    rw [if_neg (by rw [hok]; simp [hlen]),← hz,if_pos]
    rw [List.any_eq_true]
    have h4:(z.take (k + 1)).any (fun x=>(rc x).2 == 8)=true:=han1
    obtain ⟨w,hw,hw2⟩:=List.any_eq_true.1 h4
    exact ⟨w,List.mem_of_mem_take hw,hw2⟩
   rw [hd]
   have hv:=hs.gv
   have hv2:=hs.tail.gv
   rcases hv.shape with rfl|⟨b1,n1,c1,rfl⟩<;>rcases hv2.shape with rfl|⟨b2,n2,c2,rfl⟩
   all_goals
    (refine goX1 (nn g1 (nn hk1 (nn hk2 (nn z16e (nn z16l z1))))) (hrc) ?_; (repeat' (with_reducible apply Br.mk<;>intro _)))
    exact Fin.eq (r:=.tup [.agg (z16 ++ [.nilS,.nilS]),eN 8]) (by simp -dsimp (disch:=first|omega|(simp only [go_sem]; omega)) only [go_sem,seval,Nat.reduceEqDiff,Nat.reduceLeDiff,z16l,tk18,dr0,dr18,List.append_nil]; try rfl) ⟨rfl,_,zer_dr _ 8,rfl⟩
end Go.Proofs.YtclmdhceceacoaaGreatDoor
