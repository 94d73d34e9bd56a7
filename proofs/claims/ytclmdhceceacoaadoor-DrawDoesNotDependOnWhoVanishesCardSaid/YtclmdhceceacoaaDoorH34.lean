/-
 Layer 44: whose pieces are used does not matter,where none clash.
 Conditions: of each theorem as it says.
-/
import Derived.Test.YtclmdhceceacoaaDoorH28
namespace Go.Proofs.YtclmdhceceacoaaDoor
open Go Go.E2 CW CH C44
set_option linter.unusedSimpArgs false
set_option maxHeartbeats 4000000
theorem reco_of {h s need n:Nat} {l:List Pc} (h1:h < 12) (h2:s < P) (h3:1≤n∧n≤12) (h4:1≤need∧need≤n)
 (hall:∀ p ∈ l,fits (tkOf h s need n) p=true→p.val=(shr h s p.at_.toNat need:Int)) (hl:¬ (us (tkOf h s need n) l).length < need):reco (tkOf h s need n) l=(s,0):=by
 have hm:∀ p ∈ us (tkOf h s need n) l,1≤p.at_∧p.at_≤(n:Int)∧p.val=(shr h s p.at_.toNat need:Int):=fun p hp=>by
  obtain ⟨m1,m2⟩:=us_mem hp
  have hh:=(fits_iff.1 m1).2.1
  have e:((tkOf h s need n).marks.length:Int)=n:=by show ((marksL _ _ _ _).length:Int)=n; rw [marksL_len]
  rw [e] at hh
  exact ⟨hh.1,hh.2.1,hall p m2 m1⟩
 have hq:uQ (tkOf h s need n) l=((us (tkOf h s need n) l).map fun p=>p.at_.toNat - 1).map fun i=>(i + 1,shr h s (i + 1) need):=by
  rw [List.map_map]
  refine List.map_congr_left fun p hp=>?_
  obtain ⟨m1,m2,m3⟩:=hm p hp
  show (p.at_.toNat,p.val.toNat)=(p.at_.toNat - 1 + 1,shr h s (p.at_.toNat - 1 + 1) need)
  rw [m3,Int.toNat_natCast,show p.at_.toNat - 1 + 1=p.at_.toNat by omega]
 have hz:seedOf (tkOf h s need n) l=s:=by
  unfold seedOf
  rw [hq]
  refine zer_pts h2 (by omega) _ ?_ ?_ ?_
  · refine nodup_map_of (us_nodup _ l) fun x hx y hy e=>?_
    obtain ⟨m1,_⟩:=hm x hx
    obtain ⟨m2,_⟩:=hm y hy
    omega
  · intro i hi
    obtain ⟨p,hp,rfl⟩:=List.mem_map.1 hi
    obtain ⟨m1,m2,_⟩:=hm p hp
    omega
  · rw [List.length_map]; omega
 have hmk:mks (tkOf h s need n) s=(tkOf h s need n).marks:=by
  show marksL (h:Int).toNat s (need:Int).toNat (marksL h s need n).length=marksL h s need n
  rw [marksL_len,Int.toNat_natCast,Int.toNat_natCast]
 unfold reco
 rw [if_neg (by rw [tk_valid h1 h3 h4]; decide),if_neg (by show ¬ ((us (tkOf h s need n) l).length:Int) < (need:Int); omega),hz,if_pos hmk]
theorem tk_of {t:Tk} {l:List Pc} {s:Nat} (h:reco t l=(s,0)):∃ h' need' n':Nat,t=tkOf h' s need' n'∧h' < 12∧s < P∧(1≤n'∧n'≤12)∧1≤need'∧need'≤n':=by
 unfold reco at h
 split at h
 · cases h
 · next hv =>
   split at h
   · cases h
   · split at h
     · next hm =>
       have hs:seedOf t l=s:=congrArg Prod.fst h
       have hv':t.valid=true:=by simpa using hv
       obtain ⟨v1,v2,v3,v4,v5⟩:=Tk.valid_iff.1 hv'
       refine ⟨t.house.toNat,t.need.toNat,t.marks.length,?_,by omega,by rw [← hs]; exact zer_lt _,by omega,by omega⟩
       rw [hs] at hm
       obtain ⟨a,b,c⟩:=t
       show (⟨a,b,c⟩:Tk)=⟨(a.toNat:Int),(b.toNat:Int),marksL a.toNat s b.toNat c.length⟩
       have e:marksL a.toNat s b.toNat c.length=c:=hm
       rw [e]
       congr 1
       · show a=(a.toNat:Int); simp only at v1; omega
       · show b=(b.toNat:Int); simp only at v3; omega
     · cases h
def clAt (t:Tk) (s:Nat) (l:List Pc) (p:Pc):Bool :=
 fits t p && ((decide (p.val ≠ (shr t.house.toNat s p.at_.toNat t.need.toNat:Int)) && fits t ⟨p.at_,(shr t.house.toNat s p.at_.toNat t.need.toNat:Int)⟩) || l.any fun q=>decide (q.at_=p.at_) && decide (q.val ≠ p.val) && fits t q)
def clTo (t:Tk) (s:Nat) (l:List Pc):Nat→Bool
 | 0=>false
 | k + 1=>clTo t s l k || (match l[k]? with|some p=>clAt t s (l.take k) p|none=>false)
def clash (t:Tk) (s:Nat) (l:List Pc):Bool:=clTo t s l l.length
theorem clTo_at {t:Tk} {s:Nat} {l:List Pc}:∀ {n k:Nat} (_:k < n) (hk:k < l.length),clTo t s l n=false→clAt t s (l.take k) l[k]=false
 | n + 1,k,h,hk,e=>by
   rw [clTo,Bool.or_eq_false_iff] at e
   by_cases e1:k=n
   · subst e1
     have:=e.2
     rw [List.getElem?_eq_getElem hk] at this
     exact this
   · exact clTo_at (by omega) hk e.1
theorem clash_no {h s need n:Nat} {l:List Pc} (h1:h < 12) (h3:1≤n∧n≤12) (h4:1≤need∧need≤n) (hc:clash (tkOf h s need n) s l=false) :
 ∀ p ∈ l,fits (tkOf h s need n) p=true→p.val=(shr h s p.at_.toNat need:Int):=by
 intro p hp hf
 obtain ⟨k,hk,rfl⟩:=List.mem_iff_getElem.1 hp
 have hn:=clTo_at hk hk hc
 have hr:=(fits_iff.1 hf).2.1
 have e:((tkOf h s need n).marks.length:Int)=n:=by show ((marksL _ _ _ _).length:Int)=n; rw [marksL_len]
 rw [e] at hr
 have hg:=fits_good (s:=s) h1 h3 h4 (i:=l[k].at_.toNat) (by omega)
 unfold clAt at hn
 rw [hf,Bool.true_and,Bool.or_eq_false_iff,Bool.and_eq_false_iff] at hn
 have hgp:(⟨l[k].at_,(shr (tkOf h s need n).house.toNat s l[k].at_.toNat (tkOf h s need n).need.toNat:Int)⟩:Pc)=gp h s need l[k].at_.toNat:=by
  show (⟨l[k].at_,(shr (h:Int).toNat s l[k].at_.toNat (need:Int).toNat:Int)⟩:Pc)=⟨(l[k].at_.toNat:Int),_⟩
  rw [Int.toNat_natCast,Int.toNat_natCast,show ((l[k].at_.toNat:Nat):Int)=l[k].at_ by omega]
 rw [hgp,hg] at hn
 rcases hn.1 with hn|hn
 · have:=of_decide_eq_false hn
   exact Decidable.of_not_not this
 · cases hn
end Go.Proofs.YtclmdhceceacoaaDoor
/-
 Layer 44: clash; the law DrawDoesNotDependOnWhoVanishes.
 Conditions: of each contract as it says.
-/
namespace Go.Proofs.YtclmdhceceacoaaDoor
open Go Go.E2 CW CH C44
set_option linter.unusedSimpArgs false
set_option maxHeartbeats 8000000
abbrev bad (t:Tk) (p q:Pc):Bool:=decide (q.at_=p.at_) && decide (q.val ≠ p.val) && fits t q
theorem clTo_up {t:Tk} {s:Nat} {l:List Pc} {k:Nat} (hk:k < l.length) (h:clTo t s l (k + 1)=true):clash t s l=true:=by
 have key:∀ d,clTo t s l (k + 1 + d)=true:=fun d=>by
  induction d with
  | zero=>exact h
  | succ d ih=>rw [← Nat.add_assoc,clTo,ih,Bool.true_or]
 have:=key (l.length - (k + 1))
 rw [show k + 1 + (l.length - (k + 1))=l.length by omega] at this
 exact this
theorem clash_ok (t:Tk) (s:Nat) (l:List Pc) (h2:s < P) (hl:l.length≤100000):CallP Tryd.prog f_zz14 [eT t,eN s,.list (l.map eP)] (·=.d (.bool (clash t s l))):=by
 refine callP_of_W fol zz14_cp ?_
 have hm0:=mostBytes_eq
 have hT:eT t=.agg [eI t.house,eI t.need,.list (t.marks.map eD)]:=rfl
 rw [hT]
 refine goS trivial ?_
 (refine goX trivial ?_; (repeat' (with_reducible apply Br.mk<;>intro _)))
 refine W.loop (fun q st=>∃ (k:Nat) (b8 b11:Blk),k≤l.length∧q=l.length - k∧clTo t s l k=false ∧
  st=(E [(14,.d (eN k)),(13,.d (eN l.length)),(12,.d (.list (l.map eP))),(1,.d (eN s)),(2,.d (.list (l.map eP))),(3,.ptr 0 3 1 0)],
   HB [(3,⟨1,some [eI t.house,eI t.need,.list (t.marks.map eD)]⟩),(8,b8),(11,b11)],[],noGh))
  ⟨_,_,stleB (HB_pad [(3,_)] [8,11] rfl).symm,0,_,_,by omega,rfl,rfl,rfl⟩ ?_
 rintro q st ⟨k,b8,b11,hk,rfl,hc,rfl⟩
 by_cases g1:(k:Int) < (l.length:Int)
 case neg =>
  obtain rfl:k=l.length:=by omega
  have hcl:clash t s l=false:=hc
  (refine goX g1 ?_; (repeat' (with_reducible apply Br.mk<;>intro _)))
  rw [hcl]
  exact Fin.p rfl rfl
 have hkl:k < l.length:=by omega
 have hcs:clTo t s l (k + 1)=clAt t s (l.take k) l[k]:=by
  rw [clTo,hc,Bool.false_or,List.getElem?_eq_getElem hkl]
 have hf:=rFits_ok t l[k]
 have htk:(l.map eP).take k=(l.take k).map eP:=List.map_take.symm
 have htl:(l.take k).length=k:=by rw [List.length_take]; omega
 rw [hT] at hf
 unfold eP at hf
 generalize hp:l[k]=p at *
 obtain ⟨pa,pv⟩:=p
 cases hfv:fits t ⟨pa,pv⟩ with
 | false =>
  rw [hfv] at hf
  have hcf:clTo t s l (k + 1)=false:=by rw [hcs]; unfold clAt; rw [hfv]; rfl
  (refine goX1 (nn g1 (nn hkl hp)) (hf) ?_; (repeat' (with_reducible apply Br.mk<;>intro _)))
  refine ⟨_,_,?_,stleB (by rfl),k + 1,_,_,by omega,rfl,hcf,rfl⟩
  omega
 | true =>
 rw [hfv] at hf
 obtain ⟨fz,⟨f1,f2,f3,f4⟩,f5⟩:=fits_iff.1 hfv
 obtain ⟨v1,v2,v3,v4,v5⟩:=Tk.valid_iff.1 fz
 simp only at f1 f2 f3 f4
 have hsh:=Share_ok t.house.toNat s t.need.toNat pa.toNat (by omega) h2 ⟨by omega,by omega⟩ (by omega)
 have e1:eN t.house.toNat=eI t.house:=by unfold eN; rw [show ((t.house.toNat:Nat):Int)=t.house by omega]
 have e2:eN t.need.toNat=eI t.need:=by unfold eN; rw [show ((t.need.toNat:Nat):Int)=t.need by omega]
 have e3:eN pa.toNat=eI pa:=by unfold eN; rw [show ((pa.toNat:Nat):Int)=pa by omega]
 rw [e1,e2,e3] at hsh
 have hcA:clAt t s (l.take k) ⟨pa,pv⟩=((decide (pv ≠ (shr t.house.toNat s pa.toNat t.need.toNat:Int)) && fits t ⟨pa,(shr t.house.toNat s pa.toNat t.need.toNat:Int)⟩) || (l.take k).any (bad t ⟨pa,pv⟩)):=by
  unfold clAt; rw [hfv,Bool.true_and]
 have hg:=rFits_ok t ⟨pa,(shr t.house.toNat s pa.toNat t.need.toNat:Int)⟩
 rw [hT] at hg
 unfold eP at hg
 generalize shr t.house.toNat s pa.toNat t.need.toNat=sh at *
 by_cases g2:pv=(sh:Int)
 case pos =>
  rw [decide_eq_false (not_not_intro g2),Bool.false_and,Bool.false_or] at hcA
  have e4:eN sh=eI pv:=by rw [g2]
  rw [e4] at hsh
  clear hg g2 e4
  (refine goX2 (nn g1 (nn hkl (nn hp htk))) (hf) (hsh) ?_; (repeat' (with_reducible apply Br.mk<;>intro _)))
  refine W.loop (fun q st=>∃ (m:Nat) (b11:Blk),m≤k∧q=k - m∧((l.take k).take m).any (bad t ⟨pa,pv⟩)=false ∧
   st=(E [(47,.d (eN m)),(46,.d (eN k)),(45,.d (.list ((l.take k).map eP))),(14,.d (eN k)),(13,.d (eN l.length)),(12,.d (.list (l.map eP))),(1,.d (eN s)),(2,.d (.list (l.map eP))),(3,.ptr 0 3 1 0),(8,.ptr 0 8 (b8.g + 1) 0)],
    HB [(3,⟨1,some [eI t.house,eI t.need,.list (t.marks.map eD)]⟩),(8,⟨b8.g + 1,some [eI pa,eI pv]⟩),(11,b11)],[],noGh))
   ⟨_,_,stleB (by rfl),0,_,by omega,rfl,rfl,rfl⟩ ?_
  rintro q st ⟨m,b11,hmk,rfl,ha,rfl⟩
  by_cases g3:(m:Int) < (k:Int)
  case neg =>
   obtain rfl:m=k:=by omega
   rw [List.take_of_length_le (by omega)] at ha
   have hcf:clTo t s l (m + 1)=false:=by rw [hcs,hcA,ha]
   (refine goX g3 ?_; (repeat' (with_reducible apply Br.mk<;>intro _)))
   refine ⟨_,_,?_,stleB (by rfl),m + 1,_,_,by omega,rfl,hcf,rfl⟩
   omega
  have hmk':m < (l.take k).length:=by omega
  have hqf:=rFits_ok t (l.take k)[m]
  rw [hT] at hqf
  unfold eP at hqf
  have hts:(l.take k).take (m + 1)=(l.take k).take m ++ [(l.take k)[m]]:=List.take_succ_eq_append_getElem hmk'
  have han:((l.take k).take (m + 1)).any (bad t ⟨pa,pv⟩)=bad t ⟨pa,pv⟩ (l.take k)[m]:=by rw [hts,List.any_append,ha]; simp
  have hin:(l.take k)[m] ∈ l.take k:=List.getElem_mem hmk'
  generalize hqq:(l.take k)[m]=q0 at *
  obtain ⟨qa,qv⟩:=q0
  have hbd:bad t ⟨pa,pv⟩ ⟨qa,qv⟩=(decide (qa=pa) && decide (qv ≠ pv) && fits t ⟨qa,qv⟩):=rfl
  by_cases g4:qa=pa
  case neg =>
   have hn:((l.take k).take (m + 1)).any (bad t ⟨pa,pv⟩)=false:=by rw [han,hbd,decide_eq_false g4]; rfl
   (refine goX (nn g3 (nn g4 (nn hmk' hqq))) ?_; (repeat' (with_reducible apply Br.mk<;>intro _)))
   refine ⟨_,_,?_,stleB (by rfl),m + 1,_,by omega,rfl,hn,rfl⟩
   omega
  subst g4
  by_cases g5:qv=pv
  case pos =>
   have hn:((l.take k).take (m + 1)).any (bad t ⟨qa,pv⟩)=false:=by rw [han,hbd,decide_eq_false (not_not_intro g5)]; simp
   subst g5
   (refine goX (nn g3 (nn hmk' hqq)) ?_; (repeat' (with_reducible apply Br.mk<;>intro _)))
   refine ⟨_,_,?_,stleB (by rfl),m + 1,_,by omega,rfl,hn,rfl⟩
   omega
  cases hqv:fits t ⟨qa,qv⟩ with
  | false =>
   rw [hqv] at hqf
   have hn:((l.take k).take (m + 1)).any (bad t ⟨qa,pv⟩)=false:=by rw [han,hbd,hqv]; simp
   (refine goX1 (nn g3 (nn g5 (nn hmk' hqq))) (hqf) ?_; (repeat' (with_reducible apply Br.mk<;>intro _)))
   refine ⟨_,_,?_,stleB (by rfl),m + 1,_,by omega,rfl,hn,rfl⟩
   omega
  | true =>
   rw [hqv] at hqf
   have hct:clash t s l=true:=clTo_up hkl (by rw [hcs,hcA]; exact List.any_eq_true.2 ⟨_,hin,by rw [hbd,hqv]; simp [g5]⟩)
   (refine goX1 (nn g3 (nn g5 (nn hmk' hqq))) (hqf) ?_; (repeat' (with_reducible apply Br.mk<;>intro _)))
   rw [hct]
   exact Fin.p rfl rfl
 cases hgv:fits t ⟨pa,(sh:Int)⟩ with
 | true =>
  rw [hgv] at hg hcA
  have hct:clash t s l=true:=clTo_up hkl (by rw [hcs,hcA,decide_eq_true g2]; rfl)
  (refine goX3 (nn g1 (nn g2 (nn hkl (nn hp htk)))) (hf) (hsh) (hg) ?_; (repeat' (with_reducible apply Br.mk<;>intro _)))
  rw [hct]
  exact Fin.p rfl rfl
 | false =>
  rw [hgv] at hg hcA
  rw [Bool.and_false,Bool.false_or] at hcA
  (refine goX3 (nn g1 (nn g2 (nn hkl (nn hp htk)))) (hf) (hsh) (hg) ?_; (repeat' (with_reducible apply Br.mk<;>intro _)))
  refine W.loop (fun q st=>∃ (m:Nat) (b11:Blk),m≤k∧q=k - m∧((l.take k).take m).any (bad t ⟨pa,pv⟩)=false ∧
   st=(E [(47,.d (eN m)),(46,.d (eN k)),(45,.d (.list ((l.take k).map eP))),(14,.d (eN k)),(13,.d (eN l.length)),(12,.d (.list (l.map eP))),(1,.d (eN s)),(2,.d (.list (l.map eP))),(3,.ptr 0 3 1 0),(8,.ptr 0 8 (b8.g + 1) 0)],
    HB [(3,⟨1,some [eI t.house,eI t.need,.list (t.marks.map eD)]⟩),(8,⟨b8.g + 1,some [eI pa,eI pv]⟩),(11,b11)],[],noGh))
   ⟨_,_,stleB (by rfl),0,_,by omega,rfl,rfl,rfl⟩ ?_
  rintro q st ⟨m,b11,hmk,rfl,ha,rfl⟩
  by_cases g3:(m:Int) < (k:Int)
  case neg =>
   obtain rfl:m=k:=by omega
   rw [List.take_of_length_le (by omega)] at ha
   have hcf:clTo t s l (m + 1)=false:=by rw [hcs,hcA,ha]
   (refine goX g3 ?_; (repeat' (with_reducible apply Br.mk<;>intro _)))
   refine ⟨_,_,?_,stleB (by rfl),m + 1,_,_,by omega,rfl,hcf,rfl⟩
   omega
  have hmk':m < (l.take k).length:=by omega
  have hqf:=rFits_ok t (l.take k)[m]
  rw [hT] at hqf
  unfold eP at hqf
  have hts:(l.take k).take (m + 1)=(l.take k).take m ++ [(l.take k)[m]]:=List.take_succ_eq_append_getElem hmk'
  have han:((l.take k).take (m + 1)).any (bad t ⟨pa,pv⟩)=bad t ⟨pa,pv⟩ (l.take k)[m]:=by rw [hts,List.any_append,ha]; simp
  have hin:(l.take k)[m] ∈ l.take k:=List.getElem_mem hmk'
  generalize hqq:(l.take k)[m]=q0 at *
  obtain ⟨qa,qv⟩:=q0
  have hbd:bad t ⟨pa,pv⟩ ⟨qa,qv⟩=(decide (qa=pa) && decide (qv ≠ pv) && fits t ⟨qa,qv⟩):=rfl
  by_cases g4:qa=pa
  case neg =>
   have hn:((l.take k).take (m + 1)).any (bad t ⟨pa,pv⟩)=false:=by rw [han,hbd,decide_eq_false g4]; rfl
   (refine goX (nn g3 (nn g4 (nn hmk' hqq))) ?_; (repeat' (with_reducible apply Br.mk<;>intro _)))
   refine ⟨_,_,?_,stleB (by rfl),m + 1,_,by omega,rfl,hn,rfl⟩
   omega
  subst g4
  by_cases g5:qv=pv
  case pos =>
   have hn:((l.take k).take (m + 1)).any (bad t ⟨qa,pv⟩)=false:=by rw [han,hbd,decide_eq_false (not_not_intro g5)]; simp
   subst g5
   (refine goX (nn g3 (nn hmk' hqq)) ?_; (repeat' (with_reducible apply Br.mk<;>intro _)))
   refine ⟨_,_,?_,stleB (by rfl),m + 1,_,by omega,rfl,hn,rfl⟩
   omega
  cases hqv:fits t ⟨qa,qv⟩ with
  | false =>
   rw [hqv] at hqf
   have hn:((l.take k).take (m + 1)).any (bad t ⟨qa,pv⟩)=false:=by rw [han,hbd,hqv]; simp
   (refine goX1 (nn g3 (nn g5 (nn hmk' hqq))) (hqf) ?_; (repeat' (with_reducible apply Br.mk<;>intro _)))
   refine ⟨_,_,?_,stleB (by rfl),m + 1,_,by omega,rfl,hn,rfl⟩
   omega
  | true =>
   rw [hqv] at hqf
   have hct:clash t s l=true:=clTo_up hkl (by rw [hcs,hcA]; exact List.any_eq_true.2 ⟨_,hin,by rw [hbd,hqv]; simp [g5]⟩)
   (refine goX1 (nn g3 (nn g5 (nn hmk' hqq))) (hqf) ?_; (repeat' (with_reducible apply Br.mk<;>intro _)))
   rw [hct]
   exact Fin.p rfl rfl
end Go.Proofs.YtclmdhceceacoaaDoor
/-
 Layer 44: the law DrawDoesNotDependOnWhoVanishes.
 Conditions: of each contract as it says.
-/
namespace Go.Proofs.YtclmdhceceacoaaDoor
open Go Go.E2 CW CH C44
set_option linter.unusedSimpArgs false
set_option maxHeartbeats 8000000
theorem reco_same2 {t:Tk} {a b c:List Pc} (hb:∀ p ∈ b,p ∈ c) (h1:(reco t a).2=0) (h2:(reco t b).2 ≠ 8) (hc:clash t (reco t a).1 c=false):reco t b=reco t a:=by
 obtain ⟨s,hs⟩:∃ s,reco t a=(s,0):=⟨(reco t a).1,by rw [← h1]⟩
 obtain ⟨h,need,n,rfl,q1,q2,q3,q4⟩:=tk_of hs
 rw [hs] at hc ⊢
 have ha:=clash_no q1 q3 q4 hc
 refine reco_of q1 q2 q3 q4 (fun p hp hf=>ha p (hb p hp) hf) fun hlt=>h2 ?_
 unfold reco
 rw [if_neg (by rw [tk_valid q1 q3 q4]; decide),if_pos (by show ((us (tkOf h s need n) b).length:Int) < (need:Int); omega)]
theorem reco_cases (t:Tk) (l:List Pc):∃ x e,reco t l=(x,e)∧x < P∧(e=0∨x=0∧(e=1∨e=8∨e=23)):=by
 unfold reco
 have hP:0 < P:=by decide
 split
 · exact ⟨_,_,rfl,hP,.inr ⟨rfl,.inl rfl⟩⟩
 · split
   · exact ⟨_,_,rfl,hP,.inr ⟨rfl,.inr (.inl rfl)⟩⟩
   · split
     · exact ⟨_,_,rfl,zer_lt _,.inl rfl⟩
     · exact ⟨_,_,rfl,hP,.inr ⟨rfl,.inr (.inr rfl)⟩⟩
theorem indep_ok (t:Tk) (a b:List Pc):CallP Tryd.prog f_zz0 [eT t,.list (a.map eP),.list (b.map eP)] (·=.d (.bool true)):=by
 refine callP_of_W fol zz0_cp ?_
 have hs:=sanity_ok
 have hT:eT t=.agg [eI t.house,eI t.need,.list (t.marks.map eD)]:=rfl
 have hm0:=mostBytes_eq
 by_cases h1:(t.marks.length:Int) > 20
 · rw [hT]
   refine goS trivial ?_
   (refine goX1 h1 (hs) ?_; (repeat' (with_reducible apply Br.mk<;>intro _)))
   exact Fin.p rfl rfl
 by_cases h2:(a.length:Int) > 20
 · rw [hT]
   refine goS trivial ?_
   (refine goX1 (nn h1 h2) (hs) ?_; (repeat' (with_reducible apply Br.mk<;>intro _)))
   exact Fin.p rfl rfl
 by_cases h3:(b.length:Int) > 20
 · rw [hT]
   refine goS trivial ?_
   (refine goX1 (nn h1 (nn h2 h3)) (hs) ?_; (repeat' (with_reducible apply Br.mk<;>intro _)))
   exact Fin.p rfl rfl
 have ra:=Recover_ok t a (by omega)
 have rb:=Recover_ok t b (by omega)
 obtain ⟨x,e,ea,xP,xe⟩:=reco_cases t a
 obtain ⟨y,f,eb,yP,yf⟩:=reco_cases t b
 have hab:a.map eP ++ b.map eP=(a ++ b).map eP:=List.map_append.symm
 have hal:(a ++ b).length≤40:=by rw [List.length_append]; omega
 have cx:=clash_ok t x (a ++ b) xP (by omega)
 have cy:=clash_ok t y (a ++ b) yP (by omega)
 have kx:e=0→f ≠ 8→clash t x (a ++ b)=false→y=x∧f=e:=fun e0 f8 hc=>by
  have:=reco_same2 (t:=t) (a:=a) (b:=b) (c:=a ++ b) (fun p hp=>List.mem_append_right _ hp) (by rw [ea]; exact e0) (by rw [eb]; exact f8) (by rw [ea]; exact hc)
  rw [ea,eb] at this
  exact ⟨congrArg Prod.fst this,congrArg Prod.snd this⟩
 have ky:f=0→e ≠ 8→clash t y (a ++ b)=false→x=y∧e=f:=fun e0 f8 hc=>by
  have:=reco_same2 (t:=t) (a:=b) (b:=a) (c:=a ++ b) (fun p hp=>List.mem_append_left _ hp) (by rw [eb]; exact e0) (by rw [ea]; exact f8) (by rw [eb]; exact hc)
  rw [ea,eb] at this
  exact ⟨congrArg Prod.fst this,congrArg Prod.snd this⟩
 rw [ea] at ra
 rw [eb] at rb
 rw [hT] at ra rb cx cy ⊢
 simp only at ra rb
 clear ea eb
 generalize a ++ b=c at *
 by_cases e1:e=1
 · obtain rfl:x=0:=by omega
   subst e1
   refine goS trivial ?_
   (refine goX3 (nn h1 (nn h2 h3)) (hs) (ra) (rb) ?_; (repeat' (with_reducible apply Br.mk<;>intro _)))
   exact Fin.p rfl rfl
 by_cases e8:e=8
 · obtain rfl:x=0:=by omega
   subst e8
   refine goS trivial ?_
   (refine goX3 (nn h1 (nn h2 h3)) (hs) (ra) (rb) ?_; (repeat' (with_reducible apply Br.mk<;>intro _)))
   exact Fin.p rfl rfl
 by_cases f1:f=1∨f=8
 · obtain rfl:y=0:=by omega
   obtain rfl|rfl:e=0∨e=23:=by omega
   all_goals rcases f1 with rfl|rfl
   all_goals
    by_cases g:(x:Int)=0
    all_goals
     refine goS trivial ?_
     (refine goX3 (nn h1 (nn h2 (nn h3 g))) (hs) (ra) (rb) ?_; (repeat' (with_reducible apply Br.mk<;>intro _)))
     exact Fin.p rfl rfl
 obtain rfl|rfl:e=0∨e=23:=by omega
 · cases hcx:clash t x c with
   | true =>
    rw [hcx] at cx
    obtain rfl|rfl:f=0∨f=23:=by omega
    all_goals
     refine goS trivial ?_
     (refine goX4 (nn h1 (nn h2 (nn h3 hab))) (hs) (ra) (rb) (cx) ?_; (repeat' (with_reducible apply Br.mk<;>intro _)))
     exact Fin.p rfl rfl
   | false =>
    rw [hcx] at cx
    obtain ⟨rfl,rfl⟩:=kx rfl (by omega) hcx
    clear cy
    refine goS trivial ?_
    (refine goX4 (nn h1 (nn h2 (nn h3 hab))) (hs) (ra) (rb) (cx) ?_; (repeat' (with_reducible apply Br.mk<;>intro _)))
    exact Fin.p rfl rfl
 · obtain rfl:x=0:=by omega
   obtain rfl|rfl:f=0∨f=23:=by omega
   · cases hcy:clash t y c with
     | true =>
      rw [hcy] at cy
      refine goS trivial ?_
      (refine goX4 (nn h1 (nn h2 (nn h3 hab))) (hs) (ra) (rb) (cy) ?_; (repeat' (with_reducible apply Br.mk<;>intro _)))
      exact Fin.p rfl rfl
     | false=>exact absurd (ky rfl (by decide) hcy).2 (by decide)
   · obtain rfl:y=0:=by omega
     refine goS trivial ?_
     (refine goX3 (nn h1 (nn h2 (nn h3 hab))) (hs) (ra) (rb) ?_; (repeat' (with_reducible apply Br.mk<;>intro _)))
     exact Fin.p rfl rfl
end Go.Proofs.YtclmdhceceacoaaDoor
