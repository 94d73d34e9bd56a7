/-
 Layer 40 (txn): the specification's Prepare.
 Conditions: of each contract as it says.
-/
import Derived.Test.YtlejjdbmmdghmaaQ1
import Derived.Test.YtlejjdbmmdghmaaF22c
import Derived.Shelf.Sort.AssemblyIn
import Derived.Sort.EveryDepth
import Derived.Shelf.Slices.In.SortNone
import Derived.Sort.OwnSortedInts
set_option linter.unusedSimpArgs false
namespace Go.Proofs.Ytlejjdbmmdghmaa
open Go Go.E2 C22 C40
set_option maxHeartbeats 4000000
def zmp (id:Int) (l:List Tw):List (Int×List Tw)→List (Int×List Tw)
 | []=>[(id,l)]
 | p::ps=>if id<p.1 then (id,l)::p::ps else p::zmp id l ps
def zta (id:Int) (l:List Tw) (a:List (Int×List Tw)×Bool) (p:Int×List Tw):List (Int×List Tw)×Bool :=
 if a.2=false∧id<p.1 then (a.1++[(id,l)]++[p],true) else (a.1++[p],a.2)
def endP (id:Int) (l:List Tw) (a:List (Int×List Tw)×Bool):List (Int×List Tw):=if a.2 then a.1 else a.1++[(id,l)]
theorem zoj (id:Int) (l:List Tw):∀ (ps acc:List (Int×List Tw)),ps.foldl (zta id l) (acc,true)=(acc++ps,true)
 | [],acc=>by simp
 | p::ps,acc=>by
   rw [List.foldl_cons]
   have:zta id l (acc,true) p=(acc++[p],true):=by unfold zta;simp
   rw [this,zoj id l ps];simp
theorem zrl (id:Int) (l:List Tw):∀ (ps acc:List (Int×List Tw)),endP id l (ps.foldl (zta id l) (acc,false))=acc++zmp id l ps
 | [],acc=>rfl
 | p::ps,acc=>by
   rw [List.foldl_cons,zmp]
   by_cases h:id<p.1
   · have:zta id l (acc,false) p=(acc++[(id,l)]++[p],true):=by unfold zta;simp [h]
     rw [this,zoj,if_pos h]
     unfold endP;simp
   · have:zta id l (acc,false) p=(acc++[p],false):=by unfold zta;simp [h]
     rw [this,zrl id l ps,if_neg h];simp
def stR (r:RS) (x:Tw):Bool:=decide ((vl r.1 x.key.toNat).1≠x.ver)
def zet (r:RS) (id:Int) (l:List Tw):Int×RS :=
 if ¬ zb8 id∨¬ Rgt r.1.length l then (1,r) else if 0≤fdP id r.2 0 then (9,r) else if l.any (zhg r.2) then (4,r) else if l.any (stR r) then (15,r) else if 4≤r.2.length then (13,r) else (0,(r.1,zmp id l r.2))
abbrev eDn (e:Int) (r:RS):D:=.agg [.list (r.1.map eVl),.list (r.2.map ePr),.int .i64 e]
theorem zmq (r:RS) (id:Int) (l:List Tw) (hL:l.length≤9223372036854775807) (hR:r.2.length≤1000) (hP:∀ p∈r.2,p.2.length≤1000) :
 zba Try.prog f_zz10 [eRS r,.int .i64 id,eL l] (·=.d (eDn (zet r id l).1 (zet r id l).2)):=by
 refine zba.of_deep (zap fol zz10_cp ?_)
 have hposs:=zfz id
 have hright:=zvt r l hL
 have hfind:=zrh r id (by omega)
 have hheld:=fun x=>zyh r x hR hP
 obtain ⟨V,ps⟩:=r
 simp only at hright hfind hheld hR hP
 by_cases c1:zb8 id
 case neg =>
  have e:zet (V,ps) id l=(1,(V,ps)):=if_pos (.inl c1)
  rw [e]
  rw [decide_eq_false c1] at hposs
  cases hb:decide (Rgt V.length l)<;>rw [hb] at hright
  · refine goS trivial ?_
    (refine znq trivial (hposs) (hright) ?_;(repeat' (with_reducible apply Br.mk<;>intro _)))
    exact Fin.eq rfl ⟨rfl,_,.refl _,rfl⟩
  · refine goS trivial ?_
    (refine znq trivial (hposs) (hright) ?_;(repeat' (with_reducible apply Br.mk<;>intro _)))
    exact Fin.eq rfl ⟨rfl,_,.refl _,rfl⟩
 rw [decide_eq_true c1] at hposs
 by_cases c2:Rgt V.length l
 case neg =>
  have e:zet (V,ps) id l=(1,(V,ps)):=if_pos (.inr c2)
  rw [e]
  rw [decide_eq_false c2] at hright
  refine goS trivial ?_
  (refine znq trivial (hposs) (hright) ?_;(repeat' (with_reducible apply Br.mk<;>intro _)))
  exact Fin.eq rfl ⟨rfl,_,.refl _,rfl⟩
 rw [decide_eq_true c2] at hright
 have hE:zet (V,ps) id l=if 0≤fdP id ps 0 then (9,(V,ps)) else if l.any (zhg ps) then (4,(V,ps)) else if l.any (stR (V,ps)) then (15,(V,ps)) else if 4≤ps.length then (13,(V,ps)) else (0,(V,zmp id l ps)) :=
  if_neg (fun h=>h.elim (fun h=>h c1) (fun h=>h c2))
 by_cases c3:0≤fdP id ps 0
 · rw [if_pos c3] at hE
   rw [hE]
   refine goS trivial ?_
   (refine z8f c3 (hposs) (hright) (hfind) ?_;(repeat' (with_reducible apply Br.mk<;>intro _)))
   exact Fin.eq rfl ⟨rfl,_,.refl _,rfl⟩
 have c3':(0≤fdP id ps 0)=False:=eq_false c3
 rw [if_neg c3] at hE
 have hall:=zdq l
 have hallV:=zkg V
 have hallP:=zkh ps
 have hl16:=c2.2.2.2
 refine goS trivial ?_
 (refine z8f c3' (hposs) (hright) (hfind) ?_;(repeat' (with_reducible apply Br.mk<;>intro _)))
 refine W.loop (fun z st=>∃ (i:Nat),z+i=l.length∧(∀ x∈l.take i,zhg ps x=false) ∧
  st=(E [(1,.d (.int .i64 id)),(2,.d (eL l)),(3,.ptr 0 3 1 0),(6,.ptr 0 6 1 0),(9,.d (.int .i64 (i:Nat)))],HB [(3,⟨1,some [.list (V.map eVl),.list (ps.map ePr)]⟩),(6,⟨1,some [.nilS,.nilS,.int .i64 0]⟩)],[],zdi))
  ⟨_,_,zt rfl,0,rfl,by simp,rfl⟩ ?_
 rintro z st ⟨i,hi,hno,rfl⟩
 by_cases hlt:i<l.length
 · have hlt':(i:Int)<(l.length:Int):=by omega
   have htk:l.take (i+1)=l.take i++[l[i]]:=by rw [List.take_add_one,List.getElem?_eq_getElem hlt];rfl
   have hh:=hheld l[i]
   cases hb:zhg ps l[i] with
   | true =>
    have e:l.any (zhg ps)=true:=List.any_eq_true.2 ⟨_,List.getElem_mem hlt,hb⟩
    rw [if_pos e] at hE
    rw [hE]
    rw [hb] at hh
    (refine zb1 (nn hlt' hall) (hh) ?_;(repeat' (with_reducible apply Br.mk<;>intro _)))
    exact Fin.eq rfl ⟨rfl,_,.refl _,rfl⟩
   | false =>
    rw [hb] at hh
    (refine zb1 (nn hlt' hall) (hh) ?_;(repeat' (with_reducible apply Br.mk<;>intro _)))
    refine ⟨z - 1,_,by omega,zt rfl,i+1,by omega,fun x hx=>?_,rfl⟩
    rw [htk] at hx
    rcases List.mem_append.1 hx with hx|hx
    · exact hno x hx
    · rw [List.mem_singleton.1 hx];exact hb
 have c4:l.any (zhg ps)=false:=by
  rw [show i=l.length by omega,List.take_length] at hno
  rw [List.any_eq_false]
  intro x hx;rw [hno x hx];simp
 rw [if_neg (by rw [c4];simp)] at hE
 have hx:((i:Int)<(l.length:Int))=False:=eq_false (by omega)
 (refine goX hx ?_;(repeat' (with_reducible apply Br.mk<;>intro _)))
 clear hno
 refine W.loop (fun z st=>∃ (i:Nat),z+i=l.length∧(∀ x∈l.take i,stR (V,ps) x=false) ∧
  st=(E [(1,.d (.int .i64 id)),(2,.d (eL l)),(3,.ptr 0 3 1 0),(6,.ptr 0 6 1 0),(11,.d (.int .i64 (i:Nat)))],HB [(3,⟨1,some [.list (V.map eVl),.list (ps.map ePr)]⟩),(6,⟨1,some [.nilS,.nilS,.int .i64 0]⟩)],[],zdi))
  ⟨_,_,zt rfl,0,rfl,by simp,rfl⟩ ?_
 rintro z2 st ⟨i,hi,hno,rfl⟩
 by_cases hlt:i<l.length
 · have hlt':(i:Int)<(l.length:Int):=by omega
   have htk:l.take (i+1)=l.take i++[l[i]]:=by rw [List.take_add_one,List.getElem?_eq_getElem hlt];rfl
   have hok:=c2.1 _ (List.getElem_mem hlt)
   have hmem:=List.getElem_mem hlt
   generalize hxe:l[i]=x at hok hmem htk
   obtain ⟨kn,hkn⟩:∃ kn:Nat,x.key=kn:=Int.eq_ofNat_of_zero_le hok.1
   have hkl:kn<V.length:=by have:=hok.2.1;omega
   have hvl:vl V x.key.toNat=V[kn]:=by
    rw [show x.key.toNat=kn by omega]
    unfold vl;rw [List.getD_eq_getElem?_getD,List.getElem?_eq_getElem hkl];rfl
   by_cases hv:V[kn].1=x.ver
   · have hs:stR (V,ps) x=false:=by unfold stR;rw [hvl];simp [hv]
     (refine goX (nn hlt' (nn hall (nn hxe (nn hkn (nn hallV hv))))) ?_;(repeat' (with_reducible apply Br.mk<;>intro _)))
     refine ⟨z2 - 1,_,by omega,zt rfl,i+1,by omega,fun y hy=>?_,rfl⟩
     rw [htk] at hy
     rcases List.mem_append.1 hy with hy|hy
     · exact hno y hy
     · rw [List.mem_singleton.1 hy];exact hs
   · have hs:stR (V,ps) x=true:=by unfold stR;rw [hvl];simp [hv]
     have e:l.any (stR (V,ps))=true:=List.any_eq_true.2 ⟨_,hmem,hs⟩
     rw [if_pos e] at hE
     rw [hE]
     (refine goX (nn hlt' (nn hall (nn hxe (nn hkn (nn hallV hv))))) ?_;(repeat' (with_reducible apply Br.mk<;>intro _)))
     exact Fin.eq rfl ⟨rfl,_,.refl _,rfl⟩
 have c5:l.any (stR (V,ps))=false:=by
  rw [show i=l.length by omega,List.take_length] at hno
  rw [List.any_eq_false]
  intro x hx;rw [hno x hx];simp
 rw [if_neg (by rw [c5];simp)] at hE
 have hx:((i:Int)<(l.length:Int))=False:=eq_false (by omega)
 by_cases c6:4≤ps.length
 · have e6:(4≤(ps.length:Int))=True:=eq_true (by omega)
   rw [if_pos c6] at hE
   rw [hE]
   (refine goX (nn hx e6) ?_;(repeat' (with_reducible apply Br.mk<;>intro _)))
   exact Fin.eq rfl ⟨rfl,_,.refl _,rfl⟩
 have e6:(4≤(ps.length:Int))=False:=eq_false (by omega)
 rw [if_neg c6] at hE
 rw [hE]
 have hins:=zrl id l ps []
 rw [List.nil_append] at hins
 (refine goX (nn hx e6) ?_;(repeat' (with_reducible apply Br.mk<;>intro _)))
 refine W.loop (fun z st=>∃ (k:Nat) (acc:List (Int×List Tw)) (pl:Bool) (x:D) (G:Gh),z+k=ps.length∧(ps.take k).foldl (zta id l) ([],false)=(acc,pl)∧(pl=false→acc.length≤k)∧(acc.length≤k+1)∧GV 2 G x (acc.map ePr) ∧
  st=(E [(1,.d (.int .i64 id)),(2,.d (eL l)),(3,.ptr 0 3 1 0),(6,.ptr 0 6 1 0),(12,.ptr 0 12 1 0),(13,.d (.bool pl)),(14,.d (.int .i64 (k:Nat)))],HB [(3,⟨1,some [.list (V.map eVl),.list (ps.map ePr)]⟩),(6,⟨1,some [.nilS,.nilS,.int .i64 0]⟩),(12,⟨1,some [.list (V.map eVl),x]⟩)],[],G))
  ⟨_,_,zt rfl,0,[],false,.nilS,zdi,rfl,rfl,fun _=>by simp,by simp,.nil,rfl⟩ ?_
 rintro z3 st ⟨k,acc,pl,x,G,hk,hf,hal0,hal,hv,rfl⟩
 have halm:(acc.map ePr).length=acc.length:=by rw [List.length_map]
 by_cases hkl:k<ps.length
 · have hkl':(k:Int)<(ps.length:Int):=by omega
   have htk:ps.take (k+1)=ps.take k++[ps[k]]:=by rw [List.take_add_one,List.getElem?_eq_getElem hkl];rfl
   have hf2:(ps.take (k+1)).foldl (zta id l) ([],false)=zta id l (acc,pl) ps[k]:=by rw [htk,List.foldl_append,hf];rfl
   generalize hpe:ps[k]=p at hf2
   obtain ⟨pi,pl2⟩:=p
   by_cases hc:pl=false∧id<pi
   · obtain ⟨rfl,hlt⟩:=hc
     have hal0:=hal0 rfl
     have hs:zta id l (acc,false) (pi,pl2)=(acc++[(id,l)]++[(pi,pl2)],true):=if_pos ⟨rfl,hlt⟩
     rw [hs] at hf2
     (refine goX (nn hkl' (nn hallP (nn hpe hlt))) ?_;(repeat' (with_reducible apply Br.mk<;>intro _)))
     refine za0 (es2:=[ePr (id,l)]) (m:=1) hv (zav (es:=[ePr (id,l)]) rfl) rfl rfl rfl (by rw [halm,zo];omega) fun x1 G1 hv1 _=>?_
     rw [← List.map_singleton (f:=ePr),← List.map_append] at hv1
     obtain ⟨bx1,n1,cap1,rfl⟩:∃ b n c,x1=.gs b 0 n c:=by obtain ⟨b,c,cs,h,_⟩:=hv1.inv (by simp);exact ⟨b,_,c,h⟩
     refine goS trivial ?_
     (refine goX (nn hkl' (nn hallP hpe)) ?_;(repeat' (with_reducible apply Br.mk<;>intro _)))
     refine za0 (es2:=[ePr (pi,pl2)]) (m:=1) hv1 (zav (es:=[ePr (pi,pl2)]) rfl) rfl rfl rfl (by rw [List.length_map,List.length_append,zo];simp only [List.length_cons,List.length_nil];omega) fun x2 G2 hv2 _=>?_
     rw [← List.map_singleton (f:=ePr),← List.map_append] at hv2
     obtain ⟨bx2,n2,cap2,rfl⟩:∃ b n c,x2=.gs b 0 n c:=by obtain ⟨b,c,cs,h,_⟩:=hv2.inv (by simp);exact ⟨b,_,c,h⟩
     refine goS trivial ?_
     (refine goX trivial ?_;(repeat' (with_reducible apply Br.mk<;>intro _)))
     exact ⟨z3 - 1,_,by omega,zt rfl,k+1,_,true,_,G2,by omega,hf2,fun h=>absurd h (by simp),by simp only [List.length_append,List.length_cons,List.length_nil];omega,hv2,rfl⟩
   · have hs:zta id l (acc,pl) (pi,pl2)=(acc++[(pi,pl2)],pl):=if_neg hc
     rw [hs] at hf2
     cases pl with
     | true =>
      (refine goX (nn hkl' (nn hallP hpe)) ?_;(repeat' (with_reducible apply Br.mk<;>intro _)))
      refine za0 (es2:=[ePr (pi,pl2)]) (m:=1) hv (zav (es:=[ePr (pi,pl2)]) rfl) rfl rfl rfl (by rw [halm,zo];omega) fun x2 G2 hv2 _=>?_
      rw [← List.map_singleton (f:=ePr),← List.map_append] at hv2
      obtain ⟨bx2,n2,cap2,rfl⟩:∃ b n c,x2=.gs b 0 n c:=by obtain ⟨b,c,cs,h,_⟩:=hv2.inv (by simp);exact ⟨b,_,c,h⟩
      refine goS trivial ?_
      (refine goX trivial ?_;(repeat' (with_reducible apply Br.mk<;>intro _)))
      exact ⟨z3 - 1,_,by omega,zt rfl,k+1,_,true,_,G2,by omega,hf2,fun h=>absurd h (by simp),by simp only [List.length_append,List.length_cons,List.length_nil];omega,hv2,rfl⟩
     | false =>
      have hlt:(id<pi)=False:=eq_false (fun h=>hc ⟨rfl,h⟩)
      (refine goX (nn hkl' (nn hallP (nn hpe hlt))) ?_;(repeat' (with_reducible apply Br.mk<;>intro _)))
      refine za0 (es2:=[ePr (pi,pl2)]) (m:=1) hv (zav (es:=[ePr (pi,pl2)]) rfl) rfl rfl rfl (by rw [halm,zo];omega) fun x2 G2 hv2 _=>?_
      rw [← List.map_singleton (f:=ePr),← List.map_append] at hv2
      obtain ⟨bx2,n2,cap2,rfl⟩:∃ b n c,x2=.gs b 0 n c:=by obtain ⟨b,c,cs,h,_⟩:=hv2.inv (by simp);exact ⟨b,_,c,h⟩
      refine goS trivial ?_
      (refine goX trivial ?_;(repeat' (with_reducible apply Br.mk<;>intro _)))
      exact ⟨z3 - 1,_,by omega,zt rfl,k+1,_,false,_,G2,by omega,hf2,fun h=>by have:=hal0 rfl;simp only [List.length_append,List.length_cons,List.length_nil];omega,by simp only [List.length_append,List.length_cons,List.length_nil];omega,hv2,rfl⟩
 · have hke:k=ps.length:=by omega
   have hx:((k:Int)<(ps.length:Int))=False:=eq_false (by omega)
   rw [hke,List.take_length] at hf
   rw [hf] at hins
   cases pl with
   | true =>
    have he:zmp id l ps=acc:=hins.symm
    rw [he]
    rcases hv.shape with rfl|⟨bx,nx,cx,rfl⟩
    · (refine goX hx ?_;(repeat' (with_reducible apply Br.mk<;>intro _)))
      exact Fin.eq rfl ⟨rfl,_,.d _ _ (DRs.agg (DRs.cons (.refl _) (DRs.cons hv.dr (DRs.cons (.refl _) DRs.nil)))),rfl⟩
    · (refine goX hx ?_;(repeat' (with_reducible apply Br.mk<;>intro _)))
      exact Fin.eq rfl ⟨rfl,_,.d _ _ (DRs.agg (DRs.cons (.refl _) (DRs.cons hv.dr (DRs.cons (.refl _) DRs.nil)))),rfl⟩
   | false =>
    have he:zmp id l ps=acc++[(id,l)]:=hins.symm
    rw [he]
    (refine goX hx ?_;(repeat' (with_reducible apply Br.mk<;>intro _)))
    refine za0 (es2:=[ePr (id,l)]) (m:=1) hv (zav (es:=[ePr (id,l)]) rfl) rfl rfl rfl (by rw [halm,zo];omega) fun x1 G1 hv1 _=>?_
    rw [← List.map_singleton (f:=ePr),← List.map_append] at hv1
    obtain ⟨bx1,n1,cap1,rfl⟩:∃ b n c,x1=.gs b 0 n c:=by obtain ⟨b,c,cs,h,_⟩:=hv1.inv (by simp);exact ⟨b,_,c,h⟩
    refine goS trivial ?_
    (refine goX trivial ?_;(repeat' (with_reducible apply Br.mk<;>intro _)))
    exact Fin.eq rfl ⟨rfl,_,.d _ _ (DRs.agg (DRs.cons (.refl _) (DRs.cons hv1.dr (DRs.cons (.refl _) DRs.nil)))),rfl⟩
end Go.Proofs.Ytlejjdbmmdghmaa
namespace Go.Proofs.Ytlejjdbmmdghmaa
open Go Go.E2 C22 C40
set_option maxHeartbeats 4000000
theorem zrm (id:Int):∀ (c:List (Int×List Tw)) (i:Nat),fdP id c i=-1∨(i:Int)≤fdP id c i∧fdP id c i<i+c.length
 | [],_=>.inl rfl
 | b::c,i=>by
   unfold fdP
   split
   · right;simp only [List.length_cons];omega
   · rcases zrm id c (i+1) with h|⟨h,h2⟩
     · exact .inl h
     · right;simp only [List.length_cons];omega
def zki (r:RS) (id:Int) (commit:Bool):Int×RS :=
 if ¬ zb8 id then (1,r) else if fdP id r.2 0<0 then (0,r) else
 (0,(if commit then zis (r.2.getD (fdP id r.2 0).toNat (0,[])).2 r.1 else r.1,r.2.eraseIdx (fdP id r.2 0).toNat))
theorem ztb {α:Type} {l:List α} {a k:Nat} (hk:k<l.length):(l.take (k+1)).eraseIdx a=if k=a then (l.take k).eraseIdx a else (l.take k).eraseIdx a++[l[k]]:=by
 have htk:l.take (k+1)=l.take k++[l[k]]:=by rw [List.take_add_one,List.getElem?_eq_getElem hk];rfl
 have hlen:(l.take k).length=k:=by rw [List.length_take];omega
 rw [htk]
 by_cases h:k=a
 · subst h
   rw [if_pos rfl,List.eraseIdx_append_of_length_le (by omega),hlen,Nat.sub_self,List.eraseIdx_of_length_le (l:=l.take k) (by omega)]
   simp
 · rw [if_neg h]
   rcases Nat.lt_or_ge a k with h2|h2
   · rw [List.eraseIdx_append_of_lt_length (by omega)]
   · rw [List.eraseIdx_append_of_length_le (by omega),hlen,List.eraseIdx_of_length_le (l:=l.take k) (by omega),List.eraseIdx_of_length_le (by simp;omega)]
theorem zok:∀ (a b:List Tw) (V:List Vl),zis (a++b) V=zis b (zis a V)
 | [],b,V=>rfl
 | x::a,b,V=>by rw [List.cons_append,zis,zis,zok a b]
theorem zp5 (r:RS) (id:Int) (commit:Bool) (hV1:1≤r.1.length) (hV:r.1.length≤1000) (hR:r.2.length≤1000) (hP:∀ p∈r.2,Rgt r.1.length p.2) :
 zba Try.prog f_zz12 [eRS r,.int .i64 id,.bool commit] (·=.d (eDn (zki r id commit).1 (zki r id commit).2)):=by
 refine zba.of_deep (zap fol zz12_cp ?_)
 have hposs:=zfz id
 have hfind:=zrh r id (by omega)
 obtain ⟨V,ps⟩:=r
 simp only at hfind hV hV1 hR hP
 by_cases c1:zb8 id
 case neg =>
  have e:zki (V,ps) id commit=(1,(V,ps)):=if_pos c1
  rw [e]
  rw [decide_eq_false c1] at hposs
  refine goS trivial ?_
  (refine zb1 trivial (hposs) ?_;(repeat' (with_reducible apply Br.mk<;>intro _)))
  exact Fin.eq rfl ⟨rfl,_,.refl _,rfl⟩
 rw [decide_eq_true c1] at hposs
 have hE:zki (V,ps) id commit=if fdP id ps 0<0 then (0,(V,ps)) else (0,(if commit then zis (ps.getD (fdP id ps 0).toNat (0,[])).2 V else V,ps.eraseIdx (fdP id ps 0).toNat)):=if_neg (fun h=>h c1)
 by_cases c2:fdP id ps 0<0
 · rw [if_pos c2] at hE
   rw [hE]
   refine goS trivial ?_
   (refine znq c2 (hposs) (hfind) ?_;(repeat' (with_reducible apply Br.mk<;>intro _)))
   exact Fin.eq rfl ⟨rfl,_,.refl _,rfl⟩
 rw [if_neg c2] at hE
 rw [hE]
 clear hE
 have hlt0:=zrm id ps 0
 obtain ⟨a,ha⟩:∃ a:Nat,fdP id ps 0=a:=Int.eq_ofNat_of_zero_le (by omega)
 rw [ha] at hfind c2 hlt0 ⊢
 rw [Int.toNat_natCast]
 have hal:a<ps.length:=by omega
 have hgd:ps.getD a (0,[])=ps[a]:=by rw [List.getD_eq_getElem?_getD,List.getElem?_eq_getElem hal];rfl
 rw [hgd]
 have c2':((a:Int)<0)=False:=eq_false c2
 have hallV:=zkg V
 have hallP:=zkh ps
 have hPa:=hP _ (List.getElem_mem hal)
 refine goS trivial ?_
 (refine znq c2' (hposs) (hfind) ?_;(repeat' (with_reducible apply Br.mk<;>intro _)))
 refine zam fun b0 hb0=>?_
 have h0:Sep (SlA 2 (.gs b0 0 0 0) []::[]) (zdi.set b0 (some (zag []))):=Sep.toSl (Sep.new hb0 trivial) (Row.mk' (sz:=2) (n:=0) (cap:=0) (es:=[]) (rest:=[]) rfl rfl (by omega) (by simp [zag]))
 generalize zdi.set b0 (some (zag []))=G0 at h0 ⊢
 refine goS trivial ?_
 (refine goX trivial ?_;(repeat' (with_reducible apply Br.mk<;>intro _)))
 refine za0 (es2:=V.map eVl) (m:=V.length) h0.gv (by rw [zav hallV,List.length_map]) (by rw [List.length_map]) hallV rfl (by rw [zo];simp only [List.length_nil];omega) fun x1 G1 hv1 hto1=>?_
 have h1:Sep (SlA 2 x1 (V.map eVl)::[]) G1:=h0.grow hto1 hv1
 have h2:Sep (SlA 2 .nilS (([]:List (Int×List Tw)).map ePr)::SlA 2 x1 (V.map eVl)::[]) G1:=Sep.slNil h1
 obtain ⟨b1,k1,_,hx1,_,_⟩:=h1.gv.inv (by intro e;rw [List.map_eq_nil_iff] at e;rw [e] at hV1;simp at hV1)
 rw [List.length_map] at hx1
 subst hx1
 clear h0 hv1 hto1 h1
 refine goS trivial ?_
 (refine goX trivial ?_;(repeat' (with_reducible apply Br.mk<;>intro _)))
 refine W.loop (fun z st=>∃ (k:Nat) (x:D) (G:Gh),z+k=ps.length∧Sep (SlA 2 x (((ps.take k).eraseIdx a).map ePr)::SlA 2 (.gs b1 0 V.length k1) (V.map eVl)::[]) G ∧
  st=(E [(1,.d (.int .i64 id)),(2,.d (.bool commit)),(3,.ptr 0 3 1 0),(6,.ptr 0 6 1 0),(8,.d (.int .i64 a)),(9,.ptr 0 9 1 0),(10,.d (.int .i64 (k:Nat)))],HB [(3,⟨1,some [.list (V.map eVl),.list (ps.map ePr)]⟩),(6,⟨1,some [.nilS,.nilS,.int .i64 0]⟩),(9,⟨1,some [.gs b1 0 V.length k1,x]⟩)],[],G))
  ⟨_,_,zt rfl,0,.nilS,G1,rfl,h2,rfl⟩ ?_
 rintro z st ⟨k,x,G,hk,h3,rfl⟩
 by_cases hkl:k<ps.length
 · have hkl':(k:Int)<(ps.length:Int):=by omega
   have het:=ztb (l:=ps) (a:=a) hkl
   have hle:((ps.take k).eraseIdx a).length≤k:=by
    have:=List.length_eraseIdx_le (ps.take k) a
    rw [List.length_take] at this;omega
   by_cases hka:k=a
   · subst hka
     rw [if_pos rfl] at het
     rw [← het] at h3
     (refine goX hkl' ?_;(repeat' (with_reducible apply Br.mk<;>intro _)))
     exact ⟨z - 1,_,by omega,zt rfl,k+1,x,G,by omega,h3,rfl⟩
   · have hka':((k:Int)=(a:Int))=False:=eq_false (by omega)
     rw [if_neg hka] at het
     have hv:=h3.gv
     generalize hpe:ps[k]=p at het
     obtain ⟨pi,pl⟩:=p
     (refine goX (nn hkl' (nn hka' (nn hallP hpe))) ?_;(repeat' (with_reducible apply Br.mk<;>intro _)))
     refine za0 (es2:=[ePr (pi,pl)]) (m:=1) hv (zav (es:=[ePr (pi,pl)]) rfl) rfl rfl rfl (by rw [List.length_map,zo];omega) fun x2 G2 hv2 hto=>?_
     rw [← List.map_singleton (f:=ePr),← List.map_append,← het] at hv2
     have h4:=h3.grow hto hv2
     obtain ⟨bx2,n2,cap2,rfl⟩:∃ b n c,x2=.gs b 0 n c:=by
      obtain ⟨b,c,cs,h,_⟩:=hv2.inv (by rw [het];simp)
      exact ⟨b,_,c,h⟩
     refine goS trivial ?_
     (refine goX trivial ?_;(repeat' (with_reducible apply Br.mk<;>intro _)))
     exact ⟨z - 1,_,by omega,zt rfl,k+1,_,G2,by omega,h4,rfl⟩
 have hx:((k:Int)<(ps.length:Int))=False:=eq_false (by omega)
 rw [show k=ps.length by omega,List.take_length] at h3
 (refine goX hx ?_;(repeat' (with_reducible apply Br.mk<;>intro _)))
 clear hx
 have hl16:=hPa.2.2.2
 have hall:=zdq ps[a].2
 have hxs:=h3.gv.shape
 refine W.loop (fun z st=>∃ (i:Nat) (V':List Vl) (b12:Blk) (G:Gh),z+i=ps[a].2.length∧V'.length=V.length∧V'=zis (ps[a].2.take i) V∧(commit=false→i=0)∧Sep (SlA 2 (.gs b1 0 V.length k1) (V'.map eVl)::SlA 2 x ((ps.eraseIdx a).map ePr)::[]) G ∧
  st=(E [(1,.d (.int .i64 id)),(2,.d (.bool commit)),(3,.ptr 0 3 1 0),(6,.ptr 0 6 1 0),(8,.d (.int .i64 a)),(9,.ptr 0 9 1 0),(11,.d (.int .i64 (i:Nat)))],HB [(3,⟨1,some [.list (V.map eVl),.list (ps.map ePr)]⟩),(6,⟨1,some [.nilS,.nilS,.int .i64 0]⟩),(9,⟨1,some [.gs b1 0 V.length k1,x]⟩),(12,b12)],[],G))
  ⟨_,_,zt (zcx [(3,⟨1,some [.list (V.map eVl),.list (ps.map ePr)]⟩),(6,⟨1,some [.nilS,.nilS,.int .i64 0]⟩),(9,⟨1,some [.gs b1 0 V.length k1,x]⟩)] [12] rfl).symm,0,V,_,G,rfl,rfl,rfl,fun _=>rfl,h3.swap,rfl⟩ ?_
 rintro z2 st ⟨i,V',b12,G4,hi,hVl,hV',hi0,h5,rfl⟩
 have hle0:((a:Int)<0)=False:=eq_false (by omega)
 have fin:V'=(if commit then zis ps[a].2 V else V)→∀ {y:D},y=x→DRA G4.c (.d (.agg [.gs b1 0 V.length k1,y,.int .i64 0])) (.d (eDn 0 ((if commit then zis ps[a].2 V else V),ps.eraseIdx a))):=fun e y hy=>by
  subst hy
  rw [← e]
  exact .d _ _ (DRs.agg (DRs.cons h5.gv.dr (DRs.cons h5.tail.gv.dr (DRs.cons (.refl _) DRs.nil))))
 by_cases hlt:i<ps[a].2.length
 · have hlt':(i:Int)<(ps[a].2.length:Int):=by omega
   cases commit with
   | false =>
    have e:V'=V:=by have:=hi0 rfl;subst this;exact hV'
    rcases hxs with rfl|⟨bx,nx,cx,rfl⟩
    · (refine goX (nn hallP hlt') ?_;(repeat' (with_reducible apply Br.mk<;>intro _)))
      exact Fin.eq rfl ⟨rfl,_,fin e rfl,rfl⟩
    · (refine goX (nn hallP hlt') ?_;(repeat' (with_reducible apply Br.mk<;>intro _)))
      exact Fin.eq rfl ⟨rfl,_,fin e rfl,rfl⟩
   | true =>
    have htk:ps[a].2.take (i+1)=ps[a].2.take i++[ps[a].2[i]]:=by rw [List.take_add_one,List.getElem?_eq_getElem hlt];rfl
    have hok:=hPa.1 _ (List.getElem_mem hlt)
    have hV2:zis (ps[a].2.take (i+1)) V=if ps[a].2[i].rd then V' else V'.set ps[a].2[i].key.toNat (ps[a].2[i].ver+1,ps[a].2[i].val):=by
     rw [htk,zok,← hV'];rfl
    generalize hxe:ps[a].2[i]=y at hok hV2
    obtain ⟨kn,hkn⟩:∃ kn:Nat,y.key=kn:=Int.eq_ofNat_of_zero_le hok.1
    rw [show y.key.toNat=kn by omega] at hV2
    have hver:=hok.2.2.2.1
    have hver0:=hok.2.2.1
    have hknl:kn<V.length:=by have:=hok.2.1;omega
    cases hr:y.rd with
    | true =>
     rw [hr,if_pos rfl] at hV2
     (refine goX (nn hallP (nn hlt' (nn hall (nn hxe hr)))) ?_;(repeat' (with_reducible apply Br.mk<;>intro _)))
     exact ⟨z2 - 1,_,by omega,zt rfl,i+1,V',_,G4,by omega,hVl,hV2.symm,fun h=>absurd h (by simp),h5,rfl⟩
    | false =>
     rw [hr,if_neg (by simp)] at hV2
     obtain ⟨cs,hbc,hrow⟩:∃ cs,G4.c b1=some cs∧Row 2 V.length k1 (V'.map eVl) cs:=by
      obtain ⟨b',cap',cs,h,hbc,hrow⟩:=h5.gv.inv (by intro e;rw [List.map_eq_nil_iff] at e;rw [e] at hVl;simp at hVl;omega)
      injection h with e1 _ _ e4
      subst e1;subst e4
      rw [List.length_map,hVl] at hrow
      exact ⟨cs,hbc,hrow⟩
     have hfit:=hrow.fits (i:=kn) (by rw [List.length_map];omega)
     have hrow2:=hrow.set (i:=kn) (x:=eVl (y.ver+1,y.val)) (by rw [List.length_map];omega) rfl
     rw [← List.map_set] at hrow2
     have h6:=Sep.slSet h5 hrow2
     (refine goX (nn hallP (nn hlt' (nn hall (nn hxe (nn hr (nn hkn (nn hbc hfit))))))) ?_;(repeat' (with_reducible apply Br.mk<;>intro _)))
     exact ⟨z2 - 1,_,by omega,zt rfl,i+1,V'.set kn (y.ver+1,y.val),_,_,by omega,by rw [List.length_set];exact hVl,hV2.symm,fun h=>absurd h (by simp),h6,rfl⟩
 · have hie:i=ps[a].2.length:=by omega
   have hx:((i:Int)<(ps[a].2.length:Int))=False:=eq_false (by omega)
   rw [hie,List.take_length] at hV'
   have e:V'=(if commit then zis ps[a].2 V else V):=by
    cases commit with
    | true=>exact hV'
    | false=>have:=hi0 rfl;rw [hie] at this;rw [List.length_eq_zero_iff.1 this] at hV';exact hV'
   rcases hxs with rfl|⟨bx,nx,cx,rfl⟩
   · (refine goX (nn hallP hx) ?_;(repeat' (with_reducible apply Br.mk<;>intro _)))
     exact Fin.eq rfl ⟨rfl,_,fin e rfl,rfl⟩
   · (refine goX (nn hallP hx) ?_;(repeat' (with_reducible apply Br.mk<;>intro _)))
     exact Fin.eq rfl ⟨rfl,_,fin e rfl,rfl⟩
end Go.Proofs.Ytlejjdbmmdghmaa
namespace Go.Proofs.Ytlejjdbmmdghmaa
open Go Go.E2 C22 Go.RowKit
def sortRen:Go.Shelf.Ren:=⟨fun|189=>69|125=>78|257=>77|128=>91|129=>92|294=>82|295=>83|296=>84|297=>85|298=>86|299=>87|216=>88|300=>89|301=>90|328=>96|329=>97|330=>98|331=>99|332=>100|215=>101|343=>103|n=>n,
 fun|28=>51|3=>3|46=>93|0=>0|51=>168|53=>197|4=>4|183=>189|182=>188|131=>193|5=>5|9=>9|218=>203|222=>207|228=>210|229=>211|n=>n,fun n=>n⟩
theorem zrn:Go.Proofs.Lays.n189 Try.prog sortRen:={
 mixed:=by kernel_rfl
 f125:=Try.func78.trans (congrArg some (by kernel_rfl))
 f128:=Try.func91.trans (congrArg some (by kernel_rfl))
 f129:=Try.func92.trans (congrArg some (by kernel_rfl))
 f189:=Try.func69.trans (congrArg some (by kernel_rfl))
 f215:=Try.func101.trans (congrArg some (by kernel_rfl))
 f216:=Try.func88.trans (congrArg some (by kernel_rfl))
 f257:=Try.func77.trans (congrArg some (by kernel_rfl))
 f294:=Try.func82.trans (congrArg some (by kernel_rfl))
 f295:=Try.func83.trans (congrArg some (by kernel_rfl))
 f296:=Try.func84.trans (congrArg some (by kernel_rfl))
 f297:=Try.func85.trans (congrArg some (by kernel_rfl))
 f298:=Try.func86.trans (congrArg some (by kernel_rfl))
 f299:=Try.func87.trans (congrArg some (by kernel_rfl))
 f300:=Try.func89.trans (congrArg some (by kernel_rfl))
 f301:=Try.func90.trans (congrArg some (by kernel_rfl))
 f328:=Try.func96.trans (congrArg some (by kernel_rfl))
 f329:=Try.func97.trans (congrArg some (by kernel_rfl))
 f330:=Try.func98.trans (congrArg some (by kernel_rfl))
 f331:=Try.func99.trans (congrArg some (by kernel_rfl))
 f332:=Try.func100.trans (congrArg some (by kernel_rfl))
 f343:=Try.func103.trans (congrArg some (by kernel_rfl))
 t0:=Try.underlying0
 a0:=Try.isAgg0
 z0:=Try.sizeOf0
 v0:=Try.zeroValue0
 t3:=Try.underlying3
 a3:=Try.isAgg3
 z3:=Try.sizeOf3
 v3:=Try.zeroValue3
 t4:=Try.underlying4
 a4:=Try.isAgg4
 z4:=Try.sizeOf4
 v4:=Try.zeroValue4
 t5:=Try.underlying5
 a5:=Try.isAgg5
 z5:=Try.sizeOf5
 v5:=Try.zeroValue5
 t9:=Try.underlying9
 a9:=Try.isAgg9
 z9:=Try.sizeOf9
 v9:=Try.zeroValue9
 t28:=Try.underlying51
 a28:=Try.isAgg51
 z28:=Try.sizeOf51
 v28:=Try.zeroValue51
 t46:=Try.underlying93
 a46:=Try.isAgg93
 z46:=Try.sizeOf93
 v46:=Try.zeroValue93
 t51:=Try.underlying168
 a51:=Try.isAgg168
 z51:=Try.sizeOf168
 v51:=Try.zeroValue168
 t53:=Try.underlying197
 a53:=Try.isAgg197
 z53:=Try.sizeOf197
 v53:=Try.zeroValue197
 t131:=Try.underlying193
 a131:=Try.isAgg193
 z131:=Try.sizeOf193
 v131:=Try.zeroValue193
 t182:=Try.underlying188
 a182:=Try.isAgg188
 z182:=Try.sizeOf188
 v182:=Try.zeroValue188
 t183:=Try.underlying189
 a183:=Try.isAgg189
 z183:=Try.sizeOf189
 v183:=Try.zeroValue189
 t218:=Try.underlying203
 a218:=Try.isAgg203
 z218:=Try.sizeOf203
 v218:=Try.zeroValue203
 t222:=Try.underlying207
 a222:=Try.isAgg207
 z222:=Try.sizeOf207
 v222:=Try.zeroValue207
 t228:=Try.underlying210
 a228:=Try.isAgg210
 z228:=Try.sizeOf210
 v228:=Try.zeroValue210
 t229:=Try.underlying211
 a229:=Try.isAgg211
 z229:=Try.sizeOf211
 v229:=Try.zeroValue211 }
theorem zlu:ze3 Try.prog f_zz16:=⟨_,_,Try.func69,rfl,by kernel_rfl⟩
theorem zi8:∀ l:List Int,zag (l.map eI)=l.map eI
 | []=>rfl
 | x::r=>by
   have ih:=zi8 r
   simp only [zag,List.map_cons,List.flatMap_cons,D.cells,List.singleton_append] at ih ⊢
   rw [ih]
theorem zkj (l:List Int):(l.map eI).all (zb 1)=true:=by simp [List.all_map,Function.comp_def,zb,D.cells,D.one]
theorem zvx {S:Stb} {l:List Int} {vs:List Value} (h:zz S (l.map eI) vs):vs=l.map (Value.int .i64):=by
 apply List.ext_getElem?
 intro i
 cases hi:l[i]? with
 | none=>rw [List.getElem?_eq_none (by rw [h.1,List.length_map];exact List.getElem?_eq_none_iff.1 hi),List.getElem?_map,hi];rfl
 | some n =>
  obtain ⟨v,hv,hr⟩:=h.get (j:=i) (x:=eI n) (by rw [List.getElem?_map,hi];rfl)
  rw [hv,List.getElem?_map,hi,hr.int_inv];rfl
theorem zvy {S:Stb} (l:List Int):zz S (l.map eI) (l.map (Value.int .i64)):=by
 refine ⟨by simp,fun j x v hx hv=>?_⟩
 rw [List.getElem?_map] at hx hv
 cases hj:l[j]? with
 | none=>rw [hj] at hx;cases hx
 | some n=>rw [hj] at hx hv;cases hx;cases hv;exact VRD.int _ _
def zco (l:List Int):List Int:=l.mergeSort fun x y=>decide (x≤y)
theorem zf0 (l:List Int):(zco l).length=l.length:=by simp [zco]
theorem zyj (b cap:Nat) (l:List Int) (cs:List D) (hl:l.length≤1000000000) (σ:List Hp) (G:Gh) (hb:G.c b=some cs) (hr:Row 1 l.length cap (l.map eI) cs) :
 zbb Try.prog f_zz16 [.d (.gs b 0 l.length cap)] σ G fun r σ' G'=>σ'=σ∧r=.tup []∧G'=G.set b (some ((zco l).map eI++cs.drop l.length)):=by
 intro S ms w args m0 hsz hrel hargs _
 obtain ⟨v0,rfl⟩:∃ v0,args=#[v0]:=by
  rcases args with ⟨l⟩
  match l,hsz with
  | [x],_=>exact ⟨x,rfl⟩
 have h0:VRD S (.gs b 0 l.length cap) v0:=hargs 0
 cases h0
 obtain ⟨vs,e,hvs,hvr,hone⟩:=hrel.gbox hb
 have hlt:=hrel.g_lt hb
 have htk:vs.toList.take l.length=l.map (Value.int .i64):=by
  have:=hvr.take l.length
  have e1:cs.take l.length=l.map eI:=by have:=hr.eq;rw [Nat.mul_one,zi8] at this;exact this
  rw [e1] at this
  exact zvx this
 have hlen:l.length≤vs.size:=by have:=congrArg List.length htk;simp at this;omega
 have hH:=holds_of_blockI (ss:=l) hvs htk
 have hcall:=calls_of_every_depth fun D=>AnyS.slices_Sort_int_in zrn D b 0 cap l w hH hlt (by omega)
 refine .inl ⟨zlu,hcall.mono fun ex w' ⟨he,n,os,hw⟩=>⟨_,he,?_⟩⟩
 subst hw
 have hnew:=heap_sortedI (n:=n) (os:=os) (l.mergeSort fun x y=>decide (x≤y)).toArray hvs
 have hg:=grownBy_sortedI (w:=w) (g:=b) (n:=n) (os:=os) (l.mergeSort fun x y=>decide (x≤y)).toArray
 generalize hw':Sort.grow (Sort.putRow (Value.int .i64) (Sort.ahead w n) b 0 (l.mergeSort fun x y=>decide (x≤y)).toArray) os=w' at hnew hg ⊢
 obtain ⟨g1,g2,g3,g4,g5⟩:=hg
 have other:∀ k,k<w.heap.size→k≠b→w'.heap[k]?=w.heap[k]?:=fun k hk hne=>g5 k hk (fun e=>hne (by cases e;rfl))
 have hcells:zz S ((zco l).map eI++cs.drop l.length) (Sort.putCells (Value.int .i64) 0 (l.mergeSort fun x y=>decide (x≤y)).toArray vs).toList:=by
  have e1:(Sort.putCells (Value.int .i64) 0 (l.mergeSort fun x y=>decide (x≤y)).toArray vs).toList=(zco l).map (Value.int .i64)++vs.toList.drop l.length:=by
   have e2:=take_putCellsI vs (zco l) (by rw [zf0];exact hlen)
   rw [zf0] at e2
   conv=>lhs;rw [← List.take_append_drop l.length (Sort.putCells (Value.int .i64) 0 (l.mergeSort fun x y=>decide (x≤y)).toArray vs).toList]
   have e3:(Sort.putCells (Value.int .i64) 0 (l.mergeSort fun x y=>decide (x≤y)).toArray vs).toList.drop l.length=vs.toList.drop l.length:=by
    apply List.ext_getElem?
    intro i
    rw [List.getElem?_drop,List.getElem?_drop,Array.getElem?_toList,Array.getElem?_toList]
    have hne:¬ (0≤l.length+i∧l.length+i<0+(l.mergeSort fun x y=>decide (x≤y)).toArray.size):=by
     simp
    simp only [Sort.putCells,Array.getElem?_mapIdx]
    cases vs[l.length+i]? with
    | none=>rfl
    | some x=>simp only [Option.map_some,if_neg hne]
   rw [e3]
   exact congrArg (·++_) e2
  rw [e1]
  exact (zvy _).append (hvr.drop _)
 have hone':((zco l).map eI++cs.drop l.length).all D.one=true:=by
  rw [List.all_append,Bool.and_eq_true]
  refine ⟨by simp [List.all_map,Function.comp_def,D.one],?_⟩
  rw [List.all_eq_true] at hone ⊢
  exact fun x hx=>hone x (List.mem_of_mem_drop hx)
 refine ⟨S,.tup [],σ,_,⟨rfl,rfl,rfl⟩,⟨fun ad v hs=>?_,hrel.len,fun {k s b' cs'} hl'=>?_,hrel.nos,hrel.inj,fun {b' cs'} hb'=>?_,fun {b' cs'} hb'=>?_,fun {b' cs' k s cs2} hb'=>?_,fun r o ho=>?_,hrel.tab⟩,⟨g4,fun k hk hO=>other k hk (fun e=>hO (e▸.inr (.inl ⟨cs,hb⟩))),fun _ _=>rfl,Sub.refl S,g1,g2,g3⟩,zah.refl _,⟨#[],rfl,⟨rfl,fun j x v hx _=>by simp at hx⟩⟩,?_⟩
 · have hc:=hrel.sub _ _ hs
   have hlt2:=hrel.S_lt hs
   have hne:ad.block≠b:=by
    intro e
    have:=hrel.gnos hb ad.off ad.spot
    rw [← e] at this
    rw [this] at hs;cases hs
   simpa [World.cell?,other _ hlt2 hne] using hc
 · exact (hrel.box hl').mono (Sub.refl S) (other _ (hrel.block_lt hl') (fun e=>by subst e;exact hrel.gnl hb hl'))
 · rw [Gh.set_c] at hb'
   unfold upd at hb'
   split at hb'
   · rename_i e;subst e
     cases hb'
     exact ⟨_,_,hnew,hcells,hone'⟩
   · rename_i hne
     exact (hrel.gbox hb').mono (Sub.refl S) (other _ (hrel.g_lt hb') hne)
 · rw [Gh.set_c] at hb'
   unfold upd at hb'
   split at hb'
   · rename_i e;subst e;exact hrel.gnos hb
   · exact hrel.gnos hb'
 · rw [Gh.set_c] at hb'
   unfold upd at hb'
   split at hb'
   · rename_i e;subst e;exact hrel.gnl hb
   · exact hrel.gnl hb'
 · have h1:=hrel.x r o ho
   obtain ⟨x0,hx0,hi0⟩:=hrel.x.get ho
   have hne:r≠b:=by rintro rfl;rw [hvs] at hx0;cases hx0;cases hi0
   rw [other r (hrel.x.lt ho) hne]
   exact h1
 · refine ⟨fun b' cs' hb' _=>?_,fun r o ho _=>.inr (.inr ⟨o,ho⟩)⟩
   rw [Gh.set_c] at hb'
   unfold upd at hb'
   split at hb'
   · rename_i e;subst e;exact .inl ⟨cs,hb⟩
   · exact .inl ⟨cs',hb'⟩
theorem zyk (σ:List Hp) (G:Gh):zbb Try.prog f_zz16 [.d .nilS] σ G fun r σ' G'=>σ'=σ∧r=.tup []∧G'=G:=by
 intro S ms w args m0 hsz hrel hargs _
 obtain ⟨v0,rfl⟩:∃ v0,args=#[v0]:=by
  rcases args with ⟨l⟩
  match l,hsz with
  | [x],_=>exact ⟨x,rfl⟩
 have h0:VRD S .nilS v0:=hargs 0
 cases h0
 refine .inl ⟨zlu,(Any.slices_Sort_int_none zrn none 0 w).mono fun e w' ⟨he,hw⟩=>⟨_,he,?_⟩⟩
 subst hw
 exact ⟨S,.tup [],σ,G,⟨rfl,rfl,rfl⟩,hrel,Evo.refl _ _ _ _,zah.refl _,⟨#[],rfl,⟨rfl,fun j x v hx _=>by simp at hx⟩⟩,zz3.refl _ _ _ _⟩
theorem z1k (x:D) (l:List Int) (hl:l.length≤1000000000):zy Try.prog f_zz16 [x] [SlA 1 x (l.map eI)] (fun _ post=>post=[SlA 1 x ((zco l).map eI)]):=by
 intro R G σ hs
 have hv:=Sep.gv hs
 rcases hv.shape with rfl|⟨b,n,cap,rfl⟩
 · have hl0:l=[]:=by
    cases l with
    | nil=>rfl
    | cons a l=>obtain ⟨_,_,_,e,_⟩:=hv.inv (by simp);cases e
   subst hl0
   refine (zyk σ G).mono fun r σ' G' ⟨h1,h2,h3⟩=>⟨h1,_,rfl,?_⟩
   subst h3
   have e0:zco ([]:List Int)=[]:=by simp [zco]
   rw [e0]
   exact hs
 · have hg:∃ cs,G.c b=some cs∧n=l.length∧Row 1 n cap (l.map eI) cs:=by
    cases hv with
    | row _ _ _ cs hb hr=>exact ⟨cs,hb,by simp,hr⟩
   obtain ⟨cs,hb,rfl,hr⟩:=hg
   refine (zyj b cap l cs hl σ G hb hr).mono fun r σ' G' ⟨h1,h2,h3⟩=>⟨h1,_,rfl,?_⟩
   subst h3
   refine Sep.slSet hs ?_
   have hroom:=hr.room
   have hfit:=hr.fit
   have:=Row.mk' (sz:=1) (n:=l.length) (cap:=cap) (es:=(zco l).map eI) (rest:=cs.drop l.length) (by rw [List.length_map,zf0]) (zkj _) hfit (by
    rw [zi8,List.length_append,List.length_map,zf0,List.length_drop];omega)
   rw [zi8] at this
   exact this
end Go.Proofs.Ytlejjdbmmdghmaa
