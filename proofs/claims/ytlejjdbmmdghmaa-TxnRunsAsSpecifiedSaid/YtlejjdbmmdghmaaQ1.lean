/-
 Layer 40 (txn): the specification's tests.
 Conditions: of each contract as it says.
-/
import Derived.Test.YtlejjdbmmdghmaaX8
import Derived.Test.YtlejjdbmmdghmaaT40k
set_option linter.unusedSimpArgs false
namespace Go.Proofs.Ytlejjdbmmdghmaa
open Go Go.E2 C22 C40
set_option maxHeartbeats 2000000
abbrev RS:=List (Int×Str)×List (Int×List Tw)
abbrev eVl (v:Int×Str):D:=.agg [.int .i64 v.1,.str v.2]
abbrev ePr (p:Int×List Tw):D:=.agg [.int .i64 p.1,eL p.2]
abbrev eRS (r:RS):D:=.agg [.list (r.1.map eVl),.list (r.2.map ePr)]
theorem zkg (l:List (Int×Str)):(l.map eVl).all (zb 2)=true:=by
 rw [List.all_eq_true];intro x hx
 obtain ⟨y,_,rfl⟩:=List.mem_map.1 hx;rfl
theorem zkh (l:List (Int×List Tw)):(l.map ePr).all (zb 2)=true:=by
 rw [List.all_eq_true];intro x hx
 obtain ⟨y,_,rfl⟩:=List.mem_map.1 hx;rfl
theorem zfz (id:Int):zba Try.prog f_zz8 [.int .i64 id] (·=.d (.bool (decide (zb8 id)))):=by
 refine zal fol zz8_cp ?_
 by_cases h1:1≤id
 · by_cases h2:id≤1099511627776
   · rw [decide_eq_true ⟨h1,h2⟩]
     refine goS trivial ?_
     (refine goX (nn h1 h2) ?_;(repeat' (with_reducible apply Br.mk<;>intro _)))
     exact Fin.p rfl rfl
   · rw [decide_eq_false (fun h=>h2 h.2)]
     refine goS trivial ?_
     (refine goX (nn h1 h2) ?_;(repeat' (with_reducible apply Br.mk<;>intro _)))
     exact Fin.p rfl rfl
 · rw [decide_eq_false (fun h=>h1 h.1)]
   refine goS trivial ?_
   (refine goX h1 ?_;(repeat' (with_reducible apply Br.mk<;>intro _)))
   exact Fin.p rfl rfl
theorem zvt (r:RS) (l:List Tw) (hL:l.length≤9223372036854775807) :
 zba Try.prog f_zz19 [eRS r,eL l] (·=.d (.bool (decide (Rgt r.1.length l)))):=by
 refine zal fol zz19_cp ?_
 by_cases c1:l.length<1
 · have e1:((l.length:Int)<1)=True:=eq_true (by omega)
   rw [decide_eq_false (fun h=>by have:=h.2.2.1;omega)]
   refine goS trivial ?_
   (refine goX e1 ?_;(repeat' (with_reducible apply Br.mk<;>intro _)))
   exact Fin.p rfl rfl
 have e1:((l.length:Int)<1)=False:=eq_false (by omega)
 by_cases c2:16<l.length
 · have e2:(16<(l.length:Int))=True:=eq_true (by omega)
   rw [decide_eq_false (fun h=>by have:=h.2.2.2;omega)]
   refine goS trivial ?_
   (refine goX (nn e1 e2) ?_;(repeat' (with_reducible apply Br.mk<;>intro _)))
   exact Fin.p rfl rfl
 have e2:(16<(l.length:Int))=False:=eq_false (by omega)
 have hall:=zdq l
 obtain ⟨V,P0⟩:=r
 refine goS trivial ?_
 (refine goX (nn e1 e2) ?_;(repeat' (with_reducible apply Br.mk<;>intro _)))
 refine W.loop (fun m st=>∃ (i:Nat) (b6:Blk),m+i=l.length∧(∀ x∈l.take i,okT V.length x)∧((l.take i).map Tw.key).Nodup ∧
  st=(E [(1,.d (eL l)),(2,.ptr 0 2 1 0),(5,.d (.int .i64 (i:Nat)))],HB [(2,⟨1,some [.list (V.map eVl),.list (P0.map ePr)]⟩),(6,b6)],[],zdi))
  ⟨_,_,zt (zcx [(2,⟨1,some [.list (V.map eVl),.list (P0.map ePr)]⟩)] [6] rfl).symm,0,_,rfl,by simp,by simp,rfl⟩ ?_
 rintro m st ⟨i,b6,hi,ho,hnd,rfl⟩
 by_cases hlt:i<l.length
 case neg =>
  have:i=l.length:=by omega
  subst this
  rw [List.take_length] at ho hnd
  have hx:((l.length:Int)<(l.length:Int))=False:=eq_false (by omega)
  rw [decide_eq_true (show Rgt V.length l from ⟨ho,hnd,by omega,by omega⟩)]
  (refine goX hx ?_;(repeat' (with_reducible apply Br.mk<;>intro _)))
  exact Fin.p rfl rfl
 have hlt':(i:Int)<(l.length:Int):=by omega
 have htk:l.take (i+1)=l.take i++[l[i]]:=by rw [List.take_add_one,List.getElem?_eq_getElem hlt];rfl
 have bad:(¬ okT V.length l[i]∨l[i].key∈(l.take i).map Tw.key)→decide (Rgt V.length l)=false:=fun h=>decide_eq_false fun hR=>by
  rcases h with h|h
  · exact h (hR.1 _ (List.getElem_mem hlt))
  · have h3:=hR.2.1
    rw [← List.take_append_drop (i+1) l,htk,List.map_append,List.map_append] at h3
    have h4:=(List.nodup_append.1 h3).1
    exact (List.nodup_append.1 h4).2.2 _ h _ (by simp) rfl
 have good:okT V.length l[i]→l[i].key ∉ (l.take i).map Tw.key→(∀ x∈l.take (i+1),okT V.length x)∧((l.take (i+1)).map Tw.key).Nodup:=fun h1 h2=>by
  rw [htk]
  refine ⟨fun x hx=>?_,?_⟩
  · rcases List.mem_append.1 hx with hx|hx
    · exact ho x hx
    · rw [List.mem_singleton.1 hx];exact h1
  · rw [List.map_append,List.nodup_append]
    exact ⟨hnd,by simp,fun a ha b hb=>by rw [List.map_cons,List.map_nil,List.mem_singleton] at hb;subst hb;exact fun e=>h2 (e▸ha)⟩
 generalize hxe:l[i]=x at bad good
 by_cases c3:x.key<0
 · rw [bad (.inl fun h=>by have:=h.1;omega)]
   (refine goX (nn hlt' (nn hall (nn hxe c3))) ?_;(repeat' (with_reducible apply Br.mk<;>intro _)))
   exact Fin.p rfl rfl
 have c3':(x.key<0)=False:=eq_false c3
 by_cases c4:(V.length:Int)≤x.key
 · rw [bad (.inl fun h=>by have:=h.2.1;omega)]
   (refine goX (nn hlt' (nn hall (nn hxe (nn c3' c4)))) ?_;(repeat' (with_reducible apply Br.mk<;>intro _)))
   exact Fin.p rfl rfl
 have c4':((V.length:Int)≤x.key)=False:=eq_false c4
 by_cases c5:x.ver<0
 · rw [bad (.inl fun h=>by have:=h.2.2.1;omega)]
   (refine goX (nn hlt' (nn hall (nn hxe (nn c3' (nn c4' c5))))) ?_;(repeat' (with_reducible apply Br.mk<;>intro _)))
   exact Fin.p rfl rfl
 have c5':(x.ver<0)=False:=eq_false c5
 by_cases c6:1099511627776<x.ver
 · rw [bad (.inl fun h=>by have:=h.2.2.2.1;omega)]
   (refine goX (nn hlt' (nn hall (nn hxe (nn c3' (nn c4' (nn c5' c6)))))) ?_;(repeat' (with_reducible apply Br.mk<;>intro _)))
   exact Fin.p rfl rfl
 have c6':(1099511627776<x.ver)=False:=eq_false c6
 by_cases c7:40<x.val.length
 · rw [bad (.inl fun h=>by have:=h.2.2.2.2.1;omega)]
   have c7':(40<(x.val.length:Int))=True:=eq_true (by omega)
   (refine goX (nn hlt' (nn hall (nn hxe (nn c3' (nn c4' (nn c5' (nn c6' c7'))))))) ?_;(repeat' (with_reducible apply Br.mk<;>intro _)))
   exact Fin.p rfl rfl
 have c7':(40<(x.val.length:Int))=False:=eq_false (by omega)
 cases hr:x.rd with
 | true =>
  by_cases c8:x.val=[]
  · have hok:okT V.length x:=⟨by omega,by omega,by omega,by omega,by omega,fun _=>c8⟩
    (refine goX (nn hlt' (nn hall (nn hxe (nn c3' (nn c4' (nn c5' (nn c6' (nn c7' (nn hr c8))))))))) ?_;(repeat' (with_reducible apply Br.mk<;>intro _)))
    refine W.loop (fun z st=>∃ (j:Nat),z+j=i∧(∀ y∈l.take j,y.key≠x.key) ∧
     st=(E [(1,.d (eL l)),(2,.ptr 0 2 1 0),(5,.d (.int .i64 (i:Nat))),(6,.ptr 0 6 (b6.g+1) 0),(7,.d (.int .i64 (j:Nat)))],HB [(2,⟨1,some [.list (V.map eVl),.list (P0.map ePr)]⟩),(6,⟨b6.g+1,some [.int .i64 x.key,.int .i64 x.ver,.str [],.bool true]⟩)],[],zdi))
     ⟨i,_,zt rfl,0,rfl,by simp,rfl⟩ ?_
    rintro z st ⟨j,hj,hne,rfl⟩
    by_cases hji:j<i
    · have hji':(j:Int)<(i:Int):=by omega
      have hjl:j<l.length:=by omega
      have htj:l.take (j+1)=l.take j++[l[j]]:=by rw [List.take_add_one,List.getElem?_eq_getElem hjl];rfl
      by_cases he:l[j].key=x.key
      · rw [bad (.inr (by rw [← he];exact List.mem_map.2 ⟨l[j],by rw [List.mem_take_iff_getElem];exact ⟨j,by omega,rfl⟩,rfl⟩))]
        (refine goX (nn hji' (nn hall he)) ?_;(repeat' (with_reducible apply Br.mk<;>intro _)))
        exact Fin.p rfl rfl
      · (refine goX (nn hji' (nn hall he)) ?_;(repeat' (with_reducible apply Br.mk<;>intro _)))
        refine ⟨z - 1,_,by omega,zt rfl,j+1,by omega,fun y hy=>?_,rfl⟩
        rw [htj] at hy
        rcases List.mem_append.1 hy with hy|hy
        · exact hne y hy
        · rw [List.mem_singleton.1 hy];exact he
    · have hji2:j=i:=by omega
      have hx:((j:Int)<(i:Int))=False:=eq_false (by omega)
      rw [hji2] at hne
      obtain ⟨g1,g2⟩:=good hok (fun h=>by
       obtain ⟨y,hy,e⟩:=List.mem_map.1 h
       exact hne y hy e)
      (refine goX hx ?_;(repeat' (with_reducible apply Br.mk<;>intro _)))
      exact ⟨m - 1,_,by omega,zt rfl,i+1,_,by omega,g1,g2,rfl⟩
  · rw [bad (.inl fun h=>c8 (h.2.2.2.2.2 hr))]
    (refine goX (nn hlt' (nn hall (nn hxe (nn c3' (nn c4' (nn c5' (nn c6' (nn c7' (nn hr c8))))))))) ?_;(repeat' (with_reducible apply Br.mk<;>intro _)))
    exact Fin.p rfl rfl
 | false =>
  have hok:okT V.length x:=⟨by omega,by omega,by omega,by omega,by omega,fun h=>by rw [hr] at h;cases h⟩
  (refine goX (nn hlt' (nn hall (nn hxe (nn c3' (nn c4' (nn c5' (nn c6' (nn c7' hr)))))))) ?_;(repeat' (with_reducible apply Br.mk<;>intro _)))
  refine W.loop (fun z st=>∃ (j:Nat),z+j=i∧(∀ y∈l.take j,y.key≠x.key) ∧
   st=(E [(1,.d (eL l)),(2,.ptr 0 2 1 0),(5,.d (.int .i64 (i:Nat))),(6,.ptr 0 6 (b6.g+1) 0),(7,.d (.int .i64 (j:Nat)))],HB [(2,⟨1,some [.list (V.map eVl),.list (P0.map ePr)]⟩),(6,⟨b6.g+1,some [.int .i64 x.key,.int .i64 x.ver,.str x.val,.bool false]⟩)],[],zdi))
   ⟨i,_,zt rfl,0,rfl,by simp,rfl⟩ ?_
  rintro z st ⟨j,hj,hne,rfl⟩
  by_cases hji:j<i
  · have hji':(j:Int)<(i:Int):=by omega
    have hjl:j<l.length:=by omega
    have htj:l.take (j+1)=l.take j++[l[j]]:=by rw [List.take_add_one,List.getElem?_eq_getElem hjl];rfl
    by_cases he:l[j].key=x.key
    · rw [bad (.inr (by rw [← he];exact List.mem_map.2 ⟨l[j],by rw [List.mem_take_iff_getElem];exact ⟨j,by omega,rfl⟩,rfl⟩))]
      (refine goX (nn hji' (nn hall he)) ?_;(repeat' (with_reducible apply Br.mk<;>intro _)))
      exact Fin.p rfl rfl
    · (refine goX (nn hji' (nn hall he)) ?_;(repeat' (with_reducible apply Br.mk<;>intro _)))
      refine ⟨z - 1,_,by omega,zt rfl,j+1,by omega,fun y hy=>?_,rfl⟩
      rw [htj] at hy
      rcases List.mem_append.1 hy with hy|hy
      · exact hne y hy
      · rw [List.mem_singleton.1 hy];exact he
  · have hji2:j=i:=by omega
    have hx:((j:Int)<(i:Int))=False:=eq_false (by omega)
    rw [hji2] at hne
    obtain ⟨g1,g2⟩:=good hok (fun h=>by
     obtain ⟨y,hy,e⟩:=List.mem_map.1 h
     exact hne y hy e)
    (refine goX hx ?_;(repeat' (with_reducible apply Br.mk<;>intro _)))
    exact ⟨m - 1,_,by omega,zt rfl,i+1,_,by omega,g1,g2,rfl⟩
def fdP (id:Int):List (Int×List Tw)→Nat→Int
 | [],_=>-1
 | p::ps,i=>if p.1=id then (i:Int) else fdP id ps (i+1)
theorem zrh (r:RS) (id:Int) (hL:r.2.length≤9223372036854775807):zba Try.prog f_zz23 [eRS r,.int .i64 id] (·=.d (.int .i64 (fdP id r.2 0))):=by
 refine zal fol zz23_cp ?_
 obtain ⟨V,ps⟩:=r
 have hall:=zkh ps
 refine goS trivial ?_
 refine goR trivial ?_
 refine W.loop (fun m st=>∃ (i:Nat),m+i=ps.length∧fdP id (ps.drop i) i=fdP id ps 0 ∧
  st=(E [(1,.d (.int .i64 id)),(2,.ptr 0 2 1 0),(5,.d (.int .i64 (i:Nat)))],HB [(2,⟨1,some [.list (V.map eVl),.list (ps.map ePr)]⟩)],[],zdi))
  ⟨_,_,zt rfl,0,rfl,rfl,rfl⟩ ?_
 rintro m st ⟨i,hi,he,rfl⟩
 simp only at hL
 by_cases hlt:i<ps.length
 · have hlt':(i:Int)<(ps.length:Int):=by omega
   rw [List.drop_eq_getElem_cons hlt,fdP] at he
   by_cases hb:ps[i].1=id
   · rw [if_pos hb] at he
     (refine goX (nn hlt' (nn hall hb)) ?_;(repeat' (with_reducible apply Br.mk<;>intro _)))
     exact Fin.p rfl (by rw [he])
   · rw [if_neg hb] at he
     (refine goX (nn hlt' (nn hall hb)) ?_;(repeat' (with_reducible apply Br.mk<;>intro _)))
     exact ⟨m - 1,_,by omega,zt rfl,i+1,by omega,he,rfl⟩
 · have hx:((i:Int)<(ps.length:Int))=False:=eq_false (by omega)
   rw [show i=ps.length by omega,List.drop_length] at he
   (refine goX hx ?_;(repeat' (with_reducible apply Br.mk<;>intro _)))
   exact Fin.p rfl (by rw [← he];rfl)
def zhg (ps:List (Int×List Tw)) (x:Tw):Bool:=ps.any fun p=>p.2.any (zfm x)
theorem zyh (r:RS) (x:Tw) (hL:r.2.length≤1000) (hP:∀ p∈r.2,p.2.length≤1000):zba Try.prog f_zz24 [eRS r,eTw x] (·=.d (.bool (zhg r.2 x))):=by
 refine zal fol zz24_cp ?_
 obtain ⟨V,ps⟩:=r
 have hall:=zkh ps
 simp only at hL hP
 refine goS trivial ?_
 refine goR trivial ?_
 refine W.loop (fun m st=>∃ (i:Nat) (b7:Blk),m+i=ps.length∧(∀ p∈ps.take i,p.2.any (zfm x)=false) ∧
  st=(E [(2,.ptr 0 2 1 0),(3,.ptr 0 3 1 0),(5,.d (.int .i64 (i:Nat)))],HB [(2,⟨1,some [.list (V.map eVl),.list (ps.map ePr)]⟩),(3,⟨1,some [.int .i64 x.key,.int .i64 x.ver,.str x.val,.bool x.rd]⟩),(7,b7)],[],zdi))
  ⟨_,_,zt (zcx [(2,⟨1,some [.list (V.map eVl),.list (ps.map ePr)]⟩),(3,⟨1,some [.int .i64 x.key,.int .i64 x.ver,.str x.val,.bool x.rd]⟩)] [7] rfl).symm,0,_,rfl,by simp,rfl⟩ ?_
 rintro m st ⟨i,b7,hi,hno,rfl⟩
 by_cases hlt:i<ps.length
 case neg =>
  have hx:((i:Int)<(ps.length:Int))=False:=eq_false (by omega)
  have e:zhg ps x=false:=by
   unfold zhg
   rw [List.any_eq_false]
   intro p hp
   rw [show i=ps.length by omega,List.take_length] at hno
   rw [hno p hp];simp
  rw [e]
  (refine goX hx ?_;(repeat' (with_reducible apply Br.mk<;>intro _)))
  exact Fin.p rfl rfl
 have hlt':(i:Int)<(ps.length:Int):=by omega
 have hpl:=hP _ (List.getElem_mem hlt)
 have hpm:=List.getElem_mem hlt
 have htk:ps.take (i+1)=ps.take i++[ps[i]]:=by rw [List.take_add_one,List.getElem?_eq_getElem hlt];rfl
 have hall2:=zdq ps[i].2
 (refine goX hlt' ?_;(repeat' (with_reducible apply Br.mk<;>intro _)))
 refine W.loop (fun z st=>∃ (j:Nat) (b7:Blk),z+j=ps[i].2.length∧(∀ y∈ps[i].2.take j,zfm x y=false) ∧
  st=(E [(2,.ptr 0 2 1 0),(3,.ptr 0 3 1 0),(5,.d (.int .i64 (i:Nat))),(6,.d (.int .i64 (j:Nat)))],HB [(2,⟨1,some [.list (V.map eVl),.list (ps.map ePr)]⟩),(3,⟨1,some [.int .i64 x.key,.int .i64 x.ver,.str x.val,.bool x.rd]⟩),(7,b7)],[],zdi))
  ⟨_,_,zt rfl,0,_,rfl,by simp,rfl⟩ ?_
 rintro z st ⟨j,b7',hj,hnj,rfl⟩
 by_cases hjl:j<ps[i].2.length
 · have hjl':(j:Int)<(ps[i].2.length:Int):=by omega
   have htj:ps[i].2.take (j+1)=ps[i].2.take j++[ps[i].2[j]]:=by rw [List.take_add_one,List.getElem?_eq_getElem hjl];rfl
   have nxt:zfm x ps[i].2[j]=false→∀ y∈ps[i].2.take (j+1),zfm x y=false:=fun h y hy=>by
    rw [htj] at hy
    rcases List.mem_append.1 hy with hy|hy
    · exact hnj y hy
    · rw [List.mem_singleton.1 hy];exact h
   have yes:zfm x ps[i].2[j]=true→zhg ps x=true:=fun h=>by
    unfold zhg
    rw [List.any_eq_true]
    exact ⟨_,hpm,List.any_eq_true.2 ⟨_,List.getElem_mem hjl,h⟩⟩
   generalize hye:ps[i].2[j]=y at nxt yes
   by_cases hk:y.key=x.key
   · have hcl:zfm x y=!(y.rd && x.rd):=by unfold zfm;rw [decide_eq_true hk,Bool.true_and]
     cases hyr:y.rd<;>cases hxr:x.rd<;>rw [hyr,hxr] at hcl
     · rw [yes hcl]
       (refine goX (nn hlt' (nn hall (nn hall2 (nn hjl' (nn hye (nn hk hyr)))))) ?_;(repeat' (with_reducible apply Br.mk<;>intro _)))
       exact Fin.p rfl rfl
     · rw [yes hcl]
       (refine goX (nn hlt' (nn hall (nn hall2 (nn hjl' (nn hye (nn hk hyr)))))) ?_;(repeat' (with_reducible apply Br.mk<;>intro _)))
       exact Fin.p rfl rfl
     · rw [yes hcl]
       (refine goX (nn hlt' (nn hall (nn hall2 (nn hjl' (nn hye (nn hk (nn hyr hxr))))))) ?_;(repeat' (with_reducible apply Br.mk<;>intro _)))
       exact Fin.p rfl rfl
     · (refine goX (nn hlt' (nn hall (nn hall2 (nn hjl' (nn hye (nn hk (nn hyr hxr))))))) ?_;(repeat' (with_reducible apply Br.mk<;>intro _)))
       exact ⟨z - 1,_,by omega,zt rfl,j+1,_,by omega,nxt hcl,rfl⟩
   · have hcl:zfm x y=false:=by unfold zfm;rw [decide_eq_false hk,Bool.false_and]
     (refine goX (nn hlt' (nn hall (nn hall2 (nn hjl' (nn hye hk))))) ?_;(repeat' (with_reducible apply Br.mk<;>intro _)))
     exact ⟨z - 1,_,by omega,zt rfl,j+1,_,by omega,nxt hcl,rfl⟩
 · have hx:((j:Int)<(ps[i].2.length:Int))=False:=eq_false (by omega)
   rw [show j=ps[i].2.length by omega,List.take_length] at hnj
   (refine goX (nn hlt' (nn hall hx)) ?_;(repeat' (with_reducible apply Br.mk<;>intro _)))
   refine ⟨m - 1,_,by omega,zt rfl,i+1,_,by omega,fun p hp=>?_,rfl⟩
   rw [htk] at hp
   rcases List.mem_append.1 hp with hp|hp
   · exact hno p hp
   · rw [List.mem_singleton.1 hp,List.any_eq_false]
     intro y hy
     rw [hnj y hy];simp
end Go.Proofs.Ytlejjdbmmdghmaa
namespace Go.Proofs.Ytlejjdbmmdghmaa
open Go Go.E2 C22 C40
def sl (c:List Str) (j:Nat):Str:=c.getD j []
theorem zvu (c:List Str) (i j:Nat) (b:Str):sl (c.set i b) j=if i=j∧i<c.length then b else sl c j:=by
 unfold sl
 rw [List.getD_eq_getElem?_getD,List.getD_eq_getElem?_getD,List.getElem?_set]
 by_cases h:i=j
 · subst h
   by_cases h2:i<c.length
   · simp [h2]
   · simp [h2]
 · simp [h]
theorem zhh {c:List Str} {i j:Nat} {b:Str} (h:i≠j):sl (c.set i b) j=sl c j:=by rw [zvu,if_neg (fun h'=>h h'.1)]
theorem zp3 {c:List Str} {i:Nat} {b:Str} (h:i<c.length):sl (c.set i b) i=b:=by rw [zvu,if_pos ⟨rfl,h⟩]
theorem zoh {c:List Str} {j:Nat} (h:j<c.length):c[j]?=some (sl c j):=by
 unfold sl;rw [List.getD_eq_getElem?_getD,List.getElem?_eq_getElem h];rfl
def ztn (id:Nat) (x:Tw):Str:=zeg id++zeg (x.ver.toNat+1)++x.val
theorem zgp (id:Nat):∀ (l:List Tw) (c:List Str) (j:Nat),(∀ x∈l,x.rd=false→2 * x.key.toNat+1≠j)→sl (zc3 id l c) j=sl c j
 | [],c,j,_=>rfl
 | x::l,c,j,h=>by
   rw [zc3,zgp id l _ j fun y hy=>h y (List.mem_cons_of_mem _ hy)]
   split
   · rfl
   · rename_i hr
     rw [zhh (h x List.mem_cons_self (by simpa using hr))]
theorem zri (id:Nat):∀ (l:List Tw) (c:List Str),(l.map Tw.key).Nodup→(∀ x∈l,0≤x.key)→∀ x∈l,x.rd=false→2 * x.key.toNat+1<c.length→sl (zc3 id l c) (2 * x.key.toNat+1)=ztn id x
 | [],c,_,_,x,hx,_,_=>by cases hx
 | y::l,c,hn,h0,x,hx,hr,hl=>by
   rw [List.map_cons,List.nodup_cons] at hn
   rw [zc3]
   rcases List.mem_cons.1 hx with rfl|hx'
   · rw [zgp id l _ _ fun z hz _ he=>by
      have h1:=h0 z (List.mem_cons_of_mem _ hz)
      have h2:=h0 x List.mem_cons_self
      exact hn.1 ((show z.key=x.key by omega)▸List.mem_map_of_mem hz)]
     rw [hr,if_neg (by simp),zp3 hl]
     rfl
   · refine zri id l _ hn.2 (fun z hz=>h0 z (List.mem_cons_of_mem _ hz)) x hx' hr ?_
     split
     · exact hl
     · rw [List.length_set];exact hl
theorem zes:∀ (l:List Tw) (c:List Str) (j:Nat),(∀ x∈l,x.rd=false→2 * x.key.toNat+1≠j)→sl (zdr l c) j=sl c j
 | [],c,j,_=>rfl
 | x::l,c,j,h=>by
   rw [zdr,zes l _ j fun y hy=>h y (List.mem_cons_of_mem _ hy)]
   split
   · rfl
   · rename_i hr
     rw [zhh (h x List.mem_cons_self (by simpa using hr))]
theorem zls:∀ (l:List Tw) (c:List Str) (j:Nat),sl c j=[]→sl (zdr l c) j=[]
 | [],c,j,h=>h
 | x::l,c,j,h=>by
   rw [zdr]
   refine zls l _ j ?_
   split
   · exact h
   · rw [zvu];split
     · rfl
     · exact h
theorem zrj:∀ (l:List Tw) (c:List Str),∀ x∈l,x.rd=false→2 * x.key.toNat+1<c.length→sl (zdr l c) (2 * x.key.toNat+1)=[]
 | [],c,x,hx,_,_=>by cases hx
 | y::l,c,x,hx,hr,hl=>by
   rw [zdr]
   rcases List.mem_cons.1 hx with rfl|hx'
   · refine zls l _ _ ?_
     rw [hr,if_neg (by simp),zp3 hl]
   · refine zrj l _ x hx' hr ?_
     split
     · exact hl
     · rw [List.length_set];exact hl
theorem zrk (id:Nat) (x:Tw) (c:List Str):(zth id x c).length=c.length:=by
 unfold zth
 split
 · rfl
 · split
   · rfl
   · split<;>simp
theorem zmn (id:Nat):∀ (l:List Tw) (c:List Str),(ziv id l c).length=c.length
 | [],c=>rfl
 | x::l,c=>by rw [ziv,zmn id l,zrk]
theorem zlt {id:Nat} {x:Tw} {c:List Str} {j:Nat} (h:x.rd=false→2 * x.key.toNat+1≠j∧2 * x.key.toNat≠j):sl (zth id x c) j=sl c j:=by
 unfold zth
 split
 · rfl
 · rename_i hr
   obtain ⟨h1,h2⟩:=h (by simpa using hr)
   split
   · rfl
   · split
     · rfl
     · rw [zhh h1,zhh h2]
theorem zh9 (id:Nat):∀ (l:List Tw) (c:List Str) (j:Nat),(∀ x∈l,x.rd=false→2 * x.key.toNat+1≠j∧2 * x.key.toNat≠j)→sl (ziv id l c) j=sl c j
 | [],c,j,_=>rfl
 | x::l,c,j,h=>by
   rw [ziv,zh9 id l _ j fun y hy=>h y (List.mem_cons_of_mem _ hy),zlt (h x List.mem_cons_self)]
theorem z1i (id:Nat) (x:Tw):ztn id x≠[]:=by unfold ztn;rw [List.append_assoc];exact zp9 _ _
theorem zyi {id:Nat} (h:id<281474976710656) (x:Tw):zo4 (ztn id x)=id:=by unfold ztn;rw [List.append_assoc];exact zmv h _
theorem zvv (id:Nat) (x:Tw):(ztn id x).drop 6=zeg (x.ver.toNat+1)++x.val:=by unfold ztn;rw [List.append_assoc,List.drop_left' (za4 id)]
theorem z1j {id:Nat} (hid:id<281474976710656) {x:Tw} {c:List Str} (hr:x.rd=false) (hl:2 * x.key.toNat+1<c.length) (hp:sl c (2 * x.key.toNat+1)=ztn id x) :
 zth id x c=(c.set (2 * x.key.toNat) (zeg (x.ver.toNat+1)++x.val)).set (2 * x.key.toNat+1) []:=by
 unfold zth
 rw [hr,if_neg (by simp),zoh hl]
 simp only
 rw [hp,if_neg (by rw [zyi hid];rintro (h|h)<;>first|exact z1i _ _ h|exact h rfl),zvv]
theorem zp4 {id:Nat} (hid:id<281474976710656):∀ (l:List Tw) (c:List Str),(l.map Tw.key).Nodup→(∀ x∈l,0≤x.key)→(∀ x∈l,x.rd=false→2 * x.key.toNat+1<c.length∧sl c (2 * x.key.toNat+1)=ztn id x) →
 ∀ x∈l,x.rd=false→sl (ziv id l c) (2 * x.key.toNat)=zeg (x.ver.toNat+1)++x.val∧sl (ziv id l c) (2 * x.key.toNat+1)=[]
 | [],c,_,_,_,x,hx,_=>by cases hx
 | y::l,c,hn,h0,hp,x,hx,hr=>by
   rw [List.map_cons,List.nodup_cons] at hn
   have hy0:=h0 y List.mem_cons_self
   have hne:∀ z∈l,z.key.toNat≠y.key.toNat:=fun z hz he=>by
    have h1:=h0 z (List.mem_cons_of_mem _ hz)
    exact hn.1 ((show z.key=y.key by omega)▸List.mem_map_of_mem hz)
   rw [ziv]
   rcases List.mem_cons.1 hx with rfl|hx'
   · obtain ⟨h1,h2⟩:=hp x List.mem_cons_self hr
     have oth:=fun j (hj:j=2 * x.key.toNat∨j=2 * x.key.toNat+1)=>zh9 id l (zth id x c) j fun z hz _=>by
      have:=hne z hz
      constructor<;>omega
     rw [oth _ (.inl rfl),oth _ (.inr rfl),z1j hid hr h1 h2]
     exact ⟨by rw [zhh (by omega),zp3 (by omega)],by rw [zp3 (by rw [List.length_set];exact h1)]⟩
   · refine zp4 hid l _ hn.2 (fun z hz=>h0 z (List.mem_cons_of_mem _ hz)) (fun z hz hzr=>?_) x hx' hr
     obtain ⟨h1,h2⟩:=hp z (List.mem_cons_of_mem _ hz) hzr
     rw [zrk]
     have:=hne z hz
     exact ⟨h1,by rw [zlt (fun _=>by constructor<;>omega),h2]⟩
abbrev Vl:=Int×Str
def eV (v:Vl):Str:=if v.1=0 then [] else zeg v.1.toNat++v.2
def vl (V:List Vl) (k:Nat):Vl:=V.getD k (0,[])
theorem zzs (V:List Vl) (i j:Nat) (v:Vl):vl (V.set i v) j=if i=j∧i<V.length then v else vl V j:=by
 unfold vl
 rw [List.getD_eq_getElem?_getD,List.getD_eq_getElem?_getD,List.getElem?_set]
 by_cases h:i=j
 · subst h
   by_cases h2:i<V.length
   · simp [h2]
   · simp [h2]
 · simp [h]
def zis:List Tw→List Vl→List Vl
 | [],V=>V
 | x::l,V=>zis l (if x.rd then V else V.set x.key.toNat (x.ver+1,x.val))
theorem zmo:∀ (l:List Tw) (V:List Vl),(zis l V).length=V.length
 | [],V=>rfl
 | x::l,V=>by rw [zis,zmo l];split<;>simp
theorem zia:∀ (l:List Tw) (V:List Vl) (k:Nat),(∀ x∈l,x.rd=false→x.key.toNat≠k)→vl (zis l V) k=vl V k
 | [],V,k,_=>rfl
 | x::l,V,k,h=>by
   rw [zis,zia l _ k fun y hy=>h y (List.mem_cons_of_mem _ hy)]
   split
   · rfl
   · rename_i hr
     rw [zzs,if_neg (fun h'=>h x List.mem_cons_self (by simpa using hr) h'.1)]
theorem zvw:∀ (l:List Tw) (V:List Vl),(l.map Tw.key).Nodup→(∀ x∈l,0≤x.key)→∀ x∈l,x.rd=false→x.key.toNat<V.length→vl (zis l V) x.key.toNat=(x.ver+1,x.val)
 | [],V,_,_,x,hx,_,_=>by cases hx
 | y::l,V,hn,h0,x,hx,hr,hl=>by
   rw [List.map_cons,List.nodup_cons] at hn
   rw [zis]
   rcases List.mem_cons.1 hx with rfl|hx'
   · rw [zia l _ _ fun z hz _ he=>by
      have h1:=h0 z (List.mem_cons_of_mem _ hz)
      have h2:=h0 x List.mem_cons_self
      exact hn.1 ((show z.key=x.key by omega)▸List.mem_map_of_mem hz)]
     rw [hr,if_neg (by simp),zzs,if_pos ⟨rfl,hl⟩]
   · refine zvw l _ hn.2 (fun z hz=>h0 z (List.mem_cons_of_mem _ hz)) x hx' hr ?_
     split
     · exact hl
     · rw [List.length_set];exact hl
def okV (v:Vl):Prop:=v=(0,[])∨1≤v.1∧v.1≤1099511627777∧v.2.length≤40
theorem z5q {v:Vl} (h:okV v):(eV v).length≤46:=by
 unfold eV
 rcases h with rfl|⟨h1,h2,h3⟩
 · simp
 · rw [if_neg (by omega),List.length_append,za4];omega
structure zhi (n:Nat) (c:List Str) (ws:List (Int×Wr)) (V:List Vl):Prop where
 n1:1≤n
 n16:n≤16
 len:c.length=2 * n+4
 vlen:V.length=n
 vok:∀ k,k<n→okV (vl V k)
 vals:∀ k,k<n→sl c (2 * k)=eV (vl V k)
 wsn:(ws.map (·.1)).Nodup
 ids:∀ p∈ws,1≤p.1∧p.1≤1099511627776
 rgt:∀ p∈ws,Rgt n p.2.l
 ins:InS n ws
 dif:∀ p∈ws,∀ p'∈ws,p.2.slot=p'.2.slot→p.1=p'.1
 note:∀ p∈ws,sl c p.2.slot.toNat=zdc p.1.toNat 1 p.2.l
 free:∀ t,t<4→(∀ p∈ws,p.2.slot≠((2 * n+t:Nat):Int))→sl c (2 * n+t)=[]
 pend:∀ p∈ws,∀ x∈p.2.l,x.rd=false→sl c (2 * x.key.toNat+1)=ztn p.1.toNat x
 none:∀ k,k<n→(∀ p∈ws,∀ x∈p.2.l,x.rd=false→x.key≠(k:Int))→sl c (2 * k+1)=[]
 ver:∀ p∈ws,∀ x∈p.2.l,(vl V x.key.toNat).1=x.ver
 lock:∀ p∈ws,∀ p'∈ws,p.1≠p'.1→∀ x∈p.2.l,∀ y∈p'.2.l,x.key=y.key→x.rd=true∧y.rd=true
theorem zoi (id:Nat) (st:UInt8) (l:List Tw):(zdc id st l).length=7+l.length:=by simp [zdc,za4];omega
theorem zhi.fit {n:Nat} {c:List Str} {ws:List (Int×Wr)} {V:List Vl} (h:zhi n c ws V):∀ b∈c,b.length≤55:=by
 intro b hb
 obtain ⟨j,hj,rfl⟩:=List.mem_iff_getElem.1 hb
 have he:c[j]=sl c j:=by have:=zoh hj;rw [List.getElem?_eq_getElem hj] at this;exact Option.some.inj this
 rw [he]
 have hl:=h.len
 by_cases h1:2 * n≤j
 · by_cases h2:∀ p∈ws,p.2.slot≠((2 * n+(j - 2 * n):Nat):Int)
   · have:=h.free (j - 2 * n) (by omega) h2
     rw [show 2 * n+(j - 2 * n)=j by omega] at this
     rw [this];simp
   · obtain ⟨p,hp,hs⟩:∃ p∈ws,p.2.slot=((2 * n+(j - 2 * n):Nat):Int):=Classical.byContradiction fun h3=>h2 fun p hp hs=>h3 ⟨p,hp,hs⟩
     have:=h.note p hp
     rw [show p.2.slot.toNat=j by omega] at this
     rw [this,zoi]
     have:=(h.rgt p hp).2.2.2
     omega
 · rcases (by omega:j=2 * (j / 2)∨j=2 * (j / 2)+1) with e|e
   · rw [e,h.vals (j / 2) (by omega)]
     have:=z5q (h.vok (j / 2) (by omega))
     omega
   · by_cases h2:∀ p∈ws,∀ x∈p.2.l,x.rd=false→x.key≠((j / 2:Nat):Int)
     · rw [e,h.none (j / 2) (by omega) h2];simp
     · obtain ⟨p,hp,x,hx,hr,hk⟩:∃ p∈ws,∃ x∈p.2.l,x.rd=false∧x.key=((j / 2:Nat):Int):=Classical.byContradiction fun h3=>h2 fun p hp x hx hr hk=>h3 ⟨p,hp,x,hx,hr,hk⟩
       have:=h.pend p hp x hx hr
       rw [show x.key.toNat=j / 2 by omega] at this
       rw [e,this]
       have:=((h.rgt p hp).1 x hx).2.2.2.2.1
       simp only [ztn,List.length_append,za4]
       omega
theorem zhi.shp {n:Nat} {c:List Str} {ws:List (Int×Wr)} {V:List Vl} (h:zhi n c ws V):Shp n c:=by
 refine ⟨h.n1,h.n16,h.len,h.fit,fun k hk=>?_⟩
 have hl:=h.len
 rw [zoh (by omega),h.vals k hk]
 unfold eV
 by_cases e:(vl V k).1=0
 · rw [if_pos e];exact .inl rfl
 · rw [if_neg e];exact .inr ⟨_,rfl,by rw [List.length_append,za4];omega⟩
theorem zhi.odd {n:Nat} {c:List Str} {ws:List (Int×Wr)} {V:List Vl} (h:zhi n c ws V):Odd n c:=by
 refine ⟨h.n16,h.len,h.fit,fun k hk=>?_⟩
 have hl:=h.len
 rw [zoh (by omega)]
 refine ⟨_,rfl,?_⟩
 by_cases h2:∀ p∈ws,∀ x∈p.2.l,x.rd=false→x.key≠(k:Int)
 · exact .inl (h.none k hk h2)
 · obtain ⟨p,hp,x,hx,hr,he⟩:∃ p∈ws,∃ x∈p.2.l,x.rd=false∧x.key=(k:Int):=Classical.byContradiction fun h3=>h2 fun p hp x hx hr hk=>h3 ⟨p,hp,x,hx,hr,hk⟩
   have:=h.pend p hp x hx hr
   rw [show x.key.toNat=k by omega] at this
   rw [this]
   exact .inr (by simp only [ztn,List.length_append,za4];omega)
theorem zhi.short {n:Nat} {c:List Str} {ws:List (Int×Wr)} {V:List Vl} (h:zhi n c ws V):z10 ws:=fun p hp=>by
 have:=(h.rgt p hp).2.2.2;omega
theorem zhi.wrOk {n:Nat} {c:List Str} {ws:List (Int×Wr)} {V:List Vl} (h:zhi n c ws V) (id:Int) (w:Wr) (hw:zbo ws id=some w):∃ s,WrOk n c w s:=by
 have hp:=zi3 hw
 have hi:=h.ins _ hp
 have hr:=h.rgt _ hp
 simp only at hi
 refine ⟨w.slot.toNat,by omega,by omega,by omega,?_,hr.2.2.2,fun x hx=>⟨(hr.1 x hx).1,(hr.1 x hx).2.1⟩⟩
 have:=h.note _ hp
 unfold sl at this
 rw [this,zoi]
 omega
theorem zhi.getR {n:Nat} {c:List Str} {ws:List (Int×Wr)} {V:List Vl} (h:zhi n c ws V) (k:Int):getR n c k=if k<0∨(n:Int)≤k then (0,[],1) else ((vl V k.toNat).1,(vl V k.toNat).2,0):=by
 unfold Ytlejjdbmmdghmaa.getR
 by_cases hk:k<0∨(n:Int)≤k
 · rw [if_pos hk,if_pos hk]
 rw [if_neg hk,if_neg hk]
 have hl:=h.len
 have hk':k.toNat<n:=by omega
 rw [zoh (by omega),h.vals k.toNat hk']
 have ho:=h.vok k.toNat hk'
 generalize vl V k.toNat=v at ho
 rcases ho with rfl|⟨h1,h2,h3⟩
 · rfl
 · have e:eV v=zeg v.1.toNat++v.2:=by unfold eV;rw [if_neg (by omega)]
   rw [e]
   simp only
   rw [if_neg (zp9 _ _),if_neg (by rw [List.length_append,za4];omega),zmv (by omega),List.drop_left' (za4 _)]
   obtain ⟨a,b⟩:=v
   simp only at h1 ⊢
   rw [Int.toNat_of_nonneg (by omega)]
theorem zhi.fresh {n:Nat} (h1:1≤n) (h2:n≤16):zhi n (List.replicate (2 * n+4) []) [] (List.replicate n (0,[])):=by
 have hs:∀ j,sl (List.replicate (2 * n+4) []) j=[]:=fun j=>by
  unfold sl;rw [List.getD_eq_getElem?_getD,List.getElem?_replicate];split<;>rfl
 have hv:∀ j,vl (List.replicate n (0,[])) j=(0,[]):=fun j=>by
  unfold vl;rw [List.getD_eq_getElem?_getD,List.getElem?_replicate];split<;>rfl
 refine ⟨h1,h2,by simp,by simp,fun k _=>.inl (hv k),fun k _=>by rw [hs,hv];rfl,by simp,?_,?_,?_,?_,?_,fun t _ _=>hs _,?_,fun k _ _=>hs _,?_,?_⟩<;>intro p hp<;>cases hp
end Go.Proofs.Ytlejjdbmmdghmaa
