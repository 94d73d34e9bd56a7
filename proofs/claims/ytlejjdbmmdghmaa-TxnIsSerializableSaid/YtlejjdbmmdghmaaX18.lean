/-
 Layer 40 (txn): the law's world begins;are two lists the same.
 Conditions: of each contract as it says.
-/
import Derived.Test.YtlejjdbmmdghmaaX9
set_option linter.unusedSimpArgs false
namespace Go.Proofs.Ytlejjdbmmdghmaa
open Go Go.E2 C22 C40
set_option maxHeartbeats 2000000
theorem zps (x:D) (l l2:List Int) (h1:l.length≤1000000) (_h2:l2.length≤9223372036854775807) :
 zy Try.prog f_zz10 [x,.list (l2.map eI)] [SlA 1 x (l.map eI)] (fun r post=>r=.d (.bool (decide (l=l2)))∧post=[SlA 1 x (l.map eI)]):=by
 refine zf fol zz10_cp fun R G σ hs=>?_
 have hs:Sep (SlA 1 x (l.map eI)::R) G:=hs
 have hxl:=hs.gv.len
 rw [List.length_map] at hxl
 by_cases hl:l.length=l2.length
 case neg =>
  have e:((l.length:Int)=(l2.length:Int))=False:=eq_false (by omega)
  rw [decide_eq_false (fun h=>hl (by rw [h]))]
  refine goS trivial ?_
  (refine goX (nn hxl e) ?_;(repeat' (with_reducible apply Br.mk<;>intro _)))
  exact Fin.eq rfl ⟨rfl,_,⟨rfl,rfl⟩,hs⟩
 have e:((l.length:Int)=(l2.length:Int))=True:=eq_true (by omega)
 have hall:=zy9 l2
 refine goS trivial ?_
 (refine goX (nn hxl e) ?_;(repeat' (with_reducible apply Br.mk<;>intro _)))
 refine W.loop (fun z st=>∃ (i:Nat),z+i=l.length∧l.take i=l2.take i ∧
  st=(E [(0,.d x),(1,.d (.list (l2.map eI))),(5,.d (.int .i64 (i:Nat)))],HB [],σ,G))
  ⟨_,_,zca,0,rfl,rfl,rfl⟩ ?_
 rintro z st ⟨i,hi,ht,rfl⟩
 by_cases hlt:i<l.length
 · have hlt':(i:Int)<(l.length:Int):=by omega
   have hlt2:i<l2.length:=by omega
   have hv:=hs.gv
   obtain ⟨bx,capx,csx,hx,hbx,hrx⟩:=hv.inv (by intro e;rw [List.map_eq_nil_iff] at e;rw [e] at hlt;simp at hlt)
   rw [List.length_map] at hx hrx
   have hldx:=hrx.fld (i:=i) (j:=0) (by simpa using hlt) (by omega)
   rw [List.getElem_map] at hldx
   simp only [D.cells,List.getElem?_cons_zero,Option.map_some,Nat.mul_one,Nat.add_zero] at hldx
   have t1:l.take (i+1)=l.take i++[l[i]]:=by rw [List.take_add_one,List.getElem?_eq_getElem hlt];rfl
   have t2:l2.take (i+1)=l2.take i++[l2[i]]:=by rw [List.take_add_one,List.getElem?_eq_getElem hlt2];rfl
   subst hx
   by_cases hne:l[i]=l2[i]
   · have h5:l.take (i+1)=l2.take (i+1):=by rw [t1,t2,ht,hne]
     rw [hne] at hldx
     (refine goX (nn hlt' (nn hldx (nn hbx (nn @Nat.mul_one (nn @Int.toNat_natCast hall))))) ?_;(repeat' (with_reducible apply Br.mk<;>intro _)))
     exact ⟨z - 1,_,by omega,zca,i+1,by omega,h5,rfl⟩
   · rw [decide_eq_false (fun h=>hne (by simp [h]))]
     (refine goX (nn hlt' (nn hldx (nn hbx (nn @Nat.mul_one (nn @Int.toNat_natCast (nn hall hne)))))) ?_;(repeat' (with_reducible apply Br.mk<;>intro _)))
     exact Fin.eq rfl ⟨rfl,_,⟨rfl,rfl⟩,hs⟩
 · have hie:i=l.length:=by omega
   have hx:((i:Int)<(l.length:Int))=False:=eq_false (by omega)
   rw [decide_eq_true (by rw [hie,List.take_length] at ht;rw [ht,List.take_of_length_le (by omega)])]
   (refine goX (nn hxl hx) ?_;(repeat' (with_reducible apply Br.mk<;>intro _)))
   exact Fin.eq rfl ⟨rfl,_,⟨rfl,rfl⟩,hs⟩
theorem zre:zy Try.prog f_zz14 [] [] (fun r post=>∃ wb p0 p1 p2 kb s0 s1,r=.tup [.gp wb 0,.bool true] ∧
 post=[WoA wb p0 p1 p2 kb s0 s1,zm kb 100 (rep 4),zbq s0 2 100 (rep 8) [],zbq s1 2 100 (rep 8) []]):=by
 refine zf fol zz14_cp fun R G σ hs=>?_
 refine goS trivial ?_
 refine goR trivial ?_
 (refine goM (zu1 16 (by omega) (by omega)) (hs) ?_)
 rintro _ _ G1 ⟨p0,rfl,rfl⟩ h1
 have h1:Sep (zp p0 (fresh 16)::R) G1:=h1
 refine goS trivial ?_
 (refine goX trivial ?_;(repeat' (with_reducible apply Br.mk<;>intro _)))
 have h1':Sep ([]++(zp p0 (fresh 16)::R)) G1:=h1
 (refine goM (zu1 16 (by omega) (by omega)) (h1') ?_)
 rintro _ _ G2 ⟨p1,rfl,rfl⟩ h2
 have h2:Sep (zp p1 (fresh 16)::zp p0 (fresh 16)::R) G2:=h2
 refine goS trivial ?_
 (refine goX trivial ?_;(repeat' (with_reducible apply Br.mk<;>intro _)))
 have h2':Sep ([]++(zp p1 (fresh 16)::zp p0 (fresh 16)::R)) G2:=h2
 (refine goM (zu1 8 (by omega) (by omega)) (h2') ?_)
 rintro _ _ G3 ⟨p2,rfl,rfl⟩ h3
 have h3:Sep (zp p2 (fresh 8)::zp p1 (fresh 16)::zp p0 (fresh 16)::R) G3:=h3
 refine goS trivial ?_
 (refine goX trivial ?_;(repeat' (with_reducible apply Br.mk<;>intro _)))
 refine zam fun wb hwb=>?_
 have h4:Sep (zm0 wb p0 p1 p2::zp p2 (fresh 8)::zp p1 (fresh 16)::zp p0 (fresh 16)::R) (G3.set wb (some [.gp p0 0,.gp p1 0,.gp p2 0,.nilP,.nilS])):=Sep.new hwb h3
 generalize G3.set wb (some [D.gp p0 0,D.gp p1 0,D.gp p2 0,D.nilP,D.nilS])=G4 at h4 ⊢
 have hg4:=Sep.get (b:=wb) (cs:=[.gp p0 0,.gp p1 0,.gp p2 0,.nilP,.nilS]) h4
 refine goS trivial ?_
 (refine goX hg4 ?_;(repeat' (with_reducible apply Br.mk<;>intro _)))
 refine W.loop (fun z st=>∃ (i:Nat) (x4:AV),z+i=3 ∧
  st=(E [(2,.d (.gp wb 0)),(14,.d (.agg [.gp p0 0,.gp p1 0,.gp p2 0])),(15,.d (.int .i64 (i:Nat)))],HB [],σ,G4))
  ⟨_,_,zca,0,.undef,rfl,rfl⟩ ?_
 rintro z st ⟨i,x4,hi,rfl⟩
 rcases (by omega:i=0∨i=1∨i=2∨i=3) with rfl|rfl|rfl|rfl
 · (refine goX trivial ?_;(repeat' (with_reducible apply Br.mk<;>intro _)))
   exact ⟨z - 1,_,by omega,zca,1,.undef,by omega,rfl⟩
 · (refine goX trivial ?_;(repeat' (with_reducible apply Br.mk<;>intro _)))
   exact ⟨z - 1,_,by omega,zca,2,.undef,by omega,rfl⟩
 · (refine goX trivial ?_;(repeat' (with_reducible apply Br.mk<;>intro _)))
   exact ⟨z - 1,_,by omega,zca,3,.undef,by omega,rfl⟩
 · (refine goX hg4 ?_;(repeat' (with_reducible apply Br.mk<;>intro _)))
   have h5:Sep (zp p0 (fresh 16)::zp p1 (fresh 16)::zp p2 (fresh 8)::zm0 wb p0 p1 p2::R) G4:=h4.perm pp
   have l16:(fresh 16).cs.length=16:=by simp [fresh]
   have l8:(fresh 8).cs.length=8:=by simp [fresh]
   have f0:=zlk p0 (fresh 16) 0 (lvF (by omega) (by omega)) (by omega) (by omega) 2 (by omega) (by omega) (by omega)
   have f1:=zlk p1 (fresh 16) 0 (lvF (by omega) (by omega)) (by omega) (by omega) 2 (by omega) (by omega) (by omega)
   have f2:=zmk p2 (fresh 8) 0 (lvF (by omega) (by omega)) (by omega) (by omega) 4 (by omega) (by omega) (by omega)
   (refine goM (f0) (h5) ?_)
   rintro _ _ G5 ⟨rfl,d0,q0,rfl⟩ h6
   have h6:Sep (zp p0 d0::zp p1 (fresh 16)::zp p2 (fresh 8)::zm0 wb p0 p1 p2::R) G5:=h6
   have h7:Sep (zp p1 (fresh 16)::zp p0 d0::zp p2 (fresh 8)::zm0 wb p0 p1 p2::R) G5:=h6.perm pp
   have hg7:=Sep.get (b:=wb) (cs:=[.gp p0 0,.gp p1 0,.gp p2 0,.nilP,.nilS]) h7.tail.tail.tail
   refine goS trivial ?_
   (refine goX hg7 ?_;(repeat' (with_reducible apply Br.mk<;>intro _)))
   (refine goM (f1) (h7) ?_)
   rintro _ _ G6 ⟨rfl,d1,q1,rfl⟩ h8
   have h8:Sep (zp p1 d1::zp p0 d0::zp p2 (fresh 8)::zm0 wb p0 p1 p2::R) G6:=h8
   have h9:Sep (zp p2 (fresh 8)::zp p1 d1::zp p0 d0::zm0 wb p0 p1 p2::R) G6:=h8.perm pp
   have hg9:=Sep.get (b:=wb) (cs:=[.gp p0 0,.gp p1 0,.gp p2 0,.nilP,.nilS]) h9.tail.tail.tail
   refine goS trivial ?_
   (refine goX hg9 ?_;(repeat' (with_reducible apply Br.mk<;>intro _)))
   (refine goM (f2) (h9) ?_)
   rintro _ _ G7 ⟨rfl,d2,q2,rfl⟩ h10
   have h10:Sep (zp p2 d2::zp p1 d1::zp p0 d0::zm0 wb p0 p1 p2::R) G7:=h10
   have h11:Sep (zm0 wb p0 p1 p2::zp p0 d0::zp p1 d1::zp p2 d2::R) G7:=h10.perm pp
   have hop:=z1g wb p0 p1 p2 d0 d1 d2 100 (by omega) (q0.mono (by omega)) (q1.mono (by omega)) (q2.mono (by omega))
   have h11':Sep ([zm0 wb p0 p1 p2,zp p0 d0,zp p1 d1,zp p2 d2]++R) G7:=h11
   refine goS trivial ?_
   (refine goX trivial ?_;(repeat' (with_reducible apply Br.mk<;>intro _)))
   (refine goM (hop) (h11') ?_)
   rintro _ _ G8 ⟨kb,s0,s1,rfl,rfl⟩ h12
   refine goS trivial ?_
   (refine goX trivial ?_;(repeat' (with_reducible apply Br.mk<;>intro _)))
   exact Fin.eq rfl ⟨rfl,_,⟨wb,p0,p1,p2,kb,s0,s1,rfl,rfl⟩,h12⟩
end Go.Proofs.Ytlejjdbmmdghmaa
