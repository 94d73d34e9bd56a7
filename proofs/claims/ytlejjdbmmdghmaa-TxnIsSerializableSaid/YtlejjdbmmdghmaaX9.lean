/-
 Layer 40 (txn): slots opened,parts formatted;the desk.
 Conditions: of each contract as it says.
-/
import Derived.Test.YtlejjdbmmdghmaaX8
import Derived.Test.YtlejjdbmmdghmaaX10
set_option linter.unusedSimpArgs false
namespace Go.Proofs.Ytlejjdbmmdghmaa
open Go Go.E2 C22 C40
set_option maxHeartbeats 1000000
theorem ziq (p:Nat) (d:Dk) (m:Int) (c:List Str) (hd:SlD d m c) (hm:m≤500000000) (h1:1≤c.length) :
 zy Try.prog f_zz45 [.gp p 0,.int .i64 0,.int .i64 c.length] [zp p d] (fun r post=>∃ q,r=.tup [eSt q,.int .i64 0]∧post=[zaw q m c]):=by
 refine zf fol zz45_cp fun R G σ hs=>?_
 refine goS trivial ?_
 refine goR trivial ?_
 (refine goM (zxt p d m c hd hm h1) (hs) ?_)
 rintro _ _ G1 ⟨q,rfl,rfl⟩ h1
 refine goS trivial ?_
 (refine goX trivial ?_;(repeat' (with_reducible apply Br.mk<;>intro _)))
 exact Fin.eq rfl ⟨rfl,_,⟨q,rfl,rfl⟩,h1⟩
theorem zlk (p:Nat) (d:Dk) (m:Int) (hd:Lv d m) (h0:0≤m) (hm:m≤400000000) (n:Nat) (h1:1≤n) (h2:n≤16) (hl:2 * (2 * n+4)≤d.cs.length) :
 zy Try.prog f_zz53 [.gp p 0,.int .i64 0,.int .i64 n] [zp p d] (fun r post=>r=.d (.int .i64 0)∧∃ d',SlD d' (m+2 * (2 * n+4:Nat)+1) (List.replicate (2 * n+4) [])∧post=[zp p d']):=by
 refine zf fol zz53_cp fun R G σ hs=>?_
 have c1:((n:Int)<1)=False:=eq_false (by omega)
 have c2:((16:Int)<(n:Int))=False:=eq_false (by omega)
 have e1:(2:Int) * (n:Int)=((2 * n:Nat):Int):=by omega
 have e2:((2 * n:Nat):Int)+4=((2 * n+4:Nat):Int):=by omega
 refine goS trivial ?_
 (refine goX (nn c1 (nn c2 (nn e1 e2))) ?_;(repeat' (with_reducible apply Br.mk<;>intro _)))
 try rw [e1]
 try rw [e2]
 (refine goM (zvf p d m hd h0 (by omega) (2 * n+4) (by omega) hl) (hs) ?_)
 rintro _ _ G1 ⟨rfl,d',hd',rfl⟩ h1
 refine goS trivial ?_
 (refine goX trivial ?_;(repeat' (with_reducible apply Br.mk<;>intro _)))
 exact Fin.eq rfl ⟨rfl,_,⟨rfl,d',hd',rfl⟩,h1⟩
theorem zmk (p:Nat) (d:Dk) (m:Int) (hd:Lv d m) (h0:0≤m) (hm:m≤400000000) (n:Nat) (h1:1≤n) (h2:n≤100) (hl:2 * n≤d.cs.length) :
 zy Try.prog f_zz40 [.gp p 0,.int .i64 0,.int .i64 n] [zp p d] (fun r post=>r=.d (.int .i64 0)∧∃ d',SlD d' (m+2 * n+1) (List.replicate n [])∧post=[zp p d']):=by
 refine zf fol zz40_cp fun R G σ hs=>?_
 have c1:((n:Int)<1)=False:=eq_false (by omega)
 have c2:((100:Int)<(n:Int))=False:=eq_false (by omega)
 refine goS trivial ?_
 (refine goX (nn c1 c2) ?_;(repeat' (with_reducible apply Br.mk<;>intro _)))
 (refine goM (zvf p d m hd h0 (by omega) n (by omega) hl) (hs) ?_)
 rintro _ _ G1 ⟨rfl,d',hd',rfl⟩ h1
 refine goS trivial ?_
 (refine goX trivial ?_;(repeat' (with_reducible apply Br.mk<;>intro _)))
 exact Fin.eq rfl ⟨rfl,_,⟨rfl,d',hd',rfl⟩,h1⟩
def DkC (kb q N:Nat):As:=ze kb [eSt q,.int .i64 N]
def zm (kb:Nat) (m:Int) (c:List Str):As:=fun G=>∃ q,zzi [DkC kb q c.length,zaw q m c] G
theorem Sep.desk {kb:Nat} {m:Int} {c:List Str} {R:List As} {G:Gh} (h:Sep (zm kb m c::R) G):∃ q,Sep (DkC kb q c.length::zaw q m c::R) G:=by
 obtain ⟨G1,G2,h1,h2,h3,⟨q,h4⟩,h5⟩:=h
 exact ⟨q,Sep.app (l:=[_,_]) ⟨G1,G2,h1,h2,h3,h4,h5⟩⟩
theorem Sep.of_desk {kb q:Nat} {m:Int} {c:List Str} {R:List As} {G:Gh} (h:Sep (DkC kb q c.length::zaw q m c::R) G):Sep (zm kb m c::R) G :=
 (Sep.of_app (l:=[DkC kb q c.length,zaw q m c]) h).imp fun _G hG=>⟨q,hG⟩
theorem Sep.desk_mono {kb:Nat} {m k:Int} {c:List Str} {R:List As} {G:Gh} (hk:m≤k) (h:Sep (zm kb m c::R) G):Sep (zm kb k c::R) G:=by
 obtain ⟨q,h1⟩:=Sep.desk h
 exact Sep.of_desk ((Sep.slt_mono hk h1.swap).swap)
theorem zpx (p:Nat) (d:Dk) (m:Int) (c:List Str) (hd:SlD d m c) (hm:m≤500000000) (h1:1≤c.length) (h2:c.length≤100) :
 zy Try.prog f_zz48 [.gp p 0,.int .i64 0,.int .i64 c.length] [zp p d] (fun r post=>∃ kb,r=.tup [.gp kb 0,.int .i64 0]∧post=[zm kb m c]):=by
 refine zf fol zz48_cp fun R G σ hs=>?_
 have c1:((c.length:Int)<1)=False:=eq_false (by omega)
 have c2:((100:Int)<(c.length:Int))=False:=eq_false (by omega)
 refine goS trivial ?_
 (refine goX (nn c1 c2) ?_;(repeat' (with_reducible apply Br.mk<;>intro _)))
 (refine goM (ziq p d m c hd hm h1) (hs) ?_)
 rintro _ _ G1 ⟨q,rfl,rfl⟩ h1
 have h1:Sep (zaw q m c::R) G1:=h1
 refine goS trivial ?_
 (refine goX trivial ?_;(repeat' (with_reducible apply Br.mk<;>intro _)))
 refine zam fun kb hkb=>?_
 have h2:Sep (DkC kb q c.length::zaw q m c::R) (G1.set kb (some [eSt q,.int .i64 c.length])):=Sep.new hkb h1
 generalize G1.set kb (some [eSt q,D.int .i64 c.length])=G2 at h2 ⊢
 refine goS trivial ?_
 (refine goX trivial ?_;(repeat' (with_reducible apply Br.mk<;>intro _)))
 exact Fin.eq rfl ⟨rfl,_,⟨kb,rfl,rfl⟩,Sep.of_desk h2⟩
def isD (id:Int) (b:Str):Bool:=if b=[] then decide (id=0) else decide ((zsu b:Int)=id)
def fdI (id:Int):List Str→Nat→Int
 | [],_=>-1
 | b::c,i=>if isD id b then (i:Int) else fdI id c (i+1)
def DOk (c:List Str):Prop:=c.length≤100∧∀ b∈c,b=[]∨b.length=6
theorem zml (kb:Nat) (m:Int) (c:List Str) (hm:m≤600000000) (hc:DOk c) (id:Int) :
 zy Try.prog f_zz42 [.gp kb 0,.int .i64 id] [zm kb m c] (fun r post=>r=.tup [.int .i64 (fdI id c 0),.int .i64 0]∧post=[zm kb m c]):=by
 refine zf fol zz42_cp fun R G σ hs=>?_
 obtain ⟨q,h1⟩:=Sep.desk hs
 have hg:=Sep.get (b:=kb) (cs:=[eSt q,.int .i64 c.length]) h1
 have h100:=hc.1
 refine goS trivial ?_
 refine goR hg ?_
 refine W.loop (fun z st=>∃ (i:Nat) (G:Gh),z+i=c.length∧fdI id (c.drop i) i=fdI id c 0∧Sep (zaw q m c::DkC kb q c.length::R) G ∧
  st=(E [(0,.d (.gp kb 0)),(1,.d (.int .i64 id)),(12,.d (.int .i64 (c.length:Nat))),(13,.d (.int .i64 (i:Nat)))],HB [],σ,G))
  ⟨_,_,zca,0,G,rfl,rfl,h1.swap,rfl⟩ ?_
 rintro z st ⟨i,G3,hi,he,h2,rfl⟩
 have hg2:=Sep.get (b:=kb) (cs:=[eSt q,.int .i64 c.length]) h2.tail
 by_cases hlt:i<c.length
 case neg =>
  have hie:i=c.length:=by omega
  subst hie
  rw [List.drop_length] at he
  have hx:((c.length:Int)<(c.length:Int))=False:=eq_false (by omega)
  (refine goX hx ?_;(repeat' (with_reducible apply Br.mk<;>intro _)))
  exact Fin.eq rfl ⟨rfl,_,⟨by rw [← he];rfl,rfl⟩,Sep.of_desk h2.swap⟩
 have hlt':(i:Int)<(c.length:Int):=by omega
 have hb:=hc.2 _ (List.getElem_mem hlt)
 rw [List.drop_eq_getElem_cons hlt,fdI] at he
 have hread:=zgl q m c hm i hlt (by rcases hb with h|h<;>rw [h]<;>simp) 6
 generalize c[i]=b at hb he hread
 rw [zrj (by rcases hb with h|h<;>first|exact .inl h|(right;omega))] at hread
 (refine goX (nn hlt' hg2) ?_;(repeat' (with_reducible apply Br.mk<;>intro _)))
 (refine goM (hread) (h2) ?_)
 rintro _ _ G4 ⟨rfl,rfl⟩ h3
 have h3:Sep (zaw q m c::DkC kb q c.length::R) G4:=h3
 by_cases hb0:b=[]
 · subst hb0
   unfold isD at he
   rw [if_pos rfl] at he
   by_cases hid:id=0
   · rw [decide_eq_true hid,if_pos rfl] at he
     subst hid
     refine goS trivial ?_
     (refine goX trivial ?_;(repeat' (with_reducible apply Br.mk<;>intro _)))
     exact Fin.eq rfl ⟨rfl,_,⟨by rw [← he],rfl⟩,Sep.of_desk h3.swap⟩
   · rw [decide_eq_false hid,if_neg (by simp)] at he
     refine goS hid ?_
     (refine goX hid ?_;(repeat' (with_reducible apply Br.mk<;>intro _)))
     exact ⟨z - 1,_,by omega,zca,i+1,_,by omega,he,h3,rfl⟩
 · have hb6:b.length=6:=by rcases hb with h|h<;>first|exact absurd h hb0|exact h
   unfold isD at he
   rw [if_neg hb0] at he
   by_cases hv:(zsu b:Int)=id
   · rw [decide_eq_true hv,if_pos rfl] at he
     refine goS hb0 ?_
     (refine zg1 (nn hb0 hv) (zei b (by omega) (by omega)) ?_;(repeat' (with_reducible apply Br.mk<;>intro _)))
     exact Fin.eq rfl ⟨rfl,_,⟨by rw [← he],rfl⟩,Sep.of_desk h3.swap⟩
   · rw [decide_eq_false hv,if_neg (by simp)] at he
     refine goS hb0 ?_
     (refine zg1 (nn hb0 hv) (zei b (by omega) (by omega)) ?_;(repeat' (with_reducible apply Br.mk<;>intro _)))
     exact ⟨z - 1,_,by omega,zca,i+1,_,by omega,he,h3,rfl⟩
theorem zv4 (id:Int):∀ (c:List Str) (i:Nat),fdI id c i=-1∨(i:Int)≤fdI id c i∧fdI id c i<i+c.length
 | [],_=>.inl rfl
 | b::c,i=>by
   unfold fdI
   split
   · right;simp only [List.length_cons];omega
   · rcases zv4 id c (i+1) with h|⟨h,h2⟩
     · exact .inl h
     · right;simp only [List.length_cons];omega
def ziv (id:Int):Prop:=1≤id∧id≤1099511627776
instance (id:Int):Decidable (ziv id):=by unfold ziv;exact inferInstance
def zwg (id:Int):Int:=if ziv id then 0 else 1
def zki (c:List Str) (id:Int):Bool:=decide (ziv id∧0≤fdI id c 0)
theorem zfu (kb:Nat) (m:Int) (c:List Str) (hm:m≤600000000) (hc:DOk c) (id:Int) :
 zy Try.prog f_zz22 [.gp kb 0,.int .i64 id] [zm kb m c] (fun r post=>r=.tup [.bool (zki c id),.int .i64 (zwg id)]∧post=[zm kb m c]):=by
 refine zf fol zz22_cp fun R G σ hs=>?_
 by_cases h:ziv id
 · have e1:zwg id=0:=if_pos h
   have e2:zki c id=decide (0≤fdI id c 0):=by unfold zki;simp [h]
   obtain ⟨a,b⟩:=h
   have c1:(id<1)=False:=eq_false (by omega)
   have c2:(1099511627776<id)=False:=eq_false (by omega)
   rw [e1,e2]
   refine goS trivial ?_
   (refine goX (nn c1 c2) ?_;(repeat' (with_reducible apply Br.mk<;>intro _)))
   (refine goM (zml kb m c hm hc id) (hs) ?_)
   rintro _ _ G1 ⟨rfl,rfl⟩ h1
   refine goS trivial ?_
   (refine goX trivial ?_;(repeat' (with_reducible apply Br.mk<;>intro _)))
   exact Fin.eq rfl ⟨rfl,_,⟨rfl,rfl⟩,h1⟩
 · have e1:zwg id=1:=if_neg h
   have e2:zki c id=false:=by unfold zki;simp [h]
   rw [e1,e2]
   by_cases c1:id<1
   · refine goS trivial ?_
     (refine goX c1 ?_;(repeat' (with_reducible apply Br.mk<;>intro _)))
     exact Fin.eq rfl ⟨rfl,_,⟨rfl,rfl⟩,hs⟩
   · have c1':(id<1)=False:=eq_false c1
     have c2:1099511627776<id:=Classical.byContradiction fun h'=>h ⟨by omega,by omega⟩
     refine goS trivial ?_
     (refine goX (nn c1' c2) ?_;(repeat' (with_reducible apply Br.mk<;>intro _)))
     exact Fin.eq rfl ⟨rfl,_,⟨rfl,rfl⟩,hs⟩
def z1f (c:List Str) (id:Int):List Str:=if zki c id then c.set (fdI id c 0).toNat [] else c
theorem zv5 (kb:Nat) (m:Int) (c:List Str) (hm:m≤500000000) (hc:DOk c) (id:Int) :
 zy Try.prog f_zz31 [.gp kb 0,.int .i64 id] [zm kb m c] (fun r post=>r=.d (.int .i64 (zwg id))∧post=[zm kb (m+6) (z1f c id)]):=by
 refine zf fol zz31_cp fun R G σ hs=>?_
 by_cases h:ziv id
 · have e1:zwg id=0:=if_pos h
   have e2:zki c id=decide (0≤fdI id c 0):=by unfold zki;simp [h]
   obtain ⟨a,b⟩:=h
   have c1:(id<1)=False:=eq_false (by omega)
   have c2:(1099511627776<id)=False:=eq_false (by omega)
   rw [e1]
   unfold z1f
   rw [e2]
   have hlt:=zv4 id c 0
   refine goS trivial ?_
   (refine goX (nn c1 c2) ?_;(repeat' (with_reducible apply Br.mk<;>intro _)))
   (refine goM (zml kb m c (by omega) hc id) (hs) ?_)
   rintro _ _ G1 ⟨rfl,rfl⟩ h1
   have h1:Sep (zm kb m c::R) G1:=h1
   by_cases hf:fdI id c 0<0
   · rw [decide_eq_false (by omega),if_neg (by simp)]
     refine goS hf ?_
     (refine goX hf ?_;(repeat' (with_reducible apply Br.mk<;>intro _)))
     exact Fin.eq rfl ⟨rfl,_,⟨rfl,rfl⟩,Sep.desk_mono (by omega) h1⟩
   · rw [decide_eq_true (by omega),if_pos rfl]
     have hf':(fdI id c 0<0)=False:=eq_false hf
     obtain ⟨j,hj⟩:∃ j:Nat,fdI id c 0=j:=Int.eq_ofNat_of_zero_le (by omega)
     obtain ⟨q,h2⟩:=Sep.desk h1
     have hg:=Sep.get (b:=kb) (cs:=[eSt q,.int .i64 c.length]) h2
     have h3:=h2.swap
     rw [hj] at hf' ⊢
     rw [Int.toNat_natCast]
     refine goS hf' ?_
     (refine goX (nn hf' hg) ?_;(repeat' (with_reducible apply Br.mk<;>intro _)))
     (refine goI (zfs q m c (by omega) j (by omega)) (h3) ?_)
     rintro _ _ G2 ⟨rfl,rfl⟩ h4
     have h4:Sep (zaw q (m+6) (c.set j [])::DkC kb q c.length::R) G2:=h4
     refine goS trivial ?_
     (refine goX trivial ?_;(repeat' (with_reducible apply Br.mk<;>intro _)))
     exact Fin.eq rfl ⟨rfl,_,⟨rfl,rfl⟩,Sep.of_desk (q:=q) (by rw [List.length_set];exact h4.swap)⟩
 · have e1:zwg id=1:=if_neg h
   have e2:zki c id=false:=by unfold zki;simp [h]
   rw [e1]
   unfold z1f
   rw [e2,if_neg (by simp)]
   by_cases c1:id<1
   · refine goS trivial ?_
     (refine goX c1 ?_;(repeat' (with_reducible apply Br.mk<;>intro _)))
     exact Fin.eq rfl ⟨rfl,_,⟨rfl,rfl⟩,Sep.desk_mono (by omega) hs⟩
   · have c1':(id<1)=False:=eq_false c1
     have c2:1099511627776<id:=Classical.byContradiction fun h'=>h ⟨by omega,by omega⟩
     refine goS trivial ?_
     (refine goX (nn c1' c2) ?_;(repeat' (with_reducible apply Br.mk<;>intro _)))
     exact Fin.eq rfl ⟨rfl,_,⟨rfl,rfl⟩,Sep.desk_mono (by omega) hs⟩
def zs5 (c:List Str) (id:Int):Int:=if ¬ ziv id then 1 else if 0≤fdI id c 0 then 0 else if fdI 0 c 0<0 then 13 else 0
def zmm (c:List Str) (id:Int):List Str:=if ¬ ziv id then c else if 0≤fdI id c 0 then c else if fdI 0 c 0<0 then c else c.set (fdI 0 c 0).toNat (zfe id.toNat)
theorem zoi (kb:Nat) (m:Int) (c:List Str) (hm:m≤500000000) (hc:DOk c) (id:Int) :
 zy Try.prog f_zz32 [.gp kb 0,.int .i64 id] [zm kb m c] (fun r post=>r=.d (.int .i64 (zs5 c id))∧post=[zm kb (m+6) (zmm c id)]):=by
 refine zf fol zz32_cp fun R G σ hs=>?_
 by_cases h:ziv id
 case neg =>
  have e1:zs5 c id=1:=if_pos h
  have e2:zmm c id=c:=if_pos h
  rw [e1,e2]
  by_cases c1:id<1
  · refine goS trivial ?_
    (refine goX c1 ?_;(repeat' (with_reducible apply Br.mk<;>intro _)))
    exact Fin.eq rfl ⟨rfl,_,⟨rfl,rfl⟩,Sep.desk_mono (by omega) hs⟩
  · have c1':(id<1)=False:=eq_false c1
    have c2:1099511627776<id:=Classical.byContradiction fun h'=>h ⟨by omega,by omega⟩
    refine goS trivial ?_
    (refine goX (nn c1' c2) ?_;(repeat' (with_reducible apply Br.mk<;>intro _)))
    exact Fin.eq rfl ⟨rfl,_,⟨rfl,rfl⟩,Sep.desk_mono (by omega) hs⟩
 have e1:zs5 c id=if 0≤fdI id c 0 then 0 else if fdI 0 c 0<0 then 13 else 0:=if_neg (by simpa using h)
 have e2:zmm c id=if 0≤fdI id c 0 then c else if fdI 0 c 0<0 then c else c.set (fdI 0 c 0).toNat (zfe id.toNat):=if_neg (by simpa using h)
 rw [e1,e2]
 obtain ⟨a,b⟩:=h
 have c1:(id<1)=False:=eq_false (by omega)
 have c2:(1099511627776<id)=False:=eq_false (by omega)
 have hlt:=zv4 0 c 0
 refine goS trivial ?_
 (refine goX (nn c1 c2) ?_;(repeat' (with_reducible apply Br.mk<;>intro _)))
 (refine goM (zml kb m c (by omega) hc id) (hs) ?_)
 rintro _ _ G1 ⟨rfl,rfl⟩ h1
 have h1:Sep (zm kb m c::R) G1:=h1
 by_cases hf:0≤fdI id c 0
 · rw [if_pos hf,if_pos hf]
   refine goS hf ?_
   (refine goX hf ?_;(repeat' (with_reducible apply Br.mk<;>intro _)))
   exact Fin.eq rfl ⟨rfl,_,⟨rfl,rfl⟩,Sep.desk_mono (by omega) h1⟩
 rw [if_neg hf,if_neg hf]
 have hf':(0≤fdI id c 0)=False:=eq_false hf
 refine goS hf' ?_
 (refine goX hf' ?_;(repeat' (with_reducible apply Br.mk<;>intro _)))
 have h1':Sep ([zm kb m c]++R) G1:=h1
 (refine goM (zml kb m c (by omega) hc 0) (h1') ?_)
 rintro _ _ G2 ⟨rfl,rfl⟩ h2
 have h2:Sep (zm kb m c::R) G2:=h2
 by_cases hf2:fdI 0 c 0<0
 · rw [if_pos hf2,if_pos hf2]
   refine goS hf2 ?_
   (refine goX hf2 ?_;(repeat' (with_reducible apply Br.mk<;>intro _)))
   exact Fin.eq rfl ⟨rfl,_,⟨rfl,rfl⟩,Sep.desk_mono (by omega) h2⟩
 rw [if_neg hf2,if_neg hf2]
 obtain ⟨j,hj⟩:∃ j:Nat,fdI 0 c 0=j:=Int.eq_ofNat_of_zero_le (by omega)
 have hf2':(fdI 0 c 0<0)=False:=eq_false hf2
 obtain ⟨q,h3⟩:=Sep.desk h2
 have hg:=Sep.get (b:=kb) (cs:=[eSt q,.int .i64 c.length]) h3
 have h4:=h3.swap
 obtain ⟨N,rfl⟩:∃ N:Nat,id=N:=Int.eq_ofNat_of_zero_le (by omega)
 rw [hj] at hf2' ⊢
 rw [Int.toNat_natCast,Int.toNat_natCast]
 refine goS hf2' ?_
 (refine zg1 (nn hf2' hg) (zft N (by omega)) ?_;(repeat' (with_reducible apply Br.mk<;>intro _)))
 (refine goI (zj7 q m c (by omega) j (by omega) (zfe N) (by rw [za2];omega) (by rw [za2];omega)) (h4) ?_)
 rintro _ _ G3 ⟨rfl,rfl⟩ h5
 have h5:Sep (zaw q (m+6) (c.set j (zfe N))::DkC kb q c.length::R) G3:=h5
 refine goS trivial ?_
 (refine goX trivial ?_;(repeat' (with_reducible apply Br.mk<;>intro _)))
 exact Fin.eq rfl ⟨rfl,_,⟨rfl,rfl⟩,Sep.of_desk (q:=q) (by rw [List.length_set];exact h5.swap)⟩
end Go.Proofs.Ytlejjdbmmdghmaa
namespace Go.Proofs.Ytlejjdbmmdghmaa
open Go Go.E2 C22 C40
set_option maxHeartbeats 1000000
theorem zyb (sb q mr n:Nat) (m:Int) (c:List Str) (hm:m≤600000000) (s:Nat) (hs:s<c.length) (he:c[s]=[]) :
 zy Try.prog f_zz44 [.gp sb 0,.int .i64 s] [SiA sb q mr n,zaw q m c] (fun r post=>r=.d (.int .i64 0)∧post=[SiA sb q mr n,zaw q m c]):=by
 refine zf fol zz44_cp fun R G σ h1=>?_
 have h1:Sep (SiA sb q mr n::zaw q m c::R) G:=h1
 have hg:=Sep.get (b:=sb) (cs:=[eSt q,.int .i64 n,.mref mr]) h1
 have h2:=h1.swap
 have hread:=zgl q m c hm s hs (by rw [he];simp) 7
 rw [he] at hread
 refine goS trivial ?_
 refine goR hg ?_
 (refine goM (hread) (h2) ?_)
 rintro _ _ G1 ⟨rfl,rfl⟩ h3
 have h3:Sep (zaw q m c::SiA sb q mr n::R) G1:=h3
 have h4:Sep ([SiA sb q mr n,zaw q m c]++R) G1:=h3.swap
 have e1:rd1 [] 7=([],0):=by unfold rd1;rw [if_pos rfl]
 rw [e1]
 refine goS trivial ?_
 (refine goX trivial ?_;(repeat' (with_reducible apply Br.mk<;>intro _)))
 exact Fin.eq rfl ⟨rfl,_,⟨rfl,rfl⟩,h4⟩
theorem zrk (p:Nat) (d:Dk) (m:Int) (n:Nat) (hd:SlD d m (List.replicate (2 * n+4) [])) (hm:m≤500000000) (h1:1≤n) (h2:n≤16) :
 zy Try.prog f_zz59 [.gp p 0,.int .i64 0,.int .i64 n] [zp p d] (fun r post=>∃ sb,r=.tup [.gp sb 0,.int .i64 0]∧post=[zbq sb n m (List.replicate (2 * n+4) []) []]):=by
 refine zf fol zz59_cp fun R G σ hs=>?_
 have c1:((n:Int)<1)=False:=eq_false (by omega)
 have c2:((16:Int)<(n:Int))=False:=eq_false (by omega)
 have e1:(2:Int) * (n:Int)=((2 * n:Nat):Int):=by omega
 have e2:((2 * n:Nat):Int)+4=((2 * n+4:Nat):Int):=by omega
 have hop:=ziq p d m _ hd hm (by rw [List.length_replicate];omega)
 rw [List.length_replicate] at hop
 have hcl:(List.replicate (2 * n+4) ([]:Str)).length=2 * n+4:=List.length_replicate
 have hce:∀ i (h:i<(List.replicate (2 * n+4) ([]:Str)).length),(List.replicate (2 * n+4) ([]:Str))[i]=[]:=fun i h=>List.getElem_replicate h
 generalize List.replicate (2 * n+4) ([]:Str)=c at hop hcl hce ⊢
 refine goS trivial ?_
 (refine goX (nn c1 (nn c2 (nn e1 e2))) ?_;(repeat' (with_reducible apply Br.mk<;>intro _)))
 try rw [e1]
 try rw [e2]
 (refine goM (hop) (hs) ?_)
 rintro _ _ G1 ⟨q,rfl,rfl⟩ h3
 have h3:Sep (zaw q m c::R) G1:=h3
 refine goS trivial ?_
 (refine goX trivial ?_;(repeat' (with_reducible apply Br.mk<;>intro _)))
 refine zqn fun mr hmr=>?_
 have h4:Sep (MwA mr []::zaw q m c::R) (G1.setM mr (some (.map [] 0))):=Sep.mapNew (zqr .i64) hmr h3
 generalize G1.setM mr (some (MO.map [] 0))=G2 at h4 ⊢
 refine goS trivial ?_
 refine goR trivial ?_
 refine zam fun sb hsb=>?_
 have h5:Sep (SiA sb q mr n::MwA mr []::zaw q m c::R) (G2.set sb (some [eSt q,.int .i64 n,.mref mr])):=Sep.new hsb h4
 generalize G2.set sb (some [eSt q,D.int .i64 n,D.mref mr])=G3 at h5 ⊢
 have h6:Sep (SiA sb q mr n::zaw q m c::MwA mr []::R) G3:=h5.perm pp
 refine goS trivial ?_
 refine goR trivial ?_
 refine W.loop (fun z st=>∃ (t:Nat) (G:Gh),z+t=4∧Sep (SiA sb q mr n::zaw q m c::MwA mr []::R) G ∧
  st=(E [(2,.d (.int .i64 n)),(8,.d (eSt q)),(10,.d (.gp sb 0)),(42,.d (.int .i64 (t:Nat)))],HB [],σ,G))
  ⟨_,_,zca,0,G3,rfl,h6,rfl⟩ ?_
 rintro z st ⟨t,G4,ht,h7,rfl⟩
 by_cases ht4:t<4
 · have hlt':(t:Int)<4:=by omega
   have e3:((2 * n:Nat):Int)+(t:Int)=((2 * n+t:Nat):Int):=by omega
   refine goR (nn hlt' (nn e1 e3)) ?_
   try rw [e1]
   try rw [e3]
   (refine goM (zyb sb q mr n m c (by omega) (2 * n+t) (by omega) (hce _ (by omega))) (h7) ?_)
   rintro _ _ G5 ⟨rfl,rfl⟩ h8
   refine goS trivial ?_
   (refine goX trivial ?_;(repeat' (with_reducible apply Br.mk<;>intro _)))
   exact ⟨z - 1,_,by omega,zca,t+1,_,by omega,h8,rfl⟩
 have ht':t=4:=by omega
 subst ht'
 refine goR trivial ?_
 refine W.loop (fun z st=>∃ (k:Nat) (b16:Blk) (G:Gh),z+k=n∧Sep (SiA sb q mr n::zaw q m c::MwA mr []::R) G ∧
  st=(E [(8,.d (eSt q)),(10,.d (.gp sb 0)),(55,.d (.int .i64 n)),(56,.d (.int .i64 (k:Nat)))],HB [(16,b16)],σ,G))
  ⟨n,_,zt (zdr [] [16] rfl).symm,0,_,G4,rfl,h7,rfl⟩ ?_
 rintro z st ⟨k,b16,G6,hk,h8,rfl⟩
 by_cases hkn:k<n
 · have hlt':(k:Int)<(n:Int):=by omega
   have k1:(2:Int) * (k:Int)=((2 * k:Nat):Int):=by omega
   have k2:((2 * k:Nat):Int)+1=((2 * k+1:Nat):Int):=by omega
   have hread:=zgl q m c (by omega) (2 * k+1) (by omega) (by rw [hce _ (by omega)];simp) 12
   rw [hce _ (by omega)] at hread
   have h9:=h8.swap
   refine goR (nn hlt' (nn k1 k2)) ?_
   try rw [k1]
   try rw [k2]
   (refine goM (hread) (h9) ?_)
   rintro _ _ G7 ⟨rfl,rfl⟩ h10
   have h10:Sep (zaw q m c::SiA sb q mr n::MwA mr []::R) G7:=h10
   have e12:rd1 [] 12=([],0):=by unfold rd1;rw [if_pos rfl]
   rw [e12]
   refine goS trivial ?_
   (refine goX trivial ?_;(repeat' (with_reducible apply Br.mk<;>intro _)))
   exact ⟨z - 1,_,by omega,zt rfl,k+1,_,_,by omega,h10.swap,rfl⟩
 have hkn':k=n:=by omega
 subst hkn'
 have hx:((k:Int)<(k:Int))=False:=eq_false (by omega)
 have h11:Sep ([zbq sb k m c []]++R) G6:=Sep.of_sit h8
 (refine goX hx ?_;(repeat' (with_reducible apply Br.mk<;>intro _)))
 exact Fin.eq rfl ⟨rfl,_,⟨sb,rfl,rfl⟩,h11⟩
end Go.Proofs.Ytlejjdbmmdghmaa
namespace Go.Proofs.Ytlejjdbmmdghmaa
open Go Go.E2 C22 C40
set_option maxHeartbeats 1000000
def rep (n:Nat):List Str:=List.replicate n []
def WoA (wb p0 p1 p2 kb s0 s1:Nat):As:=ze wb [.gp p0 0,.gp p1 0,.gp p2 0,.gp kb 0,.list [.gp s0 0,.gp s1 0]]
def zm0 (wb p0 p1 p2:Nat):As:=ze wb [.gp p0 0,.gp p1 0,.gp p2 0,.nilP,.nilS]
theorem z1g (wb p0 p1 p2:Nat) (d0 d1 d2:Dk) (m:Int) (hm:m≤500000000) (h0:SlD d0 m (rep 8)) (h1:SlD d1 m (rep 8)) (h2:SlD d2 m (rep 4)) :
 zy Try.prog f_zz9 [.gp wb 0] [zm0 wb p0 p1 p2,zp p0 d0,zp p1 d1,zp p2 d2]
  (fun r post=>∃ kb s0 s1,r=.d (.bool true)∧post=[WoA wb p0 p1 p2 kb s0 s1,zm kb m (rep 4),zbq s0 2 m (rep 8) [],zbq s1 2 m (rep 8) []]):=by
 refine zf fol zz9_cp fun R G σ hs=>?_
 have hs:Sep (zm0 wb p0 p1 p2::zp p0 d0::zp p1 d1::zp p2 d2::R) G:=hs
 have hg:=Sep.get (b:=wb) (cs:=[.gp p0 0,.gp p1 0,.gp p2 0,.nilP,.nilS]) hs
 have hod:=zpx p2 d2 m (rep 4) h2 hm (by decide) (by decide)
 have ho0:=zrk p0 d0 m 2 h0 hm (by omega) (by omega)
 have ho1:=zrk p1 d1 m 2 h1 hm (by omega) (by omega)
 refine goS trivial ?_
 refine goR hg ?_
 have h3:Sep (zp p2 d2::zm0 wb p0 p1 p2::zp p0 d0::zp p1 d1::R) G:=hs.perm pp
 (refine goM (hod) (h3) ?_)
 rintro _ _ G1 ⟨kb,rfl,rfl⟩ h4
 have h4:Sep (zm kb m (rep 4)::zm0 wb p0 p1 p2::zp p0 d0::zp p1 d1::R) G1:=h4
 have hg1:=Sep.get (b:=wb) (cs:=[.gp p0 0,.gp p1 0,.gp p2 0,.nilP,.nilS]) h4.tail
 have h5:Sep (zp p0 d0::zm kb m (rep 4)::zm0 wb p0 p1 p2::zp p1 d1::R) G1:=h4.perm pp
 refine goS trivial ?_
 (refine goX hg1 ?_;(repeat' (with_reducible apply Br.mk<;>intro _)))
 (refine goM (ho0) (h5) ?_)
 rintro _ _ G2 ⟨s0,rfl,rfl⟩ h6
 have h6:Sep (zbq s0 2 m (rep 8) []::zm kb m (rep 4)::zm0 wb p0 p1 p2::zp p1 d1::R) G2:=h6
 have h7:Sep (zp p1 d1::zm0 wb p0 p1 p2::zbq s0 2 m (rep 8) []::zm kb m (rep 4)::R) G2:=h6.perm pp
 have hg2:=Sep.get (b:=wb) (cs:=[.gp p0 0,.gp p1 0,.gp p2 0,.nilP,.nilS]) h7.tail
 refine goS trivial ?_
 (refine goX hg2 ?_;(repeat' (with_reducible apply Br.mk<;>intro _)))
 (refine goM (ho1) (h7) ?_)
 rintro _ _ G3 ⟨s1,rfl,rfl⟩ h8
 have h8:Sep (zbq s1 2 m (rep 8) []::zm0 wb p0 p1 p2::zbq s0 2 m (rep 8) []::zm kb m (rep 4)::R) G3:=h8
 have h9:Sep (zm0 wb p0 p1 p2::zm kb m (rep 4)::zbq s0 2 m (rep 8) []::zbq s1 2 m (rep 8) []::R) G3:=h8.perm pp
 have hg3:=Sep.get (b:=wb) (cs:=[.gp p0 0,.gp p1 0,.gp p2 0,.nilP,.nilS]) h9
 have h10:=Sep.set (cs':=[.gp p0 0,.gp p1 0,.gp p2 0,.gp kb 0,.list [.gp s0 0,.gp s1 0]]) h9
 refine goS trivial ?_
 (refine goX hg3 ?_;(repeat' (with_reducible apply Br.mk<;>intro _)))
 exact Fin.eq rfl ⟨rfl,_,⟨kb,s0,s1,rfl,rfl⟩,h10⟩
theorem z5x (sb n:Nat) (m:Int) (c:List Str) (ws:List (Int×Wr)) (hm:m≤600000000) (hn:n≤16) (hc:c.length=2 * n+4) (hl:∀ b∈c,b.length≤60) (k:Int) (v:Int) (s:Str) :
 zy Try.prog f_zz19 [.gp sb 0,.int .i64 k,.int .i64 v,.str s] [zbq sb n m c ws] (fun r post=>r=.d (.bool (decide (getR n c k=(v,s,0))))∧post=[zbq sb n m c ws]):=by
 refine zf fol zz19_cp fun R G σ hs=>?_
 have hget:=zkb sb n m c ws hm hn hc hl k
 generalize getR n c k=x at hget ⊢
 obtain ⟨a,b,e⟩:=x
 refine goS trivial ?_
 refine goR trivial ?_
 (refine goM (hget) (hs) ?_)
 rintro _ _ G1 ⟨rfl,rfl⟩ h1
 by_cases he:e=0
 · subst he
   by_cases ha:a=v
   · subst ha
     by_cases hb:b=s
     · subst hb
       rw [decide_eq_true rfl]
       refine goS trivial ?_
       (refine goX trivial ?_;(repeat' (with_reducible apply Br.mk<;>intro _)))
       exact Fin.eq rfl ⟨rfl,_,⟨rfl,rfl⟩,h1⟩
     · rw [decide_eq_false (fun h=>hb (by injection h with _ h;injection h))]
       refine goS trivial ?_
       (refine goX hb ?_;(repeat' (with_reducible apply Br.mk<;>intro _)))
       exact Fin.eq rfl ⟨rfl,_,⟨rfl,rfl⟩,h1⟩
   · rw [decide_eq_false (fun h=>ha (by injection h))]
     refine goS trivial ?_
     (refine goX ha ?_;(repeat' (with_reducible apply Br.mk<;>intro _)))
     exact Fin.eq rfl ⟨rfl,_,⟨rfl,rfl⟩,h1⟩
 · rw [decide_eq_false (fun h=>he (by injection h with _ h;injection h))]
   refine goS trivial ?_
   (refine goX he ?_;(repeat' (with_reducible apply Br.mk<;>intro _)))
   exact Fin.eq rfl ⟨rfl,_,⟨rfl,rfl⟩,h1⟩
end Go.Proofs.Ytlejjdbmmdghmaa
