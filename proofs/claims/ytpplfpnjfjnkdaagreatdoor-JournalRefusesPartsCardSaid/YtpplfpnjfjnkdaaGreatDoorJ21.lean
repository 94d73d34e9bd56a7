/-
 Layer 23: Append and Records,by the program,on a disk that works.
 Conditions: of each contract as it says.
-/
import Derived.Test.YtpplfpnjfjnkdaaGreatDoorJ17
import Derived.Test.YtpplfpnjfjnkdaaGreatDoorS22
set_option linter.unusedSimpArgs false
namespace Go.Proofs.YtpplfpnjfjnkdaaGreatDoor
open Go Go.E2 C22 C23 CW
set_option maxHeartbeats 8000000
theorem z18 {sz:Nat} {G:Gh} {x:D} {es:List D} (h:GV sz G x es):D.one x=true:=by cases h<;>rfl
theorem z0g {sz:Nat} {G:Gh} {x:D} {es:List D} (h:GV sz G x es):(x=.nilS∧es=[])∨∃ b cap,x=.gs b 0 es.length cap:=by
 cases h with
 | nil=>exact .inl ⟨rfl,rfl⟩
 | row b cap es cs hb hr=>exact .inr ⟨b,cap,rfl⟩
theorem z4n (rec:D) (l:List (List UInt8)) (hl:l.length≤100000):zaq Tryz.prog f_zz8 [rec] [SlA 1 rec (l.map .str)] (fun r post=>∃ x,r=.d x∧post=[SlA 1 x (l.map .str),SlA 1 rec (l.map .str)]):=by
 refine zu fol zz8_cp fun R G σ hs=>?_
 have hs:Sep (SlA 1 rec (l.map .str)::R) G:=hs
 have hgv:=Sep.gv hs
 rcases z0g hgv with ⟨rfl,he⟩|⟨b,cap,rfl⟩
 · rw [he] at hs ⊢
   refine goS trivial ?_
   (refine goX trivial ?_;(repeat' (with_reducible apply Br.mk<;>intro _)))
   exact Fin.eq rfl ⟨rfl,_,⟨.nilS,rfl,rfl⟩,Sep.slNil (sz:=1) hs⟩
 · have hlm:(l.map D.str).length=l.length:=yk3Q _
   generalize hn:(l.map D.str).length=n at *
   refine goS trivial ?_
   (refine goX trivial ?_;(repeat' (with_reducible apply Br.mk<;>intro _)))
   refine zx fun b2 hb2=>?_
   have h0:Sep (SlA 1 (.gs b2 0 0 0) []::SlA 1 (.gs b 0 n cap) (l.map .str)::R) (G.set b2 (some (flat []))) :=
    (Sep.new (cs:=[]) hb2 hs).imp fun G h=>GV.row (sz:=1) b2 0 [] [] h ⟨rfl,rfl,Nat.le_refl _,by simp,rfl⟩
   generalize G.set b2 _=G2 at h0 ⊢
   have hv:=h0.tail.gv.view
   refine goS trivial ?_
   (refine goX trivial ?_;(repeat' (with_reducible apply Br.mk<;>intro _)))
   refine zcb (es2:=l.map .str) h0.gv hv rfl h0.tail.gv.all rfl (by rw [z2,hn,hlm];simp only [List.length_nil];omega) fun x' G3 hv2 hto=>?_
   have hr2:=Sep.grow h0 hto hv2
   rw [List.nil_append] at hr2
   refine goS trivial ?_
   (refine goX trivial ?_;(repeat' (with_reducible apply Br.mk<;>intro _)))
   exact Fin.eq rfl ⟨rfl,_,⟨x',rfl,rfl⟩,hr2⟩
theorem zxa (p:Nat) (first half:Int) (g ses side used:Nat) (lk:List UInt8) (rec:D) (h:D.one rec=true):(jC p first half g ses side used lk rec).all D.one=true:=by
 show ([.gp p 0,eI first,eI half,eN g,eN ses,eI side,eI used]++lk.map eB++[rec]).all D.one=true
 simp only [ylmQ,zbx,Bool.and_true]
 show (true && (rec.one && true))=true
 rw [h];rfl
theorem zpb (p j:Nat) (d:Dk) (n0:Int) (first half:Nat) (g ses side used:Nat) (lk:List UInt8) (rec:D) (s:List UInt8) (recs:List (List UInt8)) (at_:Nat) (hat:at_=first+side * half)
 (hL:Lv d n0) (hn:n0≤600000) (h1:first+2 * half≤100000) (h8:4≤half) (hr:at_+half≤d.cs.length) (hside:side=0∨side=1) (hlk:lk.length=8) (hg:g<4294967296) (hses:ses<4294967296) (hu:used≤half / 2 - 1) (hs1:s.length≤1000000) (hrl:recs.length≤100000) (c:Bool) (hc:c=decide (s.length≤1000∧used+np s≤half / 2 - 1)) :
 zaq Tryz.prog f_zz24 [.gp j 0,.str s] [zf p d,za j (jC p first half g ses side used lk rec),SlA 1 rec (recs.map .str)]
  (fun r post=>∃ rec',r=.d (eI (if 1000<s.length then 1 else if half / 2 - 1<used+np s then 13 else 0)) ∧
    post=if c=true then [zf p (zg4 at_ g ses side d lk used (pcs s)),za j (jC p first half g ses side (used+np s) (lkE g ses side lk used (pcs s)) rec'),SlA 1 rec' ((recs++[s]).map .str)]
     else [zf p d,za j (jC p first half g ses side used lk rec),SlA 1 rec (recs.map .str)]):=by
 refine zu fol zz24_cp fun R G σ hs=>?_
 have hs:Sep (zf p d::za j (jC p first half g ses side used lk rec)::SlA 1 rec (recs.map .str)::R) G:=hs
 by_cases c1:1000<s.length
 · have c1':(1000<(s.length:Int))=True:=eq_true (by omega)
   have hcf:c=false:=by rw [hc];exact decide_eq_false (by omega)
   rw [if_pos c1,hcf]
   refine goS trivial ?_
   (refine goX c1' ?_;(repeat' (with_reducible apply Br.mk<;>intro _)))
   exact Fin.eq rfl ⟨rfl,_,⟨rec,rfl,rfl⟩,hs⟩
 have c1':(1000<(s.length:Int))=False:=eq_false (by omega)
 rw [if_neg c1]
 have hcut:=zsp s hs1
 have hcl:=zjr s
 have hroom:=(zm9 j p first half g ses side used lk rec (by omega) (by omega)).q (G:=G) (R:=zf p d::SlA 1 rec (recs.map .str)::R) (hs.perm (l':=za j (jC p first half g ses side used lk rec)::zf p d::SlA 1 rec (recs.map .str)::R) pp)
 have hput:=fun hh=>z17 p j d n0 first half g ses side used lk rec s recs at_ hat hL hh h1
 have hnp:np s≤100:=by unfold np;omega
 generalize zua s=L at *
 by_cases c2:half / 2 - 1<used+np s
 · have hcf:c=false:=by rw [hc];exact decide_eq_false (by omega)
   have c2':((half:Int) / 2 - 1 - used<(L.length:Int))=True:=eq_true (by omega)
   rw [if_pos c2,hcf]
   refine goS trivial ?_
   (refine zgi (nn c1' c2') (hcut) (hroom) ?_;(repeat' (with_reducible apply Br.mk<;>intro _)))
   exact Fin.eq rfl ⟨rfl,_,⟨rec,rfl,rfl⟩,hs⟩
 have hct:c=true:=by rw [hc];exact decide_eq_true (by omega)
 have c2':((half:Int) / 2 - 1 - used<(L.length:Int))=False:=eq_false (by omega)
 rw [if_neg c2,hct]
 have hput:=hput (by omega) (by omega) hside hlk hg hses (by omega) hs1 hrl
 have kj:=hs.tail.get
 have jl:=za8 p first half g ses side used lk rec hlk
 have ja:=zxa p first half g ses side used lk rec (z18 (hs.tail.tail.gv))
 obtain ⟨J0,hJ0⟩:∃ x,x=jC p first half g ses side used lk rec:=⟨_,rfl⟩
 rw [← hJ0] at kj jl ja
 have t16:List.take 16 J0=J0:=yk1Q (by omega)
 have z16:List.drop 16 ([D.nilP,.int .i64 0,.int .i64 0,.int .i64 0,.int .i64 0,.int .i64 0,.int .i64 0]++zr 8 (.int .u8 0)++[.nilS])=[]:=rfl
 refine goS trivial ?_
 (refine zgi (nn c1' (nn c2' (nn kj (nn jl (nn ja (nn t16 z16)))))) (hcut) (hroom) ?_;(repeat' (with_reducible apply Br.mk<;>intro _)))
 (refine goM (hput) (hs) ?_)
 rintro _ _ G2 ⟨rec',rfl,rfl⟩ hs2
 refine goS trivial ?_
 (refine goX trivial ?_;(repeat' (with_reducible apply Br.mk<;>intro _)))
 exact Fin.eq rfl ⟨rfl,_,⟨rec',rfl,rfl⟩,hs2⟩
theorem zgd (p j:Nat) (first half:Int) (g ses side used:Nat) (lk:List UInt8) (rec:D) (recs:List (List UInt8)) (hlk:lk.length=8) (hrl:recs.length≤100000) :
 zaq Tryz.prog f_zz13 [.gp j 0] [za j (jC p first half g ses side used lk rec),SlA 1 rec (recs.map .str)] (fun r post=>∃ x,r=.d x∧post=[SlA 1 x (recs.map .str),za j (jC p first half g ses side used lk rec),SlA 1 rec (recs.map .str)]):=by
 refine zu fol zz13_cp fun R G σ hs=>?_
 have hs:Sep (za j (jC p first half g ses side used lk rec)::SlA 1 rec (recs.map .str)::R) G:=hs
 have hj:=hs.get
 have q15:(List.drop 15 (jC p first half g ses side used lk rec)).head?=some rec:=by
  show (List.drop 8 (lk.map eB++[rec])).head?=some rec
  rw [yloQ (by rw [yk3Q,hlk])];rfl
 have hcl:=z4n rec recs hrl
 generalize jC p first half g ses side used lk rec=J at *
 refine goS trivial ?_
 (refine goX (nn hj q15) ?_;(repeat' (with_reducible apply Br.mk<;>intro _)))
 (refine goM (hcl) (hs.swap) ?_)
 rintro _ _ G2 ⟨x,rfl,rfl⟩ hs2
 have hs2:Sep (SlA 1 x (recs.map .str)::SlA 1 rec (recs.map .str)::za j J::R) G2:=hs2
 refine goS trivial ?_
 (refine goX trivial ?_;(repeat' (with_reducible apply Br.mk<;>intro _)))
 exact Fin.eq rfl ⟨rfl,_,⟨x,rfl,rfl⟩,hs2.perm (l':=SlA 1 x (recs.map .str)::za j J::SlA 1 rec (recs.map .str)::R) pp⟩
end Go.Proofs.YtpplfpnjfjnkdaaGreatDoor
namespace Go.Proofs.YtpplfpnjfjnkdaaGreatDoor
open Go Go.E2 C22 C23 CW
set_option maxHeartbeats 16000000
theorem zxb (a b:List (List UInt8)):npL (a++b)=npL a+npL b:=by simp [npL]
theorem zxc {s:List UInt8} (h:s.length≤100000):np s≤3400:=by unfold np;omega
theorem zjn {l:List (List UInt8)} {k:Nat} (h:k<l.length):npL (l.take (k+1))=npL (l.take k)+np l[k]:=by
 rw [yldQ h,zxb];simp [npL]
theorem zxd {l:List (List UInt8)} (hls:∀ s∈l,s.length≤100000):∀ m,npL (l.take m)≤m * 4000
 | 0=>by simp [npL]
 | m+1=>by
   have ih:=zxd hls m
   by_cases e:m<l.length
   · rw [zjn e,ylrQ,Nat.one_mul]
     exact Nat.add_le_add ih (Nat.le_trans (zxc (hls _ (List.getElem_mem e))) (by decide))
   · have:l.take (m+1)=l.take m:=by rw [yk1Q (by omega),yk1Q (by omega)]
     rw [this];exact Nat.le_trans ih (Nat.mul_le_mul_right _ (by omega))
theorem zsk (l:List (List UInt8)) (k:Nat):npL (l.take k)≤npL l:=by
 conv=>rhs;rw [← List.take_append_drop k l,zxb]
 omega
theorem z9g {s:List UInt8} (h:s.length≤1000):np s≤34:=by unfold np;omega
def rwE (l:List (List UInt8)) (q:Nat) (g:Nat):Int:=if ∃ s∈l,1000<s.length then 1 else if q<npL l then 13 else if g=4294967295 then 2 else 0
theorem zq3 (p j:Nat) (first half:Nat) (g ses side used:Nat) (lk:List UInt8) (rec:D) (l:List (List UInt8)) (h1:first+2 * half≤100000) (h8:4≤half) (_hg:g<4294967296) (hll:l.length≤1000) (hls:∀ s∈l,s.length≤100000)
 (hE:rwE l (half / 2 - 1) g≠0) :
 zaq Tryz.prog f_zz14 [.gp j 0,.list (l.map .str)] [za j (jC p first half g ses side used lk rec)]
  (fun r post=>r=.d (eI (rwE l (half / 2 - 1) g))∧post=[za j (jC p first half g ses side used lk rec)]):=by
 refine zu fol zz14_cp fun R G σ hs=>?_
 have hs:Sep (za j (jC p first half g ses side used lk rec)::R) G:=hs
 have hjl:(jC p first half g ses side used lk rec)=[.gp p 0,eI first,eI half,eN g]++(jC p first half g ses side used lk rec).drop 4:=rfl
 have kj:=hs.get
 have q0:List.take 3 (jC p first half g ses side used lk rec)=[.gp p 0,eI first,eI half]:=rfl
 have q3:(List.drop 3 (jC p first half g ses side used lk rec)).head?=some (eN g):=rfl
 have jl:4≤(jC p first half g ses side used lk rec).length:=by rw [hjl];simp
 have jl3:3≤(jC p first half g ses side used lk rec).length:=by omega
 generalize jC p first half g ses side used lk rec=J at *
 refine goS trivial ?_
 refine goR trivial ?_
 refine W.loop (fun m st=>∃ k,k≤l.length∧m=l.length - k∧(∀ s∈l.take k,s.length≤1000) ∧
  st=(E [(15,.d (eI k)),(14,.d (eI l.length)),(13,.d (.list (l.map .str))),(5,.d (eI (npL (l.take k)))),(1,.d (.list (l.map .str))),(0,.d (.gp j 0))],HB [],σ,G))
  ⟨_,_,zk9,0,by omega,rfl,by simp,rfl⟩ ?_
 rintro m st ⟨k,hk,rfl,hsm,rfl⟩
 by_cases hk2:k=l.length
 · subst hk2
   rw [List.take_length] at hsm ⊢
   have hkI:((l.length:Int)<(l.length:Int))=False:=eq_false (by omega)
   have hn1:¬ ∃ s∈l,1000<s.length:=fun ⟨s,hs,h⟩=>by have:=hsm s hs;omega
   have hsl:=zhz p first half (by omega)
   unfold rwE at hE ⊢
   rw [if_neg hn1] at hE ⊢
   by_cases c2:half / 2 - 1<npL l
   · have c2':((half:Int) / 2 - 1<(npL l:Int))=True:=eq_true (by omega)
     rw [if_pos c2]
     (refine zb7 (nn hkI (nn kj (nn q0 (nn q3 (nn jl (nn jl3 c2')))))) (hsl) ?_;(repeat' (with_reducible apply Br.mk<;>intro _)))
     exact Fin.eq rfl ⟨rfl,_,⟨rfl,rfl⟩,hs⟩
   · have c2':((half:Int) / 2 - 1<(npL l:Int))=False:=eq_false (by omega)
     rw [if_neg c2] at hE ⊢
     by_cases c3:g=4294967295
     · have c3':((g:Int)=4294967295)=True:=eq_true (by omega)
       rw [if_pos c3]
       (refine zb7 (nn hkI (nn kj (nn q0 (nn q3 (nn jl (nn jl3 (nn c2' c3'))))))) (hsl) ?_;(repeat' (with_reducible apply Br.mk<;>intro _)))
       exact Fin.eq rfl ⟨rfl,_,⟨rfl,rfl⟩,hs⟩
     · exact absurd (if_neg c3) hE
 have hk3:k<l.length:=by omega
 have hkI:((k:Int)<(l.length:Int))=True:=eq_true (by omega)
 have hmem:l[k]∈l:=List.getElem_mem hk3
 have htk:l.take (k+1)=l.take k++[l[k]]:=yldQ hk3
 have hnt:=zjn hk3
 have hb1:=zsk l k
 have hb3:=zxd hls k
 have hb4:npL (l.take k)≤4000000:=by
  have:k * 4000≤1000 * 4000:=Nat.mul_le_mul_right _ (by omega)
  exact Nat.le_trans hb3 this
 clear hb3 hb1
 obtain ⟨s,hs0⟩:∃ s,l[k]=s:=⟨_,rfl⟩
 rw [hs0] at hmem htk hnt
 have hsl:=hls _ hmem
 have hn5:np s≤3400:=zxc hsl
 have hcut:=zsp s (by omega)
 have hcl:=zjr s
 generalize zua s=C at *
 by_cases c1:1000<s.length
 · have c1':(1000<(s.length:Int))=True:=eq_true (by omega)
   have e:rwE l (half / 2 - 1) g=1:=if_pos ⟨_,hmem,c1⟩
   rw [e]
   (refine goX (nn hkI (nn hs0 c1')) ?_;(repeat' (with_reducible apply Br.mk<;>intro _)))
   exact Fin.eq rfl ⟨rfl,_,⟨rfl,rfl⟩,hs⟩
 · have c1':(1000<(s.length:Int))=False:=eq_false (by omega)
   (refine zb7 (nn hkI (nn hs0 c1')) (hcut) ?_;(repeat' (with_reducible apply Br.mk<;>intro _)))
   refine ⟨_,_,?_,zk9,k+1,by omega,rfl,?_,rfl⟩
   · omega
   · intro s hs
     rw [htk] at hs
     rcases List.mem_append.1 hs with h|h
     · exact hsm s h
     · obtain rfl:s=_:=by simpa using h
       omega
end Go.Proofs.YtpplfpnjfjnkdaaGreatDoor
namespace Go.Proofs.YtpplfpnjfjnkdaaGreatDoor
open Go Go.E2 C22 C23 CW
set_option maxHeartbeats 16000000
def rwD (d:Dk) (first half:Nat) (g ses side':Nat) (l:List (List UInt8)):Dk :=
 (sy (wr2 (sy (zg4 (first+side' * half) g ses side' d (tx (mkH g ses side') 48 56) 0 (zb8 l))).1 ((first+side' * half:Nat):Int) (mkH g ses side')).1).1
theorem zxe {l:List (List UInt8)} {k:Nat} {s:List UInt8} (h:l.take (k+1)=l.take k++[s]):zb8 (l.take (k+1))=zb8 (l.take k)++pcs s:=by rw [h,zk5]
theorem zt2 (p j:Nat) (d:Dk) (n0:Int) (first half:Nat) (g ses side used side':Nat) (lk:List UInt8) (rec:D) (l:List (List UInt8)) (hL:Lv d n0) (hn:n0≤600000) (h1:first+2 * half≤60000) (h8:4≤half) (hr:first+2 * half≤d.cs.length) (hside:side=0∧side'=1∨side=1∧side'=0)
 (hlk:lk.length=8) (hg:g+1<4294967296) (hses:ses<4294967296) (hll:l.length≤1000) (hls:∀ s∈l,s.length≤1000) (hq:npL l≤half / 2 - 1) :
 zaq Tryz.prog f_zz14 [.gp j 0,.list (l.map .str)] [zf p d,za j (jC p first half g ses side used lk rec)]
  (fun r post=>∃ rec',r=.d (eI 0)∧post=[zf p (rwD d first half (g+1) ses side' l),za j (jC p first half (g+1) ses side' (npL l) (lkE (g+1) ses side' (tx (mkH (g+1) ses side') 48 56) 0 (zb8 l)) rec'),SlA 1 rec' (l.map .str)]):=by
 refine zu fol zz14_cp fun R G σ hs=>?_
 have hs:Sep (zf p d::za j (jC p first half g ses side used lk rec)::R) G:=hs
 have kj:=hs.tail.get
 have q0:List.take 3 (jC p first half g ses side used lk rec)=[.gp p 0,eI first,eI half]:=rfl
 have q3:(List.drop 3 (jC p first half g ses side used lk rec)).head?=some (eN g):=rfl
 have q4:(List.drop 4 (jC p first half g ses side used lk rec)).head?=some (eN ses):=rfl
 have q5:(List.drop 5 (jC p first half g ses side used lk rec)).head?=some (eN side):=rfl
 have jl:=za8 p first half g ses side used lk rec hlk
 have jl3:3≤(jC p first half g ses side used lk rec).length:=by omega
 obtain ⟨J0,hJ0⟩:∃ x,x=jC p first half g ses side used lk rec:=⟨_,rfl⟩
 rw [← hJ0] at hs kj q0 q3 q4 q5 jl jl3
 have hmost:=hL.ok.most
 refine goS trivial ?_
 refine goR trivial ?_
 refine W.loop (fun m st=>∃ k,k≤l.length∧m=l.length - k ∧
  st=(E [(15,.d (eI k)),(14,.d (eI l.length)),(13,.d (.list (l.map .str))),(5,.d (eI (npL (l.take k)))),(1,.d (.list (l.map .str))),(0,.d (.gp j 0))],HB [],σ,G))
  ⟨_,_,zk9,0,by omega,rfl,rfl⟩ ?_
 rintro m st ⟨k,hk,rfl,rfl⟩
 by_cases hk2:k=l.length
 case neg =>
  have hk3:k<l.length:=by omega
  have hkI:((k:Int)<(l.length:Int))=True:=eq_true (by omega)
  have hnt:=zjn hk3
  have hb3:=zsk l k
  have hmem:l[k]∈l:=List.getElem_mem hk3
  obtain ⟨s,hs0⟩:∃ s,l[k]=s:=⟨_,rfl⟩
  rw [hs0] at hmem hnt
  have hsl:=hls _ hmem
  have hn5:np s≤3400:=zxc (by omega)
  have hcut:=zsp s (by omega)
  have hcl:=zjr s
  generalize zua s=C at *
  have c1':(1000<(s.length:Int))=False:=eq_false (by omega)
  (refine zb7 (nn hkI (nn hs0 c1')) (hcut) ?_;(repeat' (with_reducible apply Br.mk<;>intro _)))
  refine ⟨_,_,?_,zk9,k+1,by omega,rfl,rfl⟩
  omega
 subst hk2
 rw [List.take_length]
 have hkI:((l.length:Int)<(l.length:Int))=False:=eq_false (by omega)
 have hsl:=zhz p first half (by omega)
 have c2':((half:Int) / 2 - 1<(npL l:Int))=False:=eq_false (by omega)
 have c3':((g:Int)=4294967295)=False:=eq_false (by omega)
 (refine zb7 (nn hkI (nn kj (nn q0 (nn q3 (nn q4 (nn q5 (nn jl (nn jl3 (nn c2' c3'))))))))) (hsl) ?_;(repeat' (with_reducible apply Br.mk<;>intro _)))
 have hs1:(1:Int) - (side:Int)=(side':Int):=by omega
 have ez:(D.gp p 0::eI first::eI half::D.int .i64 ((g:Int)+1)::eN ses::D.int .i64 (1 - (side:Int))::D.int .i64 0::(zr 8 (D.int .u8 0)++[D.nilS]))=jC p first half (g+1) ses side' 0 (List.replicate 8 0) .nilS:=by rw [hs1];rfl
 rw [ez]
 refine zx fun j2 hj2=>?_
 have t1:=Sep.new (cs:=D.nilP::D.int .i64 0::D.int .i64 0::D.int .i64 0::D.int .i64 0::D.int .i64 0::D.int .i64 0::(zr 8 (D.int .u8 0)++[D.nilS])) hj2 hs
 have zl:(D.nilP::D.int .i64 0::D.int .i64 0::D.int .i64 0::D.int .i64 0::D.int .i64 0::D.int .i64 0::(zr 8 (D.int .u8 0)++[D.nilS])).length=16:=rfl
 generalize (D.nilP::D.int .i64 0::D.int .i64 0::D.int .i64 0::D.int .i64 0::D.int .i64 0::D.int .i64 0::(zr 8 (D.int .u8 0)++[D.nilS]))=Z at t1 zl ⊢
 generalize G.set j2 _=G1 at t1 ⊢
 have kz:=t1.get
 have jl1:=za8 p first half (g+1) ses side' 0 (List.replicate 8 0) .nilS rfl
 have ja1:=zxa p first half (g+1) ses side' 0 (List.replicate 8 0) .nilS rfl
 have w16:List.take 0 Z++jC p first half (g+1) ses side' 0 (List.replicate 8 0) .nilS++List.drop 16 Z=jC p first half (g+1) ses side' 0 (List.replicate 8 0) .nilS:=by
  rw [yk7Q (by omega),ylvQ];rfl
 have d16:List.drop 16 Z=[]:=yk7Q (by omega)
 have p3:List.take 2 (List.drop 3 (jC p first half (g+1) ses side' 0 (List.replicate 8 0) .nilS))=[eN (g+1),eN ses]:=rfl
 have p5:(List.drop 5 (jC p first half (g+1) ses side' 0 (List.replicate 8 0) .nilS)).head?=some (eN side'):=rfl
 have t2:=t1.set (cs':=jC p first half (g+1) ses side' 0 (List.replicate 8 0) .nilS)
 have kj1:=t2.get
 have hsec:=zeu (g+1) ses side' (by omega) (by omega) (by omega)
 have lk1l:=zfy (mkH (g+1) ses side')
 have w7:List.take 7 (jC p first half (g+1) ses side' 0 (List.replicate 8 0) .nilS)++(tx (mkH (g+1) ses side') 48 56).map eB++List.drop 15 (jC p first half (g+1) ses side' 0 (List.replicate 8 0) .nilS)=jC p first half (g+1) ses side' 0 (tx (mkH (g+1) ses side') 48 56) .nilS:=rfl
 have t3:=t1.set (cs':=jC p first half (g+1) ses side' 0 (tx (mkH (g+1) ses side') 48 56) .nilS)
 obtain ⟨hx,hhx⟩:∃ hx,hx=mkH (g+1) ses side':=⟨_,rfl⟩
 have hlk1:=zfp hx
 have hss:=zj hx
 unfold rwD
 rw [← hhx] at hsec lk1l w7 t3 ⊢
 have tkl:=zbq lk1l
 have olk:=zbx (tx hx 48 56)
 generalize hJ1:jC p first half (g+1) ses side' 0 (List.replicate 8 0) .nilS=J1 at *
 have z64:List.drop 64 (zr 64 (D.int .u8 0))=[]:=rfl
 have t16:List.take 16 J1=J1:=yk1Q (by omega)
 refine goS trivial ?_
 (refine zgi (nn kz (nn zl (nn jl1 (nn ja1 (nn t16 (nn w16 (nn d16 (nn p3 (nn p5 (nn kj1 (nn hss (nn z64 (nn lk1l (nn tkl (nn olk w7))))))))))))))) (hsec) (hlk1) ?_;(repeat' (with_reducible apply Br.mk<;>intro _)))
 obtain ⟨at_,hat⟩:∃ x,x=first+side' * half:=⟨_,rfl⟩
 rw [← hat]
 have hatb:at_+half≤d.cs.length:=by rcases hside with ⟨_,rfl⟩|⟨_,rfl⟩<;>omega
 obtain ⟨lk1,hlk1e⟩:∃ x,x=tx hx 48 56:=⟨_,rfl⟩
 rw [← hlk1e] at lk1l t3 ⊢
 have t4:=Sep.slNil (sz:=1) t3
 have t5:Sep (zf p d::za j2 (jC p first half (g+1) ses side' 0 lk1 .nilS)::SlA 1 .nilS []::za j J0::R) _:=t4.perm pp
 generalize G1.set j2 _=G3 at t5 ⊢
 refine W.loop (fun m st=>∃ (k:Nat) (rec':D) (G':Gh),k≤l.length∧m=l.length - k ∧
  Sep (zf p (zg4 at_ (g+1) ses side' d lk1 0 (zb8 (l.take k)))::za j2 (jC p first half (g+1) ses side' (npL (l.take k)) (lkE (g+1) ses side' lk1 0 (zb8 (l.take k))) rec')::SlA 1 rec' ((l.take k).map .str)::za j J0::R) G' ∧
  st=(E [(75,.d (eI k)),(74,.d (eI l.length)),(73,.d (.list (l.map .str))),(9,.ptr 0 9 1 0),(8,.d (.gp j2 0)),(0,.d (.gp j 0))],HB [(9,⟨1,some (hx.1.map eB)⟩)],σ,G'))
  ⟨_,_,z7 rfl,0,.nilS,G3,by omega,rfl,t5,rfl⟩ ?_
 rintro m st ⟨k,rec',G',hk,rfl,hs',rfl⟩
 have hpl:=zdp (l.take k)
 have hple:=zsk l k
 have hLk:=ziw (at_:=at_) (g:=g+1) (ses:=ses) (side:=side') (zb8 (l.take k)) lk1 0 hL (by omega) (by omega)
 rw [hpl] at hLk
 have hlkl:(lkE (g+1) ses side' lk1 0 (zb8 (l.take k))).length=8:=zc3 _ _ lk1l
 by_cases hk2:k=l.length
 case neg =>
  have hk3:k<l.length:=by omega
  have hkI:((k:Int)<(l.length:Int))=True:=eq_true (by omega)
  have hnt:=zjn hk3
  have hb3:=zsk l (k+1)
  have hmem:l[k]∈l:=List.getElem_mem hk3
  have htk:l.take (k+1)=l.take k++[l[k]]:=yldQ hk3
  obtain ⟨s,hs0⟩:∃ s,l[k]=s:=⟨_,rfl⟩
  rw [hs0] at hmem hnt htk
  have hsl:=hls _ hmem
  have hpt:=zxe htk
  have hpa:=znm at_ (g+1) ses side' (zb8 (l.take k)) (pcs s) d lk1 0
  have hla:=zg5 (g+1) ses side' (zb8 (l.take k)) (pcs s) lk1 0
  rw [← hpt,hpl,yltQ] at hpa hla
  obtain ⟨dk,hdk⟩:∃ x,x=zg4 at_ (g+1) ses side' d lk1 0 (zb8 (l.take k)):=⟨_,rfl⟩
  rw [← hdk] at hpa hLk hs'
  have hput:=z17 p j2 dk (n0+2 * (npL (l.take k))) first half (g+1) ses side' (npL (l.take k)) (lkE (g+1) ses side' lk1 0 (zb8 (l.take k))) rec' s (l.take k) at_ hat hLk.1 (by omega) (by omega) (by rw [hLk.2.1];omega) (by omega) hlkl (by omega) hses (by omega) (by omega) (by rw [yk4Q];omega)
  (refine goX (nn hkI hs0) ?_;(repeat' (with_reducible apply Br.mk<;>intro _)))
  (refine goM (hput) (hs') ?_)
  rintro _ _ G2 ⟨rec2,rfl,rfl⟩ hs2
  rw [← hpa,← hla,← hnt,← htk] at hs2
  refine goS trivial ?_
  (refine goX trivial ?_;(repeat' (with_reducible apply Br.mk<;>intro _)))
  refine ⟨_,_,?_,z7 rfl,k+1,rec2,G2,by omega,rfl,hs2,rfl⟩
  omega
 subst hk2
 have hkI:((l.length:Int)<(l.length:Int))=False:=eq_false (by omega)
 rw [List.take_length] at hs' hLk hlkl
 obtain ⟨dk,hdk⟩:∃ x,x=zg4 at_ (g+1) ses side' d lk1 0 (zb8 l):=⟨_,rfl⟩
 rw [← hdk] at hLk hs' ⊢
 obtain ⟨u1,u2,u3,u4⟩:=hLk.1.sy (by omega)
 obtain ⟨v1,v2,v3,v4⟩:=zje u2 (by omega) (a:=at_) (by omega) hx
 obtain ⟨x1,x2,x3,x4⟩:=v2.sy (by omega)
 have hsy1:=zko p dk (by have:=hLk.1.st;omega)
 have hh:=zfr p first half side' (by omega) (by omega) (by omega)
 have eat:(first:Int)+(side':Int) * (half:Int)=(at_:Int):=by rw [hat];push_cast;rfl
 rw [eat] at hh
 have hb:=zne p (sy dk).1 first half (at_:Int) hx (by have:=u2.st;omega) (by omega)
 have hsy2:=zko p (wr2 (sy dk).1 (at_:Int) hx).1 (by have:=v2.st;omega)
 have kj2:=hs'.tail.get
 obtain ⟨J2,hJ2⟩:∃ x,x=jC p first half (g+1) ses side' (npL l) (lkE (g+1) ses side' lk1 0 (zb8 l)) rec':=⟨_,rfl⟩
 have r0:J2.head?=some (.gp p 0):=by rw [hJ2];rfl
 have r3:List.take 3 J2=[.gp p 0,eI first,eI half]:=by rw [hJ2];rfl
 have r5:(List.drop 5 J2).head?=some (eN side'):=by rw [hJ2];rfl
 have rl:J2.length=16:=by rw [hJ2];exact za8 _ _ _ _ _ _ _ _ _ hlkl
 have rl3:3≤J2.length:=by omega
 have ra:J2.all D.one=true:=by rw [hJ2];exact zxa _ _ _ _ _ _ _ _ _ (z18 (hs'.tail.tail.gv))
 have rt:List.take 16 J2=J2:=yk1Q (by omega)
 have rd0:List.drop 16 J0=[]:=yk7Q (by omega)
 rw [← hJ2] at hs' kj2
 (refine goX (nn hkI (nn kj2 r0)) ?_;(repeat' (with_reducible apply Br.mk<;>intro _)))
 (refine goM (hsy1) (hs') ?_)
 rintro _ _ G4 ⟨rfl,rfl⟩ hs4
 have hs4:Sep (zf p (sy dk).1::za j2 J2::SlA 1 rec' (l.map .str)::za j J0::R) G4:=hs4
 have kj4:=hs4.tail.get
 rw [u1]
 refine goS trivial ?_
 (refine zb7 (nn kj4 (nn r3 (nn r5 (nn rl (nn rl3 hss))))) (hh) ?_;(repeat' (with_reducible apply Br.mk<;>intro _)))
 (refine goM (hb) (hs4) ?_)
 rintro _ _ G5 ⟨rfl,rfl⟩ hs5
 have hs5:Sep (zf p (wr2 (sy dk).1 (at_:Int) hx).1::za j2 J2::SlA 1 rec' (l.map .str)::za j J0::R) G5:=hs5
 have kj5:=hs5.tail.get
 rw [v1]
 refine goS trivial ?_
 (refine goX (nn kj5 r0) ?_;(repeat' (with_reducible apply Br.mk<;>intro _)))
 (refine goM (hsy2) (hs5) ?_)
 rintro _ _ G6 ⟨rfl,rfl⟩ hs6
 have hs6:Sep (zf p (sy (wr2 (sy dk).1 (at_:Int) hx).1).1::za j2 J2::SlA 1 rec' (l.map .str)::za j J0::R) G6:=hs6
 have kj6:=hs6.tail.get
 have kj7:=hs6.tail.tail.tail.get
 rw [x1]
 have m1:Sep (za j J0::zf p (sy (wr2 (sy dk).1 (at_:Int) hx).1).1::SlA 1 rec' (l.map .str)::za j2 J2::R) G6:=hs6.perm pp
 have m2:=m1.set (cs':=J2)
 refine goS trivial ?_
 (refine goX (nn kj6 (nn kj7 (nn rl (nn ra (nn rt (nn jl (nn rd0 lan))))))) ?_;(repeat' (with_reducible apply Br.mk<;>intro _)))
 have m3:∀ X,X=J2→Sep (zf p (sy (wr2 (sy dk).1 (at_:Int) hx).1).1::za j X::SlA 1 rec' (l.map .str)::R) (G6.set j (some J2)):=fun X hX=>by rw [hX];exact (m2.perm (l':=za j2 J2::zf p (sy (wr2 (sy dk).1 (at_:Int) hx).1).1::za j J2::SlA 1 rec' (l.map .str)::R) pp).tail
 exact Fin.eq rfl ⟨rfl,_,⟨rec',rfl,rfl⟩,m3 _ hJ2.symm⟩
end Go.Proofs.YtpplfpnjfjnkdaaGreatDoor
namespace Go.Proofs.YtpplfpnjfjnkdaaGreatDoor
open Go Go.E2 C22 C23 CW
set_option maxHeartbeats 4000000
theorem z4o (s:Sec) {a k:Nat} (h:a≤k) (hk:k<64):tx s a (k+1)=tx s a k++[sb s k]:=by
 unfold tx
 have hl:k<s.1.length:=by rw [s.2];exact hk
 rw [yldQ hl,List.drop_append_of_le_length (by rw [yk4Q];omega)]
 have:=z2g s hk
 rw [yliQ hl] at this
 rw [ylwQ this]
theorem zcq (s:Sec) (a b:Nat) (h:a≤b) (hb:b≤64):zw Tryz.prog f_zz71 [eS s,eI a,eI b] (·=.d (.str (tx s a b))):=by
 refine zh fol zz71_cp ?_
 have hss:=zj s
 refine goS trivial ?_
 refine goR trivial ?_
 refine W.loop (fun m st=>∃ k,a≤k∧k≤b∧m=b - k ∧
  st=(E [(8,.d (eI k)),(7,.own 1 ((tx s a k).map eB)),(3,.ptr 0 3 1 0),(2,.d (eI b))],HB [(3,⟨1,some (s.1.map eB)⟩)],[],noGh))
  ⟨_,_,zgm (by (simp -dsimp (disch:=first|omega|(simp only [go_sem];omega)) only [go_sem,seval,Nat.reduceEqDiff,Nat.reduceLeDiff,show tx s a a=[] from by unfold tx;rw [List.drop_eq_nil_iff,yk4Q];omega]<;>((repeat' apply And.intro)<;>first|exact VLe.refl _|(apply zaa;omega)|(apply zaa;simp;done)|exact VLe.own _ _|exact VLe.nilown _|exact VLe.norm _))) rfl,a,Nat.le_refl _,h,rfl,rfl⟩ ?_
 rintro m st ⟨k,h1,h2,rfl,rfl⟩
 by_cases hk:k=b
 · subst hk
   have hkI:((k:Int)<(k:Int))=False:=eq_false (by omega)
   (refine goX hkI ?_;(repeat' (with_reducible apply Br.mk<;>intro _)))
   exact Fin.p rfl rfl
 · have hkI:((k:Int)<(b:Int))=True:=eq_true (by omega)
   have hh:=zqy s (show k<64 by omega)
   have hl:=zas s (a:=a) (b:=k) (by omega)
   have hsn:=z4o s h1 (show k<64 by omega)
   have hh:(List.drop (k * 1) (s.1.map eB)).head?=some (eB (sb s k)):=by rw [ylsQ];exact hh
   have hll:((tx s a k).map eB).length≤64:=by rw [yk3Q,hl];omega
   (refine goX (nn hkI (nn hss hh)) ?_;(repeat' (with_reducible apply Br.mk<;>intro _)))
   refine ⟨_,_,?_,zgm (by (simp -dsimp (disch:=first|omega|(simp only [go_sem];omega)) only [go_sem,seval,Nat.reduceEqDiff,Nat.reduceLeDiff,hsn,yk6Q]<;>((repeat' apply And.intro)<;>first|exact VLe.refl _|(apply zaa;omega)|(apply zaa;simp;done)|exact VLe.own _ _|exact VLe.nilown _|exact VLe.norm _))) rfl,k+1,by omega,by omega,rfl,rfl⟩
   omega
theorem zio (n:Nat) (hn:n<1000000):zw Tryz.prog f_zz40 [eI n] (·=.d (.str (intB n))):=by
 refine zh fol zz40_cp ?_
 have hI:=z35 n (z11 (by omega))
 refine goS trivial ?_
 (refine zb7 trivial (hI) ?_;(repeat' (with_reducible apply Br.mk<;>intro _)))
 exact Fin.p rfl rfl
theorem zxf (b:List UInt8) (side:Nat) (hb:b.length≤2000) (hs:side<1000000):zw Tryz.prog f_zz11 [.str b,eI side] (·=.d (eDg (zfu b side))):=by
 refine zh fol zz11_cp ?_
 have hI:=zio side hs
 have hil:=zdn (z11 (n:=side) (by omega))
 have hO:=z10 129 (by decide) [b,intB side] (by simp) (by
  intro s hs
  rcases List.mem_cons.1 hs with rfl|hs
  · exact hb
  · obtain rfl:s=_:=by simpa using hs
    omega)
 have hdl:=zfv b side
 have e:CH.dig (129:Int).toNat [b,intB side]=zfu b side:=rfl
 rw [e] at hO
 generalize zfu b side=h at *
 obtain ⟨d1,d2,d3,d4⟩:=z1z hdl
 have z16d:List.drop 16 (zr 16 (D.int .u8 0))=[]:=rfl
 have z16l:(zr 16 (D.int .u8 0)).length=16:=rfl
 refine goS trivial ?_
 (refine zgi (nn d1 (nn d2 (nn d3 (nn d4 (nn z16d z16l))))) (hI) (hO) ?_;(repeat' (with_reducible apply Br.mk<;>intro _)))
 exact Fin.eq (r:=.d (.agg (h.map eB))) (goE (nn d1 (nn d2 d3))) ⟨rfl,rfl,rfl⟩
theorem z4p (b:List UInt8) (side slot:Nat) (hb:b.length≤2000) (hs:side<1000000) (hk:slot<1000000):zw Tryz.prog f_zz5 [.str b,eI side,eI slot] (·=.d (eDg (zeb b side slot))):=by
 refine zh fol zz5_cp ?_
 have hI:=zio side hs
 have hI2:=zio slot hk
 have hil:=zdn (z11 (n:=side) (by omega))
 have hil2:=zdn (z11 (n:=slot) (by omega))
 have hO:=z10 130 (by decide) [b,intB side,intB slot] (by simp) (by
  intro s hs
  rcases List.mem_cons.1 hs with rfl|hs
  · exact hb
  · rcases List.mem_cons.1 hs with rfl|hs
    · omega
    · obtain rfl:s=_:=by simpa using hs
      omega)
 have hdl:=zd6 b side slot
 have e:CH.dig (130:Int).toNat [b,intB side,intB slot]=zeb b side slot:=rfl
 rw [e] at hO
 generalize zeb b side slot=h at *
 obtain ⟨d1,d2,d3,d4⟩:=z1z hdl
 have z16d:List.drop 16 (zr 16 (D.int .u8 0))=[]:=rfl
 have z16l:(zr 16 (D.int .u8 0)).length=16:=rfl
 refine goS trivial ?_
 (refine zla (nn d1 (nn d2 (nn d3 (nn d4 (nn z16d z16l))))) (hI) (hI2) (hO) ?_;(repeat' (with_reducible apply Br.mk<;>intro _)))
 exact Fin.eq (r:=.d (.agg (h.map eB))) (goE (nn d1 (nn d2 d3))) ⟨rfl,rfl,rfl⟩
theorem z0h (s:Sec):zw Tryz.prog f_zz77 [eS s] (·=.d (.str (z9u s))):=by
 refine zh fol zz77_cp ?_
 have hss:=zj s
 have h1:=zcq s 16 24 (by decide) (by decide)
 have h2:=zcq s 56 64 (by decide) (by decide)
 have l1:=zas s (a:=16) (b:=24) (by decide)
 have l2:=zas s (a:=56) (b:=64) (by decide)
 refine goS trivial ?_
 (refine zgi hss (h1) (h2) ?_;(repeat' (with_reducible apply Br.mk<;>intro _)))
 exact Fin.p rfl rfl
theorem zsl:zw Tryz.prog f_zz59 [] (·=.d (.str zft)):=by
 refine zh fol zz59_cp ?_
 refine goS trivial ?_
 (refine goX trivial ?_;(repeat' (with_reducible apply Br.mk<;>intro _)))
 exact Fin.p rfl rfl
theorem zq4 (s:Sec) (side:Nat) (hs:side<1000000):zw Tryz.prog f_zz35 [eS s,eI side] (·=.d (.bool (isH s side))):=by
 refine zh fol zz35_cp ?_
 have hss:=zj s
 have h1:=zcq s 0 48 (by decide) (by decide)
 have h2:=zcq s 0 8 (by decide) (by decide)
 have h3:=zcq s 48 64 (by decide) (by decide)
 have hd:=zxf (tx s 0 48) side (by rw [zas s (by decide)];decide) hs
 have hdl:=zfv (tx s 0 48) side
 have hT:=zw2 (zfu (tx s 0 48) side) hdl
 have hm:=zsl
 have hH:isH s side=(decide (tx s 0 8=zft) && decide (tx s 48 64=zfu (tx s 0 48) side)):=rfl
 rw [hH]
 generalize zfu (tx s 0 48) side=h at *
 generalize tx s 0 48=t0 at *
 generalize tx s 0 8=t1 at *
 generalize tx s 48 64=t2 at *
 generalize zft=mg at *
 obtain ⟨d1,d2,d3,d4⟩:=z1z hdl
 have z16d:List.drop 16 (zr 16 (D.int .u8 0))=[]:=rfl
 have z16l:(zr 16 (D.int .u8 0)).length=16:=rfl
 by_cases c:t1=mg
 · have c':=eq_true c
   rw [decide_eq_true c,Bool.true_and]
   refine goS trivial ?_
   (refine zuj (nn hss (nn d1 (nn d2 (nn d3 (nn d4 (nn z16d (nn z16l c'))))))) (h1) (hd) (h2) (hm) ?_;(repeat' (with_reducible apply Br.mk<;>intro _)))
   (refine zgi (nn hss (nn d1 (nn d2 (nn d3 (nn d4 (nn z16d (nn z16l c'))))))) (h3) (hT) ?_;(repeat' (with_reducible apply Br.mk<;>intro _)))
   exact Fin.p rfl rfl
 · have c':=eq_false c
   rw [decide_eq_false c,Bool.false_and]
   refine goS trivial ?_
   (refine zuj (nn hss (nn d1 (nn d2 (nn d3 (nn d4 (nn z16d (nn z16l c'))))))) (h1) (hd) (h2) (hm) ?_;(repeat' (with_reducible apply Br.mk<;>intro _)))
   exact Fin.p rfl rfl
theorem zhy (s:Sec) (side slot:Nat) (hs:side<1000000) (hk:slot<1000000):zw Tryz.prog f_zz22 [eS s,eI side,eI slot] (·=.d (.bool (isF s side slot))):=by
 refine zh fol zz22_cp ?_
 have hss:=zj s
 have h1:=zcq s 0 16 (by decide) (by decide)
 have h2:=zcq s 24 56 (by decide) (by decide)
 have l1:=zas s (a:=0) (b:=16) (by decide)
 have l2:=zas s (a:=24) (b:=56) (by decide)
 have hd:=z4p (tx s 0 16++tx s 24 56) side slot (by rw [yk2Q,l1,l2];decide) hs hk
 have hdl:=zd6 (tx s 0 16++tx s 24 56) side slot
 have hT:=zw2 (zeb (tx s 0 16++tx s 24 56) side slot) hdl
 have hS:=z0h s
 have hF:isF s side slot=decide (z9u s=zeb (tx s 0 16++tx s 24 56) side slot):=rfl
 rw [hF]
 generalize zeb (tx s 0 16++tx s 24 56) side slot=h at *
 generalize tx s 0 16=t0 at *
 generalize tx s 24 56=t1 at *
 generalize z9u s=t2 at *
 obtain ⟨d1,d2,d3,d4⟩:=z1z hdl
 have z16d:List.drop 16 (zr 16 (D.int .u8 0))=[]:=rfl
 have z16l:(zr 16 (D.int .u8 0)).length=16:=rfl
 refine goS trivial ?_
 (refine zla (nn hss (nn l1 (nn l2 (nn d1 (nn d2 (nn d3 (nn d4 (nn z16d z16l)))))))) (h1) (h2) (hd) ?_;(repeat' (with_reducible apply Br.mk<;>intro _)))
 (refine zgi (nn hss (nn d1 (nn d2 (nn d3 d4)))) (hS) (hT) ?_;(repeat' (with_reducible apply Br.mk<;>intro _)))
 exact Fin.p rfl rfl
theorem z0i (a b:List (List UInt8)) (ha:a.length≤1000000) (hb:b.length≤1000000):zw Tryz.prog f_zz68 [.list (a.map .str),.list (b.map .str)] (·=.d (.bool (decide (a=b)))):=by
 refine zh fol zz68_cp ?_
 by_cases hl:a.length=b.length
 case neg =>
  have hl':((a.length:Int)=(b.length:Int))=False:=eq_false (by omega)
  rw [decide_eq_false (fun h=>hl (by rw [h]))]
  refine goS trivial ?_
  (refine goX hl' ?_;(repeat' (with_reducible apply Br.mk<;>intro _)))
  exact Fin.p rfl rfl
 have hl':((a.length:Int)=(b.length:Int))=True:=eq_true (by omega)
 refine goS trivial ?_
 (refine goX hl' ?_;(repeat' (with_reducible apply Br.mk<;>intro _)))
 refine W.loop (fun m st=>∃ k,k≤a.length∧m=a.length - k∧a.take k=b.take k ∧
  st=(E [(5,.d (eI k)),(1,.d (.list (b.map .str))),(0,.d (.list (a.map .str)))],HB [],[],noGh))
  ⟨_,_,zk9,0,by omega,rfl,rfl,rfl⟩ ?_
 rintro m st ⟨k,hk,rfl,ht,rfl⟩
 by_cases hk2:k=a.length
 · subst hk2
   have hkI:((a.length:Int)<(a.length:Int))=False:=eq_false (by omega)
   rw [List.take_length,hl,List.take_length] at ht
   rw [decide_eq_true ht]
   (refine goX hkI ?_;(repeat' (with_reducible apply Br.mk<;>intro _)))
   exact Fin.p rfl rfl
 · have hkI:((k:Int)<(a.length:Int))=True:=eq_true (by omega)
   have hka:k<a.length:=by omega
   have hkb:k<b.length:=by omega
   have ea:a.take (k+1)=a.take k++[a[k]]:=yldQ hka
   have eb:b.take (k+1)=b.take k++[b[k]]:=yldQ hkb
   by_cases c:a[k]=b[k]
   · have c':=eq_true c
     (refine goX (nn hkI c') ?_;(repeat' (with_reducible apply Br.mk<;>intro _)))
     refine ⟨_,_,?_,zk9,k+1,by omega,rfl,by rw [ea,eb,ht,c],rfl⟩
     omega
   · have c':=eq_false c
     rw [decide_eq_false (fun h=>c (by subst h;rfl))]
     (refine goX (nn hkI c') ?_;(repeat' (with_reducible apply Br.mk<;>intro _)))
     exact Fin.p rfl rfl
theorem z4q (n:Nat) (hn:n≤1000):zw Tryz.prog f_zz64 [eI n] (·=.d (.str (List.replicate n 0))):=by
 refine zw.of_deep (zm fol zz64_cp ?_)
 refine goS trivial ?_
 refine goR trivial ?_
 refine z2w ⟨by omega,by omega⟩ ?_
 refine zx fun b hb=>?_
 have er:rep n [D.int .u8 0]=(List.replicate n (0:UInt8)).map eB:=by
  rw [List.map_replicate]
  rw [rep,List.flatten_replicate_singleton];rfl
 have g1:gdD .b2s [.gs b 0 n n] (noGh.set b (some (rep n [D.int .u8 0])))=some (.d (.str (List.replicate n 0)),noGh.set b (some (rep n [D.int .u8 0]))):=by
  refine zmx (n:=n) (cs:=(List.replicate n (0:UInt8)).map eB) ?_ (zeo _)
  rw [er]
  have e:(noGh.set b (some ((List.replicate n (0:UInt8)).map eB))) b=some ((List.replicate n (0:UInt8)).map eB):=by simp [upd]
  simp only [zbn,e,yk3Q,ylgQ,ylsQ,yltQ,if_pos (Nat.le_refl _),List.drop_zero]
  rw [yk1Q (by simp)]
 have e0:((n:Int)).toNat=n:=yleQ n
 rw [e0]
 generalize noGh.set b (some (rep n [D.int .u8 0]))=G2 at g1 ⊢
 refine goS g1 ?_
 refine goR g1 ?_
 (apply Fin.eq;(focus (simp -dsimp (disch:=first|omega|(simp only [go_sem];omega)) only [go_sem,seval,Nat.reduceEqDiff,Nat.reduceLeDiff]<;>rfl)))
 exact ⟨rfl,_,.refl _,rfl⟩
