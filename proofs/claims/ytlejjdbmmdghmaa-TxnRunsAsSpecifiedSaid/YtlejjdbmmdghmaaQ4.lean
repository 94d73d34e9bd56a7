/-
 Layer 40 (txn): the specification's desk;what is pending.
 Conditions: of each contract as it says.
-/
import Derived.Test.YtlejjdbmmdghmaaQ2
import Derived.Test.YtlejjdbmmdghmaaQ1
import Derived.Test.YtlejjdbmmdghmaaX8
set_option linter.unusedSimpArgs false
namespace Go.Proofs.Ytlejjdbmmdghmaa
open Go Go.E2 C22 C40
set_option maxHeartbeats 4000000
theorem zvz (es:List D) (n:Int) (hs:es.length≤100000):zbc 1 8 (.own 1 es) (.list [.int .i64 n])=some (.own 1 (es++[.int .i64 n])):=by
 rw [zel 1 8 _ _ (by decide) (by rw [zo];simp only [List.length_cons,List.length_nil];omega)]
 rw [if_pos (by rfl)]
theorem zmr (r:RS) (hR:r.2.length≤1000):zba Try.prog f_zz9 [eRS r] (·=.d (.list ((r.2.map (·.1)).map eI))):=by
 refine zal fol zz9_cp ?_
 obtain ⟨V,ps⟩:=r
 simp only at hR
 have hallP:=zkh ps
 refine goS trivial ?_
 refine goR trivial ?_
 refine W.loop (fun z st=>∃ (k:Nat) (es:List D),z+k=ps.length∧es=((ps.take k).map (·.1)).map eI ∧
  st=(E [(1,.ptr 0 1 1 0),(3,.own 1 es),(4,.d (.int .i64 (k:Nat)))],HB [(1,⟨1,some [.list (V.map eVl),.list (ps.map ePr)]⟩)],[],zdi))
  ⟨_,_,zt rfl,0,[],rfl,rfl,rfl⟩ ?_
 rintro z st ⟨k,es,hk,hes,rfl⟩
 by_cases hlt:k<ps.length
 · have hlt':(k:Int)<(ps.length:Int):=by omega
   have htk:ps.take (k+1)=ps.take k++[ps[k]]:=by rw [List.take_add_one,List.getElem?_eq_getElem hlt];rfl
   have hes2:es++[.int .i64 ps[k].1]=((ps.take (k+1)).map (·.1)).map eI:=by rw [htk,hes,List.map_append,List.map_append];rfl
   have hap:=zvz es ps[k].1 (by rw [hes,List.length_map,List.length_map,List.length_take];omega)
   generalize es++[.int .i64 ps[k].1]=es2 at hap hes2
   (refine goX (nn hlt' (nn hallP hap)) ?_;(repeat' (with_reducible apply Br.mk<;>intro _)))
   exact ⟨z - 1,_,by omega,zt rfl,k+1,es2,by omega,hes2,rfl⟩
 · have hx:((k:Int)<(ps.length:Int))=False:=eq_false (by omega)
   rw [show k=ps.length by omega,List.take_length] at hes
   rw [← hes]
   (refine goX hx ?_;(repeat' (with_reducible apply Br.mk<;>intro _)))
   exact Fin.p rfl rfl
abbrev RD:=List Int×Int
abbrev eRD (d:RD):D:=.agg [.list (d.1.map eI),.int .i64 d.2]
abbrev eNt (e:Int) (d:RD):D:=.agg [.list (d.1.map eI),.int .i64 d.2,.int .i64 e]
theorem zkk (d:RD) (id:Int) (hR:d.1.length≤1000):zba Try.prog f_zz28 [eRD d,.int .i64 id] (·=.d (.bool (decide (id∈d.1)))):=by
 refine zal fol zz28_cp ?_
 obtain ⟨l,room⟩:=d
 simp only at hR
 have hall:=zkj l
 refine goS trivial ?_
 refine goR trivial ?_
 refine W.loop (fun z st=>∃ (k:Nat),z+k=l.length∧id ∉ l.take k ∧
  st=(E [(1,.d (.int .i64 id)),(2,.ptr 0 2 1 0),(5,.d (.int .i64 (k:Nat)))],HB [(2,⟨1,some [.list (l.map eI),.int .i64 room]⟩)],[],zdi))
  ⟨_,_,zt rfl,0,rfl,by simp,rfl⟩ ?_
 rintro z st ⟨k,hk,hno,rfl⟩
 by_cases hlt:k<l.length
 · have hlt':(k:Int)<(l.length:Int):=by omega
   have htk:l.take (k+1)=l.take k++[l[k]]:=by rw [List.take_add_one,List.getElem?_eq_getElem hlt];rfl
   by_cases he:l[k]=id
   · rw [decide_eq_true (show id∈l from he▸List.getElem_mem hlt)]
     (refine goX (nn hlt' (nn hall he)) ?_;(repeat' (with_reducible apply Br.mk<;>intro _)))
     exact Fin.p rfl rfl
   · (refine goX (nn hlt' (nn hall he)) ?_;(repeat' (with_reducible apply Br.mk<;>intro _)))
     refine ⟨z - 1,_,by omega,zt rfl,k+1,by omega,fun hm=>?_,rfl⟩
     rw [htk] at hm
     rcases List.mem_append.1 hm with hm|hm
     · exact hno hm
     · exact he (List.mem_singleton.1 hm).symm
 · have hx:((k:Int)<(l.length:Int))=False:=eq_false (by omega)
   rw [show k=l.length by omega,List.take_length] at hno
   rw [decide_eq_false hno]
   (refine goX hx ?_;(repeat' (with_reducible apply Br.mk<;>intro _)))
   exact Fin.p rfl rfl
def zib (d:RD) (id:Int):Int×RD:=if ¬ zb8 id then (1,d) else if id∈d.1 then (0,d) else if d.2≤d.1.length then (13,d) else (0,(d.1++[id],d.2))
theorem zv0 (d:RD) (id:Int) (hR:d.1.length≤1000):zba Try.prog f_zz14 [eRD d,.int .i64 id] (·=.d (eNt (zib d id).1 (zib d id).2)):=by
 refine zal fol zz14_cp ?_
 have hposs:=zfz id
 have hhas:=zkk d id hR
 obtain ⟨l,room⟩:=d
 simp only at hhas hR
 by_cases c1:zb8 id
 case neg =>
  have e:zib (l,room) id=(1,(l,room)):=if_pos c1
  rw [e]
  rw [decide_eq_false c1] at hposs
  refine goS trivial ?_
  (refine zb1 trivial (hposs) ?_;(repeat' (with_reducible apply Br.mk<;>intro _)))
  exact Fin.p rfl rfl
 rw [decide_eq_true c1] at hposs
 by_cases c2:id∈l
 · have e:zib (l,room) id=(0,(l,room)):=by unfold zib;rw [if_neg (fun h=>h c1),if_pos c2]
   rw [e]
   rw [decide_eq_true c2] at hhas
   refine goS trivial ?_
   (refine znq trivial (hposs) (hhas) ?_;(repeat' (with_reducible apply Br.mk<;>intro _)))
   exact Fin.p rfl rfl
 rw [decide_eq_false c2] at hhas
 by_cases c3:room≤l.length
 · have e:zib (l,room) id=(13,(l,room)):=by unfold zib;rw [if_neg (fun h=>h c1),if_neg c2,if_pos c3]
   rw [e]
   refine goS trivial ?_
   (refine znq c3 (hposs) (hhas) ?_;(repeat' (with_reducible apply Br.mk<;>intro _)))
   exact Fin.p rfl rfl
 · have e:zib (l,room) id=(0,(l++[id],room)):=by unfold zib;rw [if_neg (fun h=>h c1),if_neg c2,if_neg c3]
   rw [e]
   have c3':(room≤(l.length:Int))=False:=eq_false c3
   have hap1:zbc 1 8 (.own 1 []) (.list (l.map eI))=some (.own 1 (l.map eI)):=by
    rw [zel 1 8 _ _ (by decide) (by rw [zo,List.length_map];simp only [List.length_nil];omega),if_pos (zkj l)];rfl
   have hap2:=zvz (l.map eI) id (by rw [List.length_map];omega)
   refine goS trivial ?_
   (refine znq (nn c3' (nn hap1 hap2)) (hposs) (hhas) ?_;(repeat' (with_reducible apply Br.mk<;>intro _)))
   exact Fin.p rfl (by simp)
def zto (d:RD) (id:Int):Int×RD:=if ¬ zb8 id then (1,d) else (0,(d.1.filter fun x=>decide (x≠id),d.2))
theorem z1l (d:RD) (id:Int) (hR:d.1.length≤1000):zba Try.prog f_zz13 [eRD d,.int .i64 id] (·=.d (eNt (zto d id).1 (zto d id).2)):=by
 refine zba.of_deep (zap fol zz13_cp ?_)
 have hposs:=zfz id
 obtain ⟨l,room⟩:=d
 simp only at hR
 by_cases c1:zb8 id
 case neg =>
  have e:zto (l,room) id=(1,(l,room)):=if_pos c1
  rw [e]
  rw [decide_eq_false c1] at hposs
  refine goS trivial ?_
  (refine zb1 trivial (hposs) ?_;(repeat' (with_reducible apply Br.mk<;>intro _)))
  exact Fin.eq rfl ⟨rfl,_,.refl _,rfl⟩
 rw [decide_eq_true c1] at hposs
 have e:zto (l,room) id=(0,(l.filter fun x=>decide (x≠id),room)):=if_neg (fun h=>h c1)
 rw [e]
 have hall:=zkj l
 refine goS trivial ?_
 (refine zb1 trivial (hposs) ?_;(repeat' (with_reducible apply Br.mk<;>intro _)))
 refine W.loop (fun z st=>∃ (k:Nat) (x:D) (G:Gh),z+k=l.length∧GV 1 G x (((l.take k).filter fun x=>decide (x≠id)).map eI) ∧
  st=(E [(1,.d (.int .i64 id)),(2,.ptr 0 2 1 0),(4,.ptr 0 4 1 0),(6,.ptr 0 6 1 0),(7,.d (.int .i64 (k:Nat)))],HB [(2,⟨1,some [.list (l.map eI),.int .i64 room]⟩),(4,⟨1,some [.nilS,.int .i64 0,.int .i64 0]⟩),(6,⟨1,some [x,.int .i64 room]⟩)],[],G))
  ⟨_,_,zt rfl,0,.nilS,zdi,rfl,.nil,rfl⟩ ?_
 rintro z st ⟨k,x,G,hk,hv,rfl⟩
 by_cases hlt:k<l.length
 · have hlt':(k:Int)<(l.length:Int):=by omega
   have htk:(l.take (k+1)).filter (fun x=>decide (x≠id))=(l.take k).filter (fun x=>decide (x≠id))++if l[k]≠id then [l[k]] else []:=by
    rw [List.take_add_one,List.getElem?_eq_getElem hlt,List.filter_append]
    simp [List.filter_cons]
   have hle:((l.take k).filter (fun x=>decide (x≠id))).length≤k:=by
    have:=List.length_filter_le (fun x=>decide (x≠id)) (l.take k)
    rw [List.length_take] at this;omega
   by_cases he:l[k]=id
   · rw [if_neg (by simpa using he),List.append_nil] at htk
     rw [← htk] at hv
     (refine goX (nn hlt' (nn hall he)) ?_;(repeat' (with_reducible apply Br.mk<;>intro _)))
     exact ⟨z - 1,_,by omega,zt rfl,k+1,x,G,by omega,hv,rfl⟩
   · rw [if_pos he] at htk
     have hv0:=hv
     generalize hye:l[k]=y at he htk
     (refine goX (nn hlt' (nn hall (nn hye he))) ?_;(repeat' (with_reducible apply Br.mk<;>intro _)))
     refine za0 (es2:=[eI y]) (m:=1) hv0 (zav (es:=[eI y]) rfl) rfl rfl rfl (by rw [List.length_map,zo];omega) fun x2 G2 hv2 _=>?_
     rw [← List.map_singleton (f:=eI),← List.map_append,← htk] at hv2
     obtain ⟨bx2,n2,cap2,rfl⟩:∃ b n c,x2=.gs b 0 n c:=by
      obtain ⟨b,c,cs,h,_⟩:=hv2.inv (by rw [htk];simp)
      exact ⟨b,_,c,h⟩
     refine goS trivial ?_
     (refine goX trivial ?_;(repeat' (with_reducible apply Br.mk<;>intro _)))
     exact ⟨z - 1,_,by omega,zt rfl,k+1,_,G2,by omega,hv2,rfl⟩
 · have hx:((k:Int)<(l.length:Int))=False:=eq_false (by omega)
   rw [show k=l.length by omega,List.take_length] at hv
   rcases hv.shape with rfl|⟨bx,nx,cx,rfl⟩
   · (refine goX hx ?_;(repeat' (with_reducible apply Br.mk<;>intro _)))
     exact Fin.eq rfl ⟨rfl,_,.d _ _ (DRs.agg (DRs.cons hv.dr (DRs.cons (.refl _) (DRs.cons (.refl _) DRs.nil)))),rfl⟩
   · (refine goX hx ?_;(repeat' (with_reducible apply Br.mk<;>intro _)))
     exact Fin.eq rfl ⟨rfl,_,.d _ _ (DRs.agg (DRs.cons hv.dr (DRs.cons (.refl _) (DRs.cons (.refl _) DRs.nil)))),rfl⟩
theorem z1m (n:Nat) (hn:n≤1000):zba Try.prog f_zz29 [.int .i64 n] (·=.d (eRS (List.replicate n (0,[]),[]))):=by
 refine zba.of_deep (zap fol zz29_cp ?_)
 have e1:((n:Int)≤(n:Int)∧n * 24≤140737488355328)=True:=eq_true ⟨by omega,by omega⟩
 refine goS trivial ?_
 refine goR e1 ?_
 refine zam fun b hb=>?_
 refine goS trivial ?_
 (refine goX trivial ?_;(repeat' (with_reducible apply Br.mk<;>intro _)))
 have hrow:Row 2 n n ((List.replicate n ((0:Int),([]:Str))).map eVl) (Go.E2.rep n [.int .i64 0,.str []]):=by
  rw [zqz]
  have:=Row.mk' (sz:=2) (n:=n) (cap:=n) (es:=(List.replicate n ((0:Int),([]:Str))).map eVl) (rest:=[]) (by simp) (zkg _) (Nat.le_refl _) (by rw [List.append_nil,zw (zkg _),List.length_map,List.length_replicate];exact Nat.le_refl _)
  rw [List.append_nil,List.map_replicate] at this
  rw [List.map_replicate]
  exact this
 have hv:GV 2 (zdi.set b (some (Go.E2.rep n [.int .i64 0,.str []]))) (.gs b 0 n n) ((List.replicate n ((0:Int),([]:Str))).map eVl):=GV.mk (by simp [Gh.set_c,upd]) hrow
 exact Fin.eq rfl ⟨rfl,_,.d _ _ (DRs.agg (DRs.cons hv.dr (DRs.cons .nil DRs.nil))),rfl⟩
end Go.Proofs.Ytlejjdbmmdghmaa
namespace Go.Proofs.Ytlejjdbmmdghmaa
open Go Go.E2 C22 C40
theorem zyl {m:List (Int×Wr)} {id:Int} {w:Wr} (h:zbo m id=none) (p:Int×Wr):p∈zjz m id w↔p=(id,w)∨p∈m:=by
 have:=zjt (m:=m) id w
 rw [ze7 h] at this
 rw [this.mem_iff,List.mem_cons]
theorem zro {n:Nat} {c:List Str} {ws:List (Int×Wr)} {id:Int} {l:List Tw} (h:prepE n c ws id l=0) :
 1≤id∧id≤1099511627776∧Rgt n l∧zbo ws id=none∧l.any (zez ws)=false∧stale n c l=false∧za1 n ws<4:=by
 unfold prepE at h
 by_cases c1:id<1∨1099511627776<id∨¬ Rgt n l
 · rw [if_pos c1] at h;simp at h
 rw [if_neg c1] at h
 by_cases c2:(zbo ws id).isSome
 · rw [if_pos c2] at h;simp at h
 rw [if_neg c2] at h
 by_cases c3:l.any (zez ws)=true
 · rw [if_pos c3] at h;simp at h
 rw [if_neg c3] at h
 by_cases c4:stale n c l=true
 · rw [if_pos c4] at h;simp at h
 rw [if_neg c4] at h
 by_cases c5:za1 n ws=4
 · rw [if_pos c5] at h;simp at h
 have:=zr1 n ws
 refine ⟨by omega,by omega,Classical.byContradiction fun h'=>c1 (.inr (.inr h')),by simpa using c2,by simpa using c3,by simpa using c4,by omega⟩
theorem zic {ws:List (Int×Wr)} {l:List Tw} (h:l.any (zez ws)=false) {x:Tw} (hx:x∈l) {p:Int×Wr} (hp:p∈ws) {y:Tw} (hy:y∈p.2.l) (e:y.key=x.key):y.rd=true∧x.rd=true:=by
 rw [List.any_eq_false] at h
 have h1:=h x hx
 unfold zez at h1
 rw [Bool.not_eq_true,List.any_eq_false] at h1
 have h2:=h1 p hp
 rw [Bool.not_eq_true,List.any_eq_false] at h2
 have h3:=h2 y hy
 unfold zfm at h3
 rw [decide_eq_true e] at h3
 revert h3
 cases y.rd<;>cases x.rd<;>simp
theorem zhi.prep {n:Nat} {c:List Str} {ws:List (Int×Wr)} {V:List Vl} (h:zhi n c ws V) {id:Int} {l:List Tw} (he:prepE n c ws id l=0) :
 zhi n (zif n c ws id.toNat l) (zou n ws id l) V:=by
 obtain ⟨i1,i2,hr,hn,hh,hst,hf⟩:=zro he
 obtain ⟨r1,r2,r3,r4⟩:=hr
 have hl:=h.len
 have hm:=fun p=>zyl (w:=⟨((2 * n+za1 n ws:Nat):Int),l⟩) hn p
 have hus:∀ p∈ws,p.2.slot≠((2 * n+za1 n ws:Nat):Int):=fun p hp hs=>by
  have:=zr2 h.ins
  unfold zhl at this
  rw [List.any_eq_false] at this
  exact this p hp (by rw [decide_eq_true_eq];exact hs)
 have hs1:sl (zif n c ws id.toNat l) (2 * n+za1 n ws)=zdc id.toNat 1 l:=by
  unfold zif;rw [zp3 (by rw [zhm];omega)]
 have hs2:∀ j,j≠2 * n+za1 n ws→sl (zif n c ws id.toNat l) j=sl (zc3 id.toNat l c) j:=fun j hj=>by
  unfold zif;rw [zhh (fun e=>hj e.symm)]
 have hs3:∀ j,j≠2 * n+za1 n ws→(∀ x∈l,x.rd=false→2 * x.key.toNat+1≠j)→sl (zif n c ws id.toNat l) j=sl c j:=fun j hj hx=>by
  rw [hs2 j hj,zgp _ _ _ _ hx]
 have hk:∀ x∈l,0≤x.key∧x.key<n:=fun x hx=>⟨(r1 x hx).1,(r1 x hx).2.1⟩
 refine ⟨h.n1,h.n16,by unfold zif;rw [List.length_set,zhm,hl],h.vlen,h.vok,fun k hkn=>?_,zhy h.wsn _ _,?_,?_,?_,?_,?_,?_,?_,?_,?_,?_⟩
 · rw [hs3 _ (by omega) (fun x hx _=>by omega)];exact h.vals k hkn
 · intro p hp
   rcases (hm p).1 hp with rfl|hp
   · exact ⟨i1,i2⟩
   · exact h.ids p hp
 · intro p hp
   rcases (hm p).1 hp with rfl|hp
   · exact ⟨r1,r2,r3,r4⟩
   · exact h.rgt p hp
 · intro p hp
   rcases (hm p).1 hp with rfl|hp
   · simp only;omega
   · exact h.ins p hp
 · intro p hp p' hp' e
   rcases (hm p).1 hp with rfl|hp<;>rcases (hm p').1 hp' with rfl|hp'
   · rfl
   · exact absurd e.symm (hus p' hp')
   · exact absurd e (hus p hp)
   · exact h.dif p hp p' hp' e
 · intro p hp
   rcases (hm p).1 hp with rfl|hp
   · exact hs1
   · have hi:=h.ins p hp
     have hu:=hus p hp
     rw [hs3 _ (by omega) (fun x hx _=>by have:=hk x hx;omega)]
     exact h.note p hp
 · intro t ht hfr
   have h1:=hfr _ ((hm _).2 (.inl rfl))
   simp only at h1
   rw [hs3 _ (by omega) (fun x hx _=>by have:=hk x hx;omega)]
   exact h.free t ht fun p hp=>hfr p ((hm p).2 (.inr hp))
 · intro p hp x hx hxr
   rcases (hm p).1 hp with rfl|hp
   · have:=hk x hx
     rw [hs2 _ (by omega)]
     exact zri _ _ _ r2 (fun y hy=>(hk y hy).1) x hx hxr (by omega)
   · have h1:=(h.rgt p hp).1 x hx
     rw [hs3 _ (by have:=h1.1;have:=h1.2.1;omega) (fun y hy hyr e=>by
      have h2:=hk y hy
      have h3:=zic hh hy hp hx (by have:=h1.1;omega)
      rw [hyr] at h3;simp at h3)]
     exact h.pend p hp x hx hxr
 · intro k hkn hno
   rw [hs3 _ (by omega) (fun x hx hxr e=>by
    have h2:=hk x hx
    exact hno _ ((hm _).2 (.inl rfl)) x hx hxr (by omega))]
   exact h.none k hkn fun p hp=>hno p ((hm p).2 (.inr hp))
 · intro p hp x hx
   rcases (hm p).1 hp with rfl|hp
   · have h2:=hk x hx
     unfold stale at hst
     rw [List.any_eq_false] at hst
     have h3:=hst x hx
     rw [h.getR,if_neg (by omega)] at h3
     simpa using h3
   · exact h.ver p hp x hx
 · intro p hp p' hp' hne x hx y hy e
   rcases (hm p).1 hp with rfl|hp<;>rcases (hm p').1 hp' with rfl|hp'
   · exact absurd rfl hne
   · exact (zic hh hx hp' hy e.symm).symm
   · exact zic hh hy hp hx e
   · exact h.lock p hp p' hp' hne x hx y hy e
theorem zhi.dec {n:Nat} {c:List Str} {ws:List (Int×Wr)} {V:List Vl} (h:zhi n c ws V) {id:Int} {w:Wr} (hg:zbo ws id=some w) (commit:Bool) :
 zhi n (zkv commit id.toNat w.slot.toNat w.l c) (mdel ws id) (if commit then zis w.l V else V):=by
 have hp0:=zi3 hg
 have hi0:=h.ids _ hp0
 have hs0:=h.ins _ hp0
 obtain ⟨r1,r2,r3,r4⟩:=h.rgt _ hp0
 simp only at hi0 hs0 r1 r2 r3 r4
 have hl:=h.len
 have hk:∀ x∈w.l,0≤x.key∧x.key<n:=fun x hx=>⟨(r1 x hx).1,(r1 x hx).2.1⟩
 have hm:=fun p=>zi2 h.wsn (a:=id) (p:=p)
 have hpd:=h.pend _ hp0
 simp only at hpd
 -- what the slots are
 have hlen:(zkv commit id.toNat w.slot.toNat w.l c).length=2 * n+4:=by
  unfold zkv;cases commit
  · rw [if_neg (by simp),zku,List.length_set,hl]
  · rw [if_pos rfl,List.length_set,zmn,List.length_set,hl]
 have hslot:sl (zkv commit id.toNat w.slot.toNat w.l c) w.slot.toNat=[]:=by
  unfold zkv;cases commit
  · rw [if_neg (by simp),zes _ _ _ (fun x hx _=>by have:=hk x hx;omega),zp3 (by omega)]
  · rw [if_pos rfl,zp3 (by rw [zmn,List.length_set];omega)]
 have hoth:∀ j,j≠w.slot.toNat→(∀ x∈w.l,x.rd=false→2 * x.key.toNat+1≠j∧2 * x.key.toNat≠j)→sl (zkv commit id.toNat w.slot.toNat w.l c) j=sl c j:=fun j hj hx=>by
  unfold zkv;cases commit
  · rw [if_neg (by simp),zes _ _ _ (fun x hx' hr=>(hx x hx' hr).1),zhh (fun e=>hj e.symm)]
  · rw [if_pos rfl,zhh (fun e=>hj e.symm),zh9 _ _ _ _ hx,zhh (fun e=>hj e.symm)]
 have hodd:∀ x∈w.l,x.rd=false→sl (zkv commit id.toNat w.slot.toNat w.l c) (2 * x.key.toNat+1)=[]:=fun x hx hr=>by
  have hkx:=hk x hx
  unfold zkv;cases commit
  · rw [if_neg (by simp),zrj _ _ x hx hr (by rw [List.length_set];omega)]
  · rw [if_pos rfl,zhh (by omega)]
    refine (zp4 (by omega) w.l _ r2 (fun y hy=>(hk y hy).1) (fun y hy hyr=>?_) x hx hr).2
    have:=hk y hy
    rw [List.length_set,zhh (by omega)]
    exact ⟨by omega,hpd y hy hyr⟩
 have heven:∀ x∈w.l,x.rd=false→sl (zkv commit id.toNat w.slot.toNat w.l c) (2 * x.key.toNat)=if commit then zeg (x.ver.toNat+1)++x.val else sl c (2 * x.key.toNat):=fun x hx hr=>by
  have hkx:=hk x hx
  cases commit
  · unfold zkv
    rw [if_neg (by simp),if_neg (by simp),zes _ _ _ (fun y hy _=>by omega),zhh (by omega)]
  · unfold zkv
    rw [if_pos rfl,if_pos rfl,zhh (by omega)]
    refine (zp4 (by omega) w.l _ r2 (fun y hy=>(hk y hy).1) (fun y hy hyr=>?_) x hx hr).1
    have:=hk y hy
    rw [List.length_set,zhh (by omega)]
    exact ⟨by omega,hpd y hy hyr⟩
 -- what the values are
 have hv1:∀ k,(∀ x∈w.l,x.rd=false→x.key.toNat≠k)→vl (if commit then zis w.l V else V) k=vl V k:=fun k hx=>by
  cases commit
  · rfl
  · exact zia _ _ _ hx
 have hv2:∀ x∈w.l,x.rd=false→vl (if commit then zis w.l V else V) x.key.toNat=if commit then (x.ver+1,x.val) else vl V x.key.toNat:=fun x hx hr=>by
  cases commit
  · rfl
  · have:=hk x hx
    have hvl:=h.vlen
    exact zvw _ _ r2 (fun y hy=>(hk y hy).1) x hx hr (by omega)
 have hex:∀ k,(∀ x∈w.l,x.rd=false→x.key.toNat≠k)∨∃ x∈w.l,x.rd=false∧x.key.toNat=k:=fun k=>by
  by_cases h1:∃ x∈w.l,x.rd=false∧x.key.toNat=k
  · exact .inr h1
  · exact .inl fun x hx hr hk=>h1 ⟨x,hx,hr,hk⟩
 have hdif:∀ p∈ws,p.1≠id→p.2.slot≠w.slot:=fun p hp hne e=>hne (h.dif p hp _ hp0 e)
 refine ⟨h.n1,h.n16,hlen,?_,fun k hkn=>?_,fun k hkn=>?_,zft h.wsn _,?_,?_,?_,?_,?_,?_,?_,?_,?_,?_⟩
 · cases commit
   · exact h.vlen
   · exact (zmo _ _).trans h.vlen
 · rcases hex k with h1|⟨x,hx,hr,rfl⟩
   · rw [hv1 k h1];exact h.vok k hkn
   · rw [hv2 x hx hr]
     cases commit
     · exact h.vok _ hkn
     · obtain ⟨o1,o2,o3,o4,o5,_⟩:=r1 x hx
       exact .inr ⟨by show 1≤x.ver+1;omega,by show x.ver+1≤_;omega,o5⟩
 · rcases hex k with h1|⟨x,hx,hr,rfl⟩
   · rw [hv1 k h1,hoth _ (by omega) (fun x hx hr=>by have:=h1 x hx hr;constructor<;>omega)]
     exact h.vals k hkn
   · rw [hv2 x hx hr,heven x hx hr]
     cases commit
     · exact h.vals _ hkn
     · obtain ⟨o1,o2,o3,o4,o5,_⟩:=r1 x hx
       unfold eV
       simp only [if_true]
       rw [if_neg (by omega),show (x.ver+1).toNat=x.ver.toNat+1 by omega]
 · exact fun p hp=>h.ids p ((hm p).1 hp).1
 · exact fun p hp=>h.rgt p ((hm p).1 hp).1
 · exact fun p hp=>h.ins p ((hm p).1 hp).1
 · exact fun p hp p' hp'=>h.dif p ((hm p).1 hp).1 p' ((hm p').1 hp').1
 · intro p hp
   obtain ⟨hp,hne⟩:=(hm p).1 hp
   have hi:=h.ins p hp
   have hd:=hdif p hp hne
   rw [hoth _ (by omega) (fun x hx _=>by have:=hk x hx;constructor<;>omega)]
   exact h.note p hp
 · intro t ht hfr
   by_cases e:2 * n+t=w.slot.toNat
   · rw [e];exact hslot
   · rw [hoth _ e (fun x hx _=>by have:=hk x hx;constructor<;>omega)]
     refine h.free t ht fun p hp=>?_
     by_cases e2:p.1=id
     · have:zbo ws p.1=some p.2:=zem h.wsn hp
       rw [e2,hg] at this
       have:=Option.some.inj this
       rw [← this];omega
     · exact hfr p ((hm p).2 ⟨hp,e2⟩)
 · intro p hp x hx hr
   obtain ⟨hp,hne⟩:=(hm p).1 hp
   have h1:=(h.rgt p hp).1 x hx
   rw [hoth _ (by have:=h1.1;have:=h1.2.1;omega) (fun y hy hyr=>by
    have h2:=hk y hy
    have h3:y.key≠x.key:=fun e=>by
     have:=(h.lock p hp _ hp0 hne x hx y hy e.symm).1
     rw [hr] at this;simp at this
    have:=h1.1
    constructor<;>omega)]
   exact h.pend p hp x hx hr
 · intro k hkn hno
   rcases hex k with h1|⟨x,hx,hr,rfl⟩
   · rw [hoth _ (by omega) (fun x hx hr=>by have:=h1 x hx hr;constructor<;>omega)]
     refine h.none k hkn fun p hp x hx hr=>?_
     by_cases e2:p.1=id
     · have:zbo ws p.1=some p.2:=zem h.wsn hp
       rw [e2,hg] at this
       have:=Option.some.inj this
       rw [← this] at hx
       have h2:=h1 x hx hr
       have:=hk x hx
       omega
     · exact hno p ((hm p).2 ⟨hp,e2⟩) x hx hr
   · exact hodd x hx hr
 · intro p hp x hx
   obtain ⟨hp,hne⟩:=(hm p).1 hp
   have h1:=(h.rgt p hp).1 x hx
   rw [hv1 _ (fun y hy hyr e=>by
    have h2:=hk y hy
    have:=(h.lock p hp _ hp0 hne x hx y hy (by have:=h1.1;omega)).2
    rw [hyr] at this;simp at this)]
   exact h.ver p hp x hx
 · exact fun p hp p' hp'=>h.lock p ((hm p).1 hp).1 p' ((hm p').1 hp').1
end Go.Proofs.Ytlejjdbmmdghmaa
namespace Go.Proofs.Ytlejjdbmmdghmaa
open Go Go.E2 C22 C40
set_option maxHeartbeats 1000000
theorem zkl {l l':List Int} (h:l.Perm l'):zco l=zco l':=by
 have s:∀ l:List Int,(zco l).Pairwise (·≤·):=fun l=>by
  have:=List.pairwise_mergeSort (le:=fun x y:Int=>decide (x≤y)) (by intro a b c;simp;omega) (by intro a b;simp;omega) l
  exact this.imp (by simp)
 have p:∀ l:List Int,(zco l).Perm l:=fun l=>List.mergeSort_perm _ _
 exact (((p l).trans h).trans (p l').symm).eq_of_pairwise (le:=(·≤·)) (fun a b _ _ h1 h2=>by omega) (s l) (s l')
theorem zci {α:Type} [BEq α] [LawfulBEq α]:∀ {l l':List α},l.Nodup→l ⊆ l'→l.length≤l'.length
 | [],_,_,_=>by simp
 | a::l,l',hn,hs=>by
   rw [List.nodup_cons] at hn
   have ha:a∈l':=hs List.mem_cons_self
   have ih:=zci (l':=l'.erase a) hn.2 fun x hx=>(List.mem_erase_of_ne (fun (e:x=a)=>hn.1 (by rw [← e];exact hx))).2 (hs (List.mem_cons_of_mem _ hx))
   rw [List.length_erase_of_mem ha] at ih
   have:=List.length_pos_of_mem ha
   simp only [List.length_cons]
   omega
def zd5 (ws:List (Int×Wr)):List Int:=zco (ws.map (·.1))
theorem zf1 (sb n:Nat) (m:Int) (c:List Str) (ws:List (Int×Wr)) (hc:Shp n c) (hm:m≤500000000) (hw:ws.length≤1000) :
 zy Try.prog f_zz34 [.gp sb 0] [zee sb n m c ws] (fun r post=>∃ x,r=.tup [x,.int .i64 0]∧post=[zee sb n m c ws,SlA 1 x ((zd5 ws).map eI)]):=by
 refine zg fol zz34_cp fun R G σ hs=>?_
 have hget:=zrx sb n m c ws (by omega) hc.n16 hc.len (fun b hb=>by have:=hc.fit b hb;omega) 0
 have he0:=hc.get (k:=0) (by omega) (by have:=hc.n1;omega)
 refine goS trivial ?_
 refine goR trivial ?_
 (refine goM (hget) (hs) ?_)
 rintro _ _ G1 ⟨rfl,rfl⟩ h1
 rw [he0]
 obtain ⟨q,mr,h2⟩:=Sep.sit h1
 have h2:Sep (SiA sb q mr n::zaw q m c::MwA mr ws::R) G1:=h2
 have hg:=Sep.get (b:=sb) (cs:=[eSt q,.int .i64 n,.mref mr]) h2
 refine goS trivial ?_
 (refine goX hg ?_;(repeat' (with_reducible apply Br.mk<;>intro _)))
 have h3:Sep (MwA mr ws::SiA sb q mr n::zaw q m c::R) G1:=h2.perm pp
 refine zl6 (Sep.map h3) fun it X hit hr=>?_
 have h4:=Sep.rngNew h3 hit hr
 generalize G1.setM it (some X)=G2 at h4 ⊢
 refine goS trivial ?_
 refine goR trivial ?_
 refine W.loop (fun z st=>∃ (sn:List Int) (x:D) (b4:Blk) (G:Gh),z=(ws.filter fun p=>decide (p.1 ∉ sn)).length∧sn.Nodup∧(∀ i∈sn,i∈ws.map (·.1)) ∧
  Sep (SlA 1 x (sn.map eI)::ztj [.i] eI eWr mr it ws sn::SiA sb q mr n::zaw q m c::R) G ∧
  st=(E [(6,.d x),(20,.d (.gp it 0))],HB [(4,b4)],σ,G))
  ⟨_,_,zt rfl,[],.nilS,_,G2,rfl,by simp,by simp,Sep.slNil h4,rfl⟩ ?_
 rintro z st ⟨sn,x,b4,G3,rfl,hsn,hsk,h5,rfl⟩
 have hnd:(ws.map (·.1)).Nodup:=(Sep.rngl h5.tail).nodup
 have hlen:=zci hsn hsk
 rw [List.length_map] at hlen
 have hv:=Sep.gv h5
 refine goR trivial ?_
 refine zl7 (Sep.rngl h5.tail) (fun hall=>?_) (fun a v X' hav hns hr' hent=>?_)
 · have hperm:sn.Perm (ws.map (·.1)):=(List.perm_ext_iff_of_nodup hsn hnd).2 fun i=>⟨fun h=>hsk i h,fun h=>by
    obtain ⟨p,hp,rfl⟩:=List.mem_map.1 h
    exact hall p hp⟩
   have hso:zco sn=zd5 ws:=zkl hperm
   have h6:Sep (MwA mr ws::SlA 1 x (sn.map eI)::SiA sb q mr n::zaw q m c::R) G3:=(Sep.rngEnd h5.swap)
   have h7:Sep (SlA 1 x (sn.map eI)::SiA sb q mr n::zaw q m c::MwA mr ws::R) G3:=h6.perm pp
   refine goS trivial ?_
   refine goR trivial ?_
   (refine goM (z1k x sn (by omega)) (h7) ?_)
   rintro _ _ G4 rfl h8
   rw [hso] at h8
   have h8:Sep (SlA 1 x ((zd5 ws).map eI)::SiA sb q mr n::zaw q m c::MwA mr ws::R) G4:=h8
   have h9:Sep (SiA sb q mr n::zaw q m c::MwA mr ws::SlA 1 x ((zd5 ws).map eI)::R) G4:=h8.perm pp
   refine goS trivial ?_
   (refine goX trivial ?_;(repeat' (with_reducible apply Br.mk<;>intro _)))
   exact Fin.eq rfl ⟨rfl,_,⟨x,rfl,rfl⟩,Sep.of_sit h9⟩
 · have h6:Sep (SlA 1 x (sn.map eI)::ztj [.i] eI eWr mr it ws (sn++[a])::SiA sb q mr n::zaw q m c::R) (G3.setM it (some X')):=(Sep.rngSet (.inr rfl) h5.swap hr').swap
   generalize G3.setM it (some X')=G4 at h6 hent ⊢
   have hv2:=Sep.gv h6
   have hal:a∈ws.map (·.1):=List.mem_map.2 ⟨_,hav,rfl⟩
   have hsn':(sn++[a]).Nodup:=by
    rw [List.nodup_append]
    exact ⟨hsn,by simp,fun x hx y hy=>by rw [List.mem_singleton] at hy;subst hy;exact fun e=>hns (e▸hx)⟩
   refine goS trivial ?_
   refine goR hent ?_
   refine za0 (es2:=[eI a]) (m:=1) hv2 (zav (es:=[eI a]) rfl) rfl rfl rfl (by rw [List.length_map,zo];omega) fun x' G5 hv3 hto=>?_
   refine goS trivial ?_
   refine goR trivial ?_
   have h7:=h6.grow hto (by rw [← List.map_singleton (f:=eI),← List.map_append] at hv3;exact hv3)
   refine ⟨_,_,zks hav hns,zt rfl,sn++[a],x',_,G5,rfl,hsn',fun i hi=>?_,h7,rfl⟩
   rcases List.mem_append.1 hi with hi|hi
   · exact hsk i hi
   · rw [List.mem_singleton] at hi;subst hi;exact hal
end Go.Proofs.Ytlejjdbmmdghmaa
namespace Go.Proofs.Ytlejjdbmmdghmaa
open Go Go.E2 C22 C40
abbrev SS:=List Str×List (Int×Wr)
abbrev zj (sb n:Nat) (m:Int) (s:SS):As:=zee sb n m s.1 s.2
abbrev zc1 (n:Nat) (s:SS) (V:List Vl):Prop:=zhi n s.1 s.2 V
def prepS (n:Nat) (id:Int) (l:List Tw) (s:SS):SS:=if prepE n s.1 s.2 id l=0 then (zif n s.1 s.2 id.toNat l,zou n s.2 id l) else s
def zfl (id:Int) (commit:Bool) (s:SS):SS:=decS s.1 s.2 id commit
def z76 (id:Int) (commit:Bool) (s:SS) (V:List Vl):List Vl :=
 if zb8 id then (match zbo s.2 id with|none=>V|some w=>if commit then zis w.l V else V) else V
theorem z1n {sb n:Nat} {m:Int} {s:SS} {V:List Vl} (g:zc1 n s V) (hm:m≤390000000) (id:Int) (l:List Tw) (hL:l.length≤9223372036854775807) :
 zy Try.prog f_zz35 [.gp sb 0,.int .i64 id,eL l] [zj sb n m s] (fun r post=>r=.d (.int .i64 (prepE n s.1 s.2 id l))∧post=[zj sb n (m+200) (prepS n id l s)]):=by
 have h:=ztg sb n m s.1 s.2 g.shp g.short g.ins (by omega) id l hL
 have e:zj sb n (m+200) (prepS n id l s)=zee sb n (m+200) (if prepE n s.1 s.2 id l=0 then zif n s.1 s.2 id.toNat l else s.1) (if prepE n s.1 s.2 id l=0 then zou n s.2 id l else s.2):=by
  unfold prepS zj;split<;>rfl
 rw [e]
 exact h
theorem z5r {sb n:Nat} {m:Int} {s:SS} {V:List Vl} (g:zc1 n s V) (hm:m≤390000000) (id:Int) (commit:Bool) :
 zy Try.prog f_zz44 [.gp sb 0,.int .i64 id,.bool commit] [zj sb n m s] (fun r post=>r=.d (.int .i64 (zwt id))∧post=[zj sb n (m+400) (zfl id commit s)]) :=
 zwu sb n m s.1 s.2 g.odd (by omega) id commit fun w hw=>g.wrOk id w hw
theorem zhi.prepS {n:Nat} {s:SS} {V:List Vl} (g:zc1 n s V) (id:Int) (l:List Tw):zc1 n (prepS n id l s) V:=by
 unfold Ytlejjdbmmdghmaa.prepS
 split
 · rename_i h;exact g.prep h
 · exact g
theorem zp6 (id:Int):zwt id=if zb8 id then 0 else 1:=by
 unfold zwt
 by_cases h:id<1∨1099511627776<id
 · rw [if_pos h,if_neg (by unfold zb8;omega)]
 · rw [if_neg h,if_pos (by unfold zb8;omega)]
theorem zms (c:List Str) (ws:List (Int×Wr)) (id:Int) (commit:Bool):decS c ws id commit=if zb8 id then (match zbo ws id with|none=>(c,ws)|some w=>(zkv commit id.toNat w.slot.toNat w.l c,mdel ws id)) else (c,ws):=by
 unfold decS
 by_cases h:id<1∨1099511627776<id
 · rw [if_pos h,if_neg (by unfold zb8;omega)]
 · rw [if_neg h,if_pos (by unfold zb8;omega)]
   cases zbo ws id<;>rfl
theorem zhi.decS {n:Nat} {s:SS} {V:List Vl} (g:zc1 n s V) (id:Int) (commit:Bool):zc1 n (zfl id commit s) (z76 id commit s V):=by
 unfold zfl z76
 rw [zms]
 by_cases h:zb8 id
 · rw [if_pos h,if_pos h]
   cases hg:zbo s.2 id with
   | none=>exact g
   | some w=>exact g.dec hg commit
 · rw [if_neg h,if_neg h];exact g
def zk8 (l:List Tw) (id:Int) (s:SS):Int:=if l=[] then 0 else prepE 2 s.1 s.2 id l
def prpS (l:List Tw) (id:Int) (s:SS):SS:=if l=[] then s else prepS 2 id l s
def dcS (l:List Tw) (id:Int) (commit:Bool) (s:SS):SS:=if l=[] then s else zfl id commit s
structure RunR where
 is:Bool
 e:Int
 dc:List Str
 s0:SS
 s1:SS
def zit (dc:List Str) (s0 s1:SS) (id:Int) (l0 l1:List Tw):RunR :=
 if (l0=[]∧l1=[])∨¬ zb8 id then ⟨false,1,dc,s0,s1⟩ else
 if zix dc id=true then ⟨false,9,dc,s0,s1⟩ else
 if zk8 l0 id s0≠0 then ⟨false,zk8 l0 id s0,dc,s0,s1⟩ else
 if zk8 l1 id s1≠0 then ⟨false,zk8 l1 id s1,dc,dcS l0 id false (prpS l0 id s0),s1⟩ else
 if recE dc id≠0 then ⟨false,recE dc id,dc,prpS l0 id s0,prpS l1 id s1⟩ else
 ⟨true,0,zqe (zho dc id) id,dcS l0 id true (prpS l0 id s0),dcS l1 id true (prpS l1 id s1)⟩
theorem z1o {dc:List Str} {id:Int} (h:recE dc id≠0):zho dc id=dc:=by
 unfold recE at h
 unfold zho
 by_cases h1:¬ zb8 id
 · rw [if_pos h1]
 rw [if_neg h1] at h ⊢
 by_cases h2:0≤fdI id dc 0
 · rw [if_pos h2]
 rw [if_neg h2] at h ⊢
 by_cases h3:fdI 0 dc 0<0
 · rw [if_pos h3]
 · rw [if_neg h3] at h;exact absurd rfl h
theorem DOk.rec {dc:List Str} (h:DOk dc) (id:Int):DOk (zho dc id):=by
 unfold zho
 split
 · exact h
 · split
   · exact h
   · split
     · exact h
     · refine ⟨by rw [List.length_set];exact h.1,fun b hb=>?_⟩
       rcases zkt hb with rfl|hb
       · exact .inr (za4 _)
       · exact h.2 b hb
theorem DOk.for {dc:List Str} (h:DOk dc) (id:Int):DOk (zqe dc id):=by
 unfold zqe
 split
 · refine ⟨by rw [List.length_set];exact h.1,fun b hb=>?_⟩
   rcases zkt hb with rfl|hb
   · exact .inl rfl
   · exact h.2 b hb
 · exact h
theorem zc1.prpS {s:SS} {V:List Vl} (g:zc1 2 s V) (l:List Tw) (id:Int):zc1 2 (prpS l id s) V:=by
 unfold Ytlejjdbmmdghmaa.prpS
 split
 · exact g
 · exact g.prepS id l
theorem zc1.dcS {s:SS} {V:List Vl} (g:zc1 2 s V) (l:List Tw) (id:Int) (commit:Bool):∃ V',zc1 2 (dcS l id commit s) V':=by
 unfold Ytlejjdbmmdghmaa.dcS
 split
 · exact ⟨_,g⟩
 · exact ⟨_,g.decS id commit⟩
end Go.Proofs.Ytlejjdbmmdghmaa
namespace Go.Proofs.Ytlejjdbmmdghmaa
open Go Go.E2 C22 C40
set_option maxHeartbeats 1000000
theorem zym (sb q mr n:Nat) (m:Int) (c:List Str) (hm:m≤600000000) (s:Nat) (hs:s<c.length) (he:c[s]=[]) :
 zy Try.prog f_zz55 [.gp sb 0,.int .i64 s] [SiA sb q mr n,zaw q m c] (fun r post=>r=.d (.int .i64 0)∧post=[SiA sb q mr n,zaw q m c]):=by
 refine zg fol zz55_cp fun R G σ h1=>?_
 have h1:Sep (SiA sb q mr n::zaw q m c::R) G:=h1
 have hg:=Sep.get (b:=sb) (cs:=[eSt q,.int .i64 n,.mref mr]) h1
 have h2:=h1.swap
 have hread:=zgq q m c hm s hs (by rw [he];simp) 7
 rw [he] at hread
 refine goS trivial ?_
 refine goR hg ?_
 (refine goM (hread) (h2) ?_)
 rintro _ _ G1 ⟨rfl,rfl⟩ h3
 have h3:Sep (zaw q m c::SiA sb q mr n::R) G1:=h3
 have h4:Sep ([SiA sb q mr n,zaw q m c]++R) G1:=h3.swap
 have e1:rd1 [] 7=([],0):=by unfold rd1;rw [if_pos rfl]
 rw [e1]
 refine goS trivial ?_
 (refine goX trivial ?_;(repeat' (with_reducible apply Br.mk<;>intro _)))
 exact Fin.eq rfl ⟨rfl,_,⟨rfl,rfl⟩,h4⟩
theorem zrp (p:Nat) (d:Dk) (m:Int) (n:Nat) (hd:SlD d m (List.replicate (2 * n+4) [])) (hm:m≤500000000) (h1:1≤n) (h2:n≤16) :
 zy Try.prog f_zz70 [.gp p 0,.int .i64 0,.int .i64 n] [zp p d] (fun r post=>∃ sb,r=.tup [.gp sb 0,.int .i64 0]∧post=[zee sb n m (List.replicate (2 * n+4) []) []]):=by
 refine zg fol zz70_cp fun R G σ hs=>?_
 have c1:((n:Int)<1)=False:=eq_false (by omega)
 have c2:((16:Int)<(n:Int))=False:=eq_false (by omega)
 have e1:(2:Int) * (n:Int)=((2 * n:Nat):Int):=by omega
 have e2:((2 * n:Nat):Int)+4=((2 * n+4:Nat):Int):=by omega
 have hop:=ziw p d m _ hd hm (by rw [List.length_replicate];omega)
 rw [List.length_replicate] at hop
 have hcl:(List.replicate (2 * n+4) ([]:Str)).length=2 * n+4:=List.length_replicate
 have hce:∀ i (h:i<(List.replicate (2 * n+4) ([]:Str)).length),(List.replicate (2 * n+4) ([]:Str))[i]=[]:=fun i h=>List.getElem_replicate h
 generalize List.replicate (2 * n+4) ([]:Str)=c at hop hcl hce ⊢
 refine goS trivial ?_
 (refine goX (nn c1 (nn c2 (nn e1 e2))) ?_;(repeat' (with_reducible apply Br.mk<;>intro _)))
 try rw [e1]
 try rw [e2]
 (refine goM (hop) (hs) ?_)
 rintro _ _ G1 ⟨q,rfl,rfl⟩ h3
 have h3:Sep (zaw q m c::R) G1:=h3
 refine goS trivial ?_
 (refine goX trivial ?_;(repeat' (with_reducible apply Br.mk<;>intro _)))
 refine zq0 fun mr hmr=>?_
 have h4:Sep (MwA mr []::zaw q m c::R) (G1.setM mr (some (.map [] 0))):=Sep.mapNew (zq1 .i64) hmr h3
 generalize G1.setM mr (some (MO.map [] 0))=G2 at h4 ⊢
 refine goS trivial ?_
 refine goR trivial ?_
 refine zam fun sb hsb=>?_
 have h5:Sep (SiA sb q mr n::MwA mr []::zaw q m c::R) (G2.set sb (some [eSt q,.int .i64 n,.mref mr])):=Sep.new hsb h4
 generalize G2.set sb (some [eSt q,D.int .i64 n,D.mref mr])=G3 at h5 ⊢
 have h6:Sep (SiA sb q mr n::zaw q m c::MwA mr []::R) G3:=h5.perm pp
 refine goS trivial ?_
 refine goR trivial ?_
 refine W.loop (fun z st=>∃ (t:Nat) (G:Gh),z+t=4∧Sep (SiA sb q mr n::zaw q m c::MwA mr []::R) G ∧
  st=(E [(2,.d (.int .i64 n)),(8,.d (eSt q)),(10,.d (.gp sb 0)),(42,.d (.int .i64 (t:Nat)))],HB [],σ,G))
  ⟨_,_,zb7,0,G3,rfl,h6,rfl⟩ ?_
 rintro z st ⟨t,G4,ht,h7,rfl⟩
 by_cases ht4:t<4
 · have hlt':(t:Int)<4:=by omega
   have e3:((2 * n:Nat):Int)+(t:Int)=((2 * n+t:Nat):Int):=by omega
   refine goR (nn hlt' (nn e1 e3)) ?_
   try rw [e1]
   try rw [e3]
   (refine goM (zym sb q mr n m c (by omega) (2 * n+t) (by omega) (hce _ (by omega))) (h7) ?_)
   rintro _ _ G5 ⟨rfl,rfl⟩ h8
   refine goS trivial ?_
   (refine goX trivial ?_;(repeat' (with_reducible apply Br.mk<;>intro _)))
   exact ⟨z - 1,_,by omega,zb7,t+1,_,by omega,h8,rfl⟩
 have ht':t=4:=by omega
 subst ht'
 refine goR trivial ?_
 refine W.loop (fun z st=>∃ (k:Nat) (b16:Blk) (G:Gh),z+k=n∧Sep (SiA sb q mr n::zaw q m c::MwA mr []::R) G ∧
  st=(E [(8,.d (eSt q)),(10,.d (.gp sb 0)),(55,.d (.int .i64 n)),(56,.d (.int .i64 (k:Nat)))],HB [(16,b16)],σ,G))
  ⟨n,_,zt (zcx [] [16] rfl).symm,0,_,G4,rfl,h7,rfl⟩ ?_
 rintro z st ⟨k,b16,G6,hk,h8,rfl⟩
 by_cases hkn:k<n
 · have hlt':(k:Int)<(n:Int):=by omega
   have k1:(2:Int) * (k:Int)=((2 * k:Nat):Int):=by omega
   have k2:((2 * k:Nat):Int)+1=((2 * k+1:Nat):Int):=by omega
   have hread:=zgq q m c (by omega) (2 * k+1) (by omega) (by rw [hce _ (by omega)];simp) 12
   rw [hce _ (by omega)] at hread
   have h9:=h8.swap
   refine goR (nn hlt' (nn k1 k2)) ?_
   try rw [k1]
   try rw [k2]
   (refine goM (hread) (h9) ?_)
   rintro _ _ G7 ⟨rfl,rfl⟩ h10
   have h10:Sep (zaw q m c::SiA sb q mr n::MwA mr []::R) G7:=h10
   have e12:rd1 [] 12=([],0):=by unfold rd1;rw [if_pos rfl]
   rw [e12]
   refine goS trivial ?_
   (refine goX trivial ?_;(repeat' (with_reducible apply Br.mk<;>intro _)))
   exact ⟨z - 1,_,by omega,zt rfl,k+1,_,_,by omega,h10.swap,rfl⟩
 have hkn':k=n:=by omega
 subst hkn'
 have hx:((k:Int)<(k:Int))=False:=eq_false (by omega)
 have h11:Sep ([zee sb k m c []]++R) G6:=Sep.of_sit h8
 (refine goX hx ?_;(repeat' (with_reducible apply Br.mk<;>intro _)))
 exact Fin.eq rfl ⟨rfl,_,⟨sb,rfl,rfl⟩,h11⟩
end Go.Proofs.Ytlejjdbmmdghmaa
