/-
 Layer 40 (txn),the law TxnIsSerializable: what holds between the law's own values and the sites;plain laws.
 Conditions: none.
-/
import Derived.Test.YtlejjdbmmdghmaaX20
namespace Go.Proofs.Ytlejjdbmmdghmaa
open Go Go.E2 C22 C40
def gB (l:List Bool) (j:Nat):Bool:=l.getD j false
def gD (l:List Int) (j:Nat):Int:=l.getD j 0
theorem zir {l:List Bool} {i j:Nat} (b:Bool) (h:i<l.length):gB (l.set i b) j=if i=j then b else gB l j:=by
 unfold gB
 rw [List.getD_eq_getElem?_getD,List.getD_eq_getElem?_getD,List.getElem?_set]
 by_cases e:i=j
 · subst e;simp [h]
 · simp [e]
theorem zhi {l:List Int} {i j:Nat} (b:Int) (h:i<l.length):gD (l.set i b) j=if i=j then b else gD l j:=by
 unfold gD
 rw [List.getD_eq_getElem?_getD,List.getD_eq_getElem?_getD,List.getElem?_set]
 by_cases e:i=j
 · subst e;simp [h]
 · simp [e]
def part (wr:List (List Tw×List Tw)) (i s:Nat):List Tw:=if s=0 then (wr.getD i ([],[])).1 else (wr.getD i ([],[])).2
structure zis (wr:List (List Tw×List Tw)) (s:Nat) (M:List Vl) (pr ov:List Bool) (de:List Int) (S:SS) (V:List Vl):Prop where
 good:zcz 2 S V
 mem:∀ i,i<wr.length→∀ w,za4 S.2 ((i+1:Nat):Int)=some w→w.l=part wr i s
 has:∀ i,i<wr.length→((za4 S.2 ((i+1:Nat):Int)).isSome=true↔gB pr (2 * i+s)=true∧gB ov (2 * i+s)=false)
 only:∀ p∈S.2,∃ i,i<wr.length∧p.1=((i+1:Nat):Int)
 mlen:M.length=2
 mod:∀ k:Nat,k<2→(∃ i,i<wr.length∧gD de i=1∧(za4 S.2 ((i+1:Nat):Int)).isSome=true∧∃ x∈part wr i s,x.rd=false∧x.key=(k:Int)∧vl M k=(x.ver+1,x.val)) ∨
  (∀ i,i<wr.length→gD de i=1→(za4 S.2 ((i+1:Nat):Int)).isSome=true→∀ x∈part wr i s,x.rd=false→x.key≠(k:Int))∧vl M k=vl V k
theorem zis.part_ok {wr:List (List Tw×List Tw)} {s:Nat} {M:List Vl} {pr ov:List Bool} {de:List Int} {S:SS} {V:List Vl} (h:zis wr s M pr ov de S V) {i:Nat} (hi:i<wr.length)
 (hm:(za4 S.2 ((i+1:Nat):Int)).isSome=true):∃ w,za4 S.2 ((i+1:Nat):Int)=some w∧w.l=part wr i s∧(((i+1:Nat):Int),w)∈S.2∧Rgt 2 (part wr i s):=by
 obtain ⟨w,hw⟩:=Option.isSome_iff_exists.1 hm
 have h1:=h.mem i hi w hw
 have h2:=zix hw
 have h3:=h.good.rgt _ h2
 simp only at h3
 rw [h1] at h3
 exact ⟨w,hw,h1,h2,h3⟩
theorem zis.lock {wr:List (List Tw×List Tw)} {s:Nat} {M:List Vl} {pr ov:List Bool} {de:List Int} {S:SS} {V:List Vl} (h:zis wr s M pr ov de S V) {i j:Nat} (hi:i<wr.length) (hj:j<wr.length) (hne:i≠j)
 (hmi:(za4 S.2 ((i+1:Nat):Int)).isSome=true) (hmj:(za4 S.2 ((j+1:Nat):Int)).isSome=true) {x y:Tw} (hx:x∈part wr i s) (hy:y∈part wr j s) (e:x.key=y.key):x.rd=true∧y.rd=true:=by
 obtain ⟨w,hw,hwl,hwm,_⟩:=h.part_ok hi hmi
 obtain ⟨u,hu,hul,hum,_⟩:=h.part_ok hj hmj
 refine h.good.lock _ hwm _ hum (by show ((i+1:Nat):Int)≠((j+1:Nat):Int);omega) x (by show x∈w.l;rw [hwl];exact hx) y (by show y∈u.l;rw [hul];exact hy) e
theorem zis.vers {wr:List (List Tw×List Tw)} {s:Nat} {M:List Vl} {pr ov:List Bool} {de:List Int} {S:SS} {V:List Vl} (h:zis wr s M pr ov de S V) {i:Nat} (hi:i<wr.length)
 (hm:(za4 S.2 ((i+1:Nat):Int)).isSome=true) (hd:gD de i=0):∀ x∈part wr i s,(vl M x.key.toNat).1=x.ver:=by
 intro x hx
 obtain ⟨w,hw,hwl,hwm,hr⟩:=h.part_ok hi hm
 have hv:=h.good.ver _ hwm x (by show x∈w.l;rw [hwl];exact hx)
 have hk:=hr.1 x hx
 rcases h.mod x.key.toNat (by have:=hk.2.1;omega) with ⟨j,hj,hd1,hmj,y,hy,hyr,hyk,_⟩|⟨_,he⟩
 · have hne:j≠i:=fun e=>by subst e;omega
   have:=h.lock hj hi hne hmj hm hy hx (by have:=hk.1;omega)
   rw [hyr] at this;simp at this
 · rw [he];exact hv
theorem zis.commit {wr:List (List Tw×List Tw)} {s:Nat} {M:List Vl} {pr ov:List Bool} {de:List Int} {S:SS} {V:List Vl} (h:zis wr s M pr ov de S V) {i:Nat} (hi:i<wr.length) (hdl:wr.length≤de.length)
 (hm:part wr i s=[]∨(za4 S.2 ((i+1:Nat):Int)).isSome=true) (_hd:gD de i=0):zis wr s (zfv (part wr i s) M) pr ov (de.set i 1) S V:=by
 have hds:=fun j=>zhi (l:=de) (i:=i) (j:=j) 1 (by omega)
 refine ⟨h.good,h.mem,h.has,h.only,(zmo _ _).trans h.mlen,fun k hk=>?_⟩
 by_cases hex:∃ x∈part wr i s,x.rd=false∧x.key=(k:Int)
 · obtain ⟨x,hx,hxr,hxk⟩:=hex
   have hm':(za4 S.2 ((i+1:Nat):Int)).isSome=true:=by
    rcases hm with e|e
    · rw [e] at hx;cases hx
    · exact e
   obtain ⟨w,hw,hwl,hwm,hr⟩:=h.part_ok hi hm'
   refine .inl ⟨i,hi,by rw [hds,if_pos rfl],hm',x,hx,hxr,hxk,?_⟩
   have:=zmp (part wr i s) M hr.2.1 (fun y hy=>(hr.1 y hy).1) x hx hxr (by rw [h.mlen];omega)
   rw [show x.key.toNat=k by omega] at this
   exact this
 · have hno:∀ x∈part wr i s,x.rd=false→x.key≠(k:Int):=fun x hx hr e=>hex ⟨x,hx,hr,e⟩
   have hpo:vl (zfv (part wr i s) M) k=vl M k:=by
    rcases hm with e|e
    · rw [e];rfl
    · obtain ⟨w,hw,hwl,hwm,hr⟩:=h.part_ok hi e
      exact zdh _ _ _ fun x hx hxr he=>hno x hx hxr (by have:=(hr.1 x hx).1;omega)
   rw [hpo]
   rcases h.mod k hk with ⟨j,hj,hd1,hmj,y,hy,hyr,hyk,hv⟩|⟨h1,h2⟩
   · refine .inl ⟨j,hj,?_,hmj,y,hy,hyr,hyk,hv⟩
     rw [hds];split
     · rfl
     · exact hd1
   · refine .inr ⟨fun j hj hd1 hmj y hy hyr=>?_,h2⟩
     rw [hds] at hd1
     by_cases e:i=j
     · subst e;exact hno y hy hyr
     · rw [if_neg e] at hd1;exact h1 j hj hd1 hmj y hy hyr
theorem zis.refuse {wr:List (List Tw×List Tw)} {s:Nat} {M:List Vl} {pr ov:List Bool} {de:List Int} {S:SS} {V:List Vl} (h:zis wr s M pr ov de S V) {i:Nat} (hi:i<wr.length) (hdl:wr.length≤de.length)
 (hd:gD de i=0):zis wr s M pr ov (de.set i 2) S V:=by
 have hds:∀ j,gD (de.set i 2) j=1↔gD de j=1:=fun j=>by
  rw [zhi 2 (by omega)]
  by_cases e:i=j
  · subst e;rw [if_pos rfl,hd];decide
  · rw [if_neg e]
 refine ⟨h.good,h.mem,h.has,h.only,h.mlen,fun k hk=>?_⟩
 rcases h.mod k hk with ⟨j,hj,hd1,r⟩|⟨h1,h2⟩
 · exact .inl ⟨j,hj,(hds j).2 hd1,r⟩
 · exact .inr ⟨fun j hj hd1=>h1 j hj ((hds j).1 hd1),h2⟩
theorem zis.other {wr:List (List Tw×List Tw)} {s:Nat} {M:List Vl} {pr ov pr' ov':List Bool} {de:List Int} {S:SS} {V:List Vl} (h:zis wr s M pr ov de S V)
 (h1:∀ i,i<wr.length→gB pr' (2 * i+s)=gB pr (2 * i+s)) (h2:∀ i,i<wr.length→gB ov' (2 * i+s)=gB ov (2 * i+s)):zis wr s M pr' ov' de S V :=
 ⟨h.good,h.mem,fun i hi=>by rw [h1 i hi,h2 i hi];exact h.has i hi,h.only,h.mlen,h.mod⟩
theorem zis.prep {wr:List (List Tw×List Tw)} {s:Nat} {M:List Vl} {pr ov:List Bool} {de:List Int} {S:SS} {V:List Vl} (h:zis wr s M pr ov de S V) {i:Nat} (hi:i<wr.length) (hs:s<2) (hpl:2 * wr.length≤pr.length)
 (hd:gD de i=0) (ho:gB ov (2 * i+s)=false) (he:zat 2 S.1 S.2 ((i+1:Nat):Int) (part wr i s)=0):zis wr s M (pr.set (2 * i+s) true) ov de (prepS 2 ((i+1:Nat):Int) (part wr i s) S) V:=by
 have hg:=h.good.prepS ((i+1:Nat):Int) (part wr i s)
 obtain ⟨_,_,_,hn,_,_,_⟩:=zmq he
 have hS:(prepS 2 ((i+1:Nat):Int) (part wr i s) S).2=zju S.2 ((i+1:Nat):Int) ⟨((2 * 2+za3 2 S.2:Nat):Int),part wr i s⟩:=by
  unfold prepS;rw [if_pos he];rfl
 have hget:=fun (j:Nat)=>zqo S.2 ((i+1:Nat):Int) ((j+1:Nat):Int) (⟨((2 * 2+za3 2 S.2:Nat):Int),part wr i s⟩:Wr)
 have hgo:∀ j,j≠i→za4 (prepS 2 ((i+1:Nat):Int) (part wr i s) S).2 ((j+1:Nat):Int)=za4 S.2 ((j+1:Nat):Int):=fun j hj=>by
  rw [hS,hget,if_neg (by omega)]
 have hgi:za4 (prepS 2 ((i+1:Nat):Int) (part wr i s) S).2 ((i+1:Nat):Int)=some ⟨((2 * 2+za3 2 S.2:Nat):Int),part wr i s⟩:=by
  rw [hS,hget,if_pos rfl]
 refine ⟨hg,fun j hj w hw=>?_,fun j hj=>?_,fun p hp=>?_,h.mlen,fun k hk=>?_⟩
 · by_cases e:j=i
   · subst e;rw [hgi] at hw;cases hw;rfl
   · rw [hgo j e] at hw;exact h.mem j hj w hw
 · rw [zir true (by omega)]
   by_cases e:j=i
   · subst e;rw [hgi,if_pos rfl,ho];simp
   · rw [hgo j e,if_neg (by omega)];exact h.has j hj
 · rw [hS] at hp
   rcases (zro hn p).1 hp with rfl|hp
   · exact ⟨i,hi,rfl⟩
   · exact h.only p hp
 · rcases h.mod k hk with ⟨j,hj,hd1,hmj,r⟩|⟨h1,h2⟩
   · exact .inl ⟨j,hj,hd1,by rw [hgo j (fun e=>by subst e;omega)];exact hmj,r⟩
   · refine .inr ⟨fun j hj hd1 hmj=>h1 j hj hd1 ?_,h2⟩
     rw [hgo j (fun e=>by subst e;omega)] at hmj;exact hmj
theorem zis.fin {wr:List (List Tw×List Tw)} {s:Nat} {M:List Vl} {pr ov:List Bool} {de:List Int} {S:SS} {V:List Vl} (h:zis wr s M pr ov de S V) {i:Nat} (hi:i<wr.length) (hs:s<2) (hol:2 * wr.length≤ov.length) (h4:wr.length≤4) :
 ∃ V',zis wr s M pr (ov.set (2 * i+s) true) de (zdo ((i+1:Nat):Int) (decide (gD de i=1)) S) V':=by
 have hid:ziv ((i+1:Nat):Int):=⟨by omega,by omega⟩
 have hos:∀ j,gB (ov.set (2 * i+s) true) (2 * j+s)=if j=i then true else gB ov (2 * j+s):=fun j=>by
  rw [zir true (by omega)]
  by_cases e:j=i
  · rw [if_pos (by omega),if_pos e]
  · rw [if_neg (by omega),if_neg e]
 have hg:=h.good.decS ((i+1:Nat):Int) (decide (gD de i=1))
 cases hm:za4 S.2 ((i+1:Nat):Int) with
 | none =>
  have e1:zdo ((i+1:Nat):Int) (decide (gD de i=1)) S=S:=by unfold zdo;rw [zp0,if_pos hid,hm]
  rw [e1]
  refine ⟨V,h.good,h.mem,fun j hj=>?_,h.only,h.mlen,h.mod⟩
  rw [hos]
  by_cases e:j=i
  · subst e;rw [hm,if_pos rfl];simp
  · rw [if_neg e];exact h.has j hj
 | some w =>
  obtain ⟨w',hw',hwl,hwm,hr⟩:=h.part_ok hi (by rw [hm];rfl)
  rw [hm] at hw';cases hw'
  have e2:(zdo ((i+1:Nat):Int) (decide (gD de i=1)) S).2=mdel S.2 ((i+1:Nat):Int):=by unfold zdo;rw [zp0,if_pos hid,hm]
  have e3:z8f ((i+1:Nat):Int) (decide (gD de i=1)) S V=if gD de i=1 then zfv (part wr i s) V else V:=by
   unfold z8f;rw [if_pos hid,hm,← hwl]
   by_cases e:gD de i=1
   · simp [e]
   · simp [e]
  rw [e3] at hg
  have hget:=fun (j:Nat)=>zqq h.good.wsn ((i+1:Nat):Int) ((j+1:Nat):Int)
  have hgo:∀ j,j≠i→za4 (zdo ((i+1:Nat):Int) (decide (gD de i=1)) S).2 ((j+1:Nat):Int)=za4 S.2 ((j+1:Nat):Int):=fun j hj=>by
   rw [e2,hget,if_neg (by omega)]
  have hgi:za4 (zdo ((i+1:Nat):Int) (decide (gD de i=1)) S).2 ((i+1:Nat):Int)=none:=by
   rw [e2,hget,if_pos rfl]
  refine ⟨_,hg,fun j hj u hu=>?_,fun j hj=>?_,fun p hp=>?_,h.mlen,fun k hk=>?_⟩
  · by_cases e:j=i
    · subst e;rw [hgi] at hu;cases hu
    · rw [hgo j e] at hu;exact h.mem j hj u hu
  · rw [hos]
    by_cases e:j=i
    · subst e;rw [hgi,if_pos rfl];simp
    · rw [hgo j e,if_neg e];exact h.has j hj
  · rw [e2] at hp
    exact h.only p ((zqp _ _).subset hp)
  · have hoth:(∀ x∈part wr i s,x.rd=false→x.key≠(k:Int))→vl (if gD de i=1 then zfv (part wr i s) V else V) k=vl V k:=fun hno=>by
     split
     · exact zdh _ _ _ fun x hx hxr he=>hno x hx hxr (by have:=(hr.1 x hx).1;omega)
     · rfl
    rcases h.mod k hk with ⟨j,hj,hd1,hmj,y,hy,hyr,hyk,hv⟩|⟨h1,h2⟩
    · by_cases e:j=i
      · subst e
        refine .inr ⟨fun j' hj' hd' hmj' x hx hxr hxk=>?_,?_⟩
        · by_cases e:j'=j
          · subst e;rw [hgi] at hmj';simp at hmj'
          · rw [hgo j' e] at hmj'
            have:=(h.lock hj' hj e hmj' hmj hx hy (by omega)).1
            rw [hxr] at this;simp at this
        · rw [if_pos hd1,hv]
          have:=zmp (part wr j s) V hr.2.1 (fun z hz=>(hr.1 z hz).1) y hy hyr (by rw [h.good.vlen];omega)
          rw [show y.key.toNat=k by omega] at this
          exact this.symm
      · exact .inl ⟨j,hj,hd1,by rw [hgo j e];exact hmj,y,hy,hyr,hyk,hv⟩
    · refine .inr ⟨fun j hj hd1 hmj=>?_,?_⟩
      · by_cases e:j=i
        · subst e;rw [hgi] at hmj;simp at hmj
        · rw [hgo j e] at hmj;exact h1 j hj hd1 hmj
      · rw [h2]
        by_cases e:gD de i=1
        · exact (hoth (h1 i hi e (by rw [hm];rfl))).symm
        · rw [if_neg e]
theorem zis.done {wr:List (List Tw×List Tw)} {s:Nat} {M:List Vl} {pr ov:List Bool} {de:List Int} {S:SS} {V:List Vl} (h:zis wr s M pr ov de S V) (ho:∀ i,i<wr.length→gB ov (2 * i+s)=true):∀ k:Nat,k<2→vl M k=vl V k:=by
 intro k hk
 rcases h.mod k hk with ⟨j,hj,hd1,hmj,r⟩|⟨h1,h2⟩
 · have:=((h.has j hj).1 hmj).2
   rw [ho j hj] at this;simp at this
 · exact h2
end Go.Proofs.Ytlejjdbmmdghmaa
namespace Go.Proofs.Ytlejjdbmmdghmaa
open Go Go.E2 C22 C40
structure LS where
 M:Nat→List Vl
 pr:List Bool
 ov:List Bool
 de:List Int
 S:Nat→SS
structure LI (wr:List (List Tw×List Tw)) (L:LS):Prop where
 prl:L.pr.length=8
 ovl:L.ov.length=8
 del:L.de.length=4
 inv:∀ s,s<2→∃ V,zis wr s (L.M s) L.pr L.ov L.de (L.S s) V
 ovd:∀ i s,i<wr.length→s<2→gB L.ov (2 * i+s)=true→gD L.de i≠0
 len:∀ i s,i<wr.length→s<2→gB L.pr (2 * i+s)=true→(part wr i s).length≤16
theorem LI.gs {wr:List (List Tw×List Tw)} {L:LS} (h:LI wr L) {s:Nat} (hs:s<2):GS (L.S s):=by
 obtain ⟨V,hv⟩:=h.inv s hs;exact ⟨V,hv.good⟩
theorem LI.ml {wr:List (List Tw×List Tw)} {L:LS} (h:LI wr L) {s:Nat} (hs:s<2):(L.M s).length=2:=by
 obtain ⟨V,hv⟩:=h.inv s hs;exact hv.mlen
def upS (S:Nat→SS) (s:Nat) (x:SS) (t:Nat):SS:=if t=s then x else S t
def LS.prepare (L:LS) (wr:List (List Tw×List Tw)) (i s:Nat):LS :=
 { L with pr:=L.pr.set (2 * i+s) (decide (zat 2 (L.S s).1 (L.S s).2 ((i+1:Nat):Int) (part wr i s)=0)),S:=upS L.S s (prepS 2 ((i+1:Nat):Int) (part wr i s) (L.S s)) }
def LS.commit (L:LS) (wr:List (List Tw×List Tw)) (i:Nat):LS:={ L with M:=fun t=>zfv (part wr i t) (L.M t),de:=L.de.set i 1 }
def LS.refuse (L:LS) (i:Nat):LS:={ L with de:=L.de.set i 2 }
def LS.finish (L:LS) (i s:Nat):LS :=
 { L with ov:=L.ov.set (2 * i+s) true,S:=upS L.S s (zdo ((i+1:Nat):Int) (decide (gD L.de i=1)) (L.S s)) }
theorem LI.prepare {wr:List (List Tw×List Tw)} {L:LS} (h:LI wr L) (h4:wr.length≤4) {i s:Nat} (hi:i<wr.length) (hs:s<2) (hd:gD L.de i=0) (hp:gB L.pr (2 * i+s)=false):LI wr (L.prepare wr i s):=by
 have ho:gB L.ov (2 * i+s)=false:=by
  cases e:gB L.ov (2 * i+s) with
  | false=>rfl
  | true=>exact absurd hd (h.ovd i s hi hs e)
 have hprl:=h.prl
 refine ⟨by show (L.pr.set _ _).length=8;rw [List.length_set];exact h.prl,h.ovl,h.del,fun t ht=>?_,h.ovd,fun j t hj ht hb=>?_⟩
 · show ∃ V,zis wr t (L.M t) (L.pr.set _ _) L.ov L.de (upS L.S s _ t) V
   unfold upS
   by_cases e:t=s
   · subst e
     rw [if_pos rfl]
     obtain ⟨V,hv⟩:=h.inv t ht
     by_cases he:zat 2 (L.S t).1 (L.S t).2 ((i+1:Nat):Int) (part wr i t)=0
     · rw [decide_eq_true he]
       exact ⟨V,hv.prep hi ht (by omega) hd ho he⟩
     · rw [decide_eq_false he]
       have hsame:prepS 2 ((i+1:Nat):Int) (part wr i t) (L.S t)=L.S t:=by unfold prepS;rw [if_neg he]
       rw [hsame]
       refine ⟨V,hv.other (fun j hj=>?_) (fun _ _=>rfl)⟩
       rw [zir false (by omega)]
       split
       · rename_i e;rw [← e,hp]
       · rfl
   · rw [if_neg e]
     obtain ⟨V,hv⟩:=h.inv t ht
     refine ⟨V,hv.other (fun j hj=>?_) (fun _ _=>rfl)⟩
     rw [zir _ (by omega),if_neg (by omega)]
 · have hb2:gB (L.pr.set (2 * i+s) (decide (zat 2 (L.S s).1 (L.S s).2 ((i+1:Nat):Int) (part wr i s)=0))) (2 * j+t)=true:=hb
   rw [zir _ (by omega)] at hb2
   by_cases e:2 * i+s=2 * j+t
   · rw [if_pos e] at hb2
     have e1:i=j:=by omega
     have e2:s=t:=by omega
     subst e1;subst e2
     exact (zmq (of_decide_eq_true hb2)).2.2.1.2.2.2
   · rw [if_neg e] at hb2;exact h.len j t hj ht hb2
theorem LI.commit {wr:List (List Tw×List Tw)} {L:LS} (h:LI wr L) (h4:wr.length≤4) {i:Nat} (hi:i<wr.length) (hd:gD L.de i=0) (hw:∀ t,t<2→gB L.pr (2 * i+t)=true∨part wr i t=[]):LI wr (L.commit wr i):=by
 have hdel:=h.del
 refine ⟨h.prl,h.ovl,by show (L.de.set i 1).length=4;rw [List.length_set];exact h.del,fun t ht=>?_,fun j s hj hs ho=>?_,h.len⟩
 · obtain ⟨V,hv⟩:=h.inv t ht
   refine ⟨V,hv.commit hi (by omega) ?_ hd⟩
   rcases hw t ht with e|e
   · right
     refine (hv.has i hi).2 ⟨e,?_⟩
     cases e:gB L.ov (2 * i+t) with
     | false=>rfl
     | true=>exact absurd hd (h.ovd i t hi ht e)
   · exact .inl e
 · show gD (L.de.set i 1) j≠0
   rw [zhi 1 (by omega)]
   split
   · decide
   · exact h.ovd j s hj hs ho
theorem LI.asks {wr:List (List Tw×List Tw)} {L:LS} (h:LI wr L) {i s:Nat} (hi:i<wr.length) (hs:s<2) (hd:gD L.de i=0) (hw:gB L.pr (2 * i+s)=true∨part wr i s=[]) :
 ((part wr i s).map Tw.key).Nodup∧(∀ x∈part wr i s,0≤x.key∧x.key<2)∧(∀ x∈part wr i s,(vl (L.M s) x.key.toNat).1=x.ver)∧(∀ x∈part wr i s,0≤x.ver∧x.ver≤1099511627776)∧(part wr i s).length≤16:=by
 rcases hw with e|e
 · obtain ⟨V,hv⟩:=h.inv s hs
   have hm:(za4 (L.S s).2 ((i+1:Nat):Int)).isSome=true:=by
    refine (hv.has i hi).2 ⟨e,?_⟩
    cases e:gB L.ov (2 * i+s) with
    | false=>rfl
    | true=>exact absurd hd (h.ovd i s hi hs e)
   obtain ⟨w,hw,hwl,hwm,hr⟩:=hv.part_ok hi hm
   exact ⟨hr.2.1,fun x hx=>⟨(hr.1 x hx).1,by have:=(hr.1 x hx).2.1;omega⟩,hv.vers hi hm hd,fun x hx=>⟨(hr.1 x hx).2.2.1,(hr.1 x hx).2.2.2.1⟩,hr.2.2.2⟩
 · rw [e];simp
theorem LI.refuse {wr:List (List Tw×List Tw)} {L:LS} (h:LI wr L) (h4:wr.length≤4) {i:Nat} (hi:i<wr.length) (hd:gD L.de i=0):LI wr (L.refuse i):=by
 have hdel:=h.del
 refine ⟨h.prl,h.ovl,by show (L.de.set i 2).length=4;rw [List.length_set];exact h.del,fun t ht=>?_,fun j s hj hs ho=>?_,h.len⟩
 · obtain ⟨V,hv⟩:=h.inv t ht
   exact ⟨V,hv.refuse hi (by omega) hd⟩
 · show gD (L.de.set i 2) j≠0
   rw [zhi 2 (by omega)]
   split
   · decide
   · exact h.ovd j s hj hs ho
theorem LI.finish {wr:List (List Tw×List Tw)} {L:LS} (h:LI wr L) (h4:wr.length≤4) {i s:Nat} (hi:i<wr.length) (hs:s<2) (hd:gD L.de i≠0):LI wr (L.finish i s):=by
 have hovl:=h.ovl
 refine ⟨h.prl,by show (L.ov.set _ _).length=8;rw [List.length_set];exact h.ovl,h.del,fun t ht=>?_,fun j t hj ht ho=>?_,h.len⟩
 · show ∃ V,zis wr t (L.M t) L.pr (L.ov.set _ _) L.de (upS L.S s _ t) V
   unfold upS
   by_cases e:t=s
   · subst e
     rw [if_pos rfl]
     obtain ⟨V,hv⟩:=h.inv t ht
     exact hv.fin hi ht (by omega) h4
   · rw [if_neg e]
     obtain ⟨V,hv⟩:=h.inv t ht
     refine ⟨V,hv.other (fun _ _=>rfl) (fun j hj=>?_)⟩
     rw [zir _ (by omega),if_neg (by omega)]
 · show gD L.de j≠0
   have ho:gB (L.ov.set (2 * i+s) true) (2 * j+t)=true:=ho
   rw [zir true (by omega)] at ho
   by_cases e:2 * i+s=2 * j+t
   · have:i=j:=by omega
     rw [← this];exact hd
   · rw [if_neg e] at ho;exact h.ovd j t hj ht ho
def LS0:LS:=⟨fun _=>[(0,[]),(0,[])],List.replicate 8 false,List.replicate 8 false,[0,0,0,0],fun _=>sS0⟩
theorem LI.start (wr:List (List Tw×List Tw)) (_h4:wr.length≤4):LI wr LS0:=by
 refine ⟨rfl,rfl,rfl,fun s hs=>⟨[(0,[]),(0,[])],zgn.fresh (n:=2) (by omega) (by omega),?_,?_,?_,rfl,?_⟩,?_,?_⟩
 · intro i hi w hw;cases hw
 · intro i hi
   have:gB LS0.pr (2 * i+s)=false:=by
    unfold gB LS0;rw [List.getD_eq_getElem?_getD,List.getElem?_replicate];split<;>rfl
   rw [this];simp [LS0,za4]
 · intro p hp;cases hp
 · intro k hk
   refine .inr ⟨fun i hi hd hm=>?_,rfl⟩
   simp [LS0,za4] at hm
 · intro i s hi hs ho
   have:gB LS0.ov (2 * i+s)=false:=by
    unfold gB LS0;rw [List.getD_eq_getElem?_getD,List.getElem?_replicate];split<;>rfl
   rw [this] at ho;cases ho
 · intro i s hi hs ho
   have:gB LS0.pr (2 * i+s)=false:=by
    unfold gB LS0;rw [List.getD_eq_getElem?_getD,List.getElem?_replicate];split<;>rfl
   rw [this] at ho;cases ho
end Go.Proofs.Ytlejjdbmmdghmaa
