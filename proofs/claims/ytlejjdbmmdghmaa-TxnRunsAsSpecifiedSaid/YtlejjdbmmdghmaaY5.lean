/-
 Layer 40 (txn): the examples of the documentation on what the slots hold;plain laws.
 Conditions: none.
-/
import Derived.Test.YtlejjdbmmdghmaaQ5
namespace Go.Proofs.Ytlejjdbmmdghmaa
open Go Go.E2 C22 C40
def GS (s:SS):Prop:=∃ V,zc1 2 s V
theorem GS.prp {s:SS} (h:GS s) (l:List Tw) (id:Int):GS (prpS l id s):=by obtain ⟨V,g⟩:=h;exact ⟨V,g.prpS l id⟩
theorem GS.prep {s:SS} (h:GS s) (id:Int) (l:List Tw):GS (prepS 2 id l s):=by obtain ⟨V,g⟩:=h;exact ⟨V,g.prepS id l⟩
theorem GS.dc {s:SS} (h:GS s) (l:List Tw) (id:Int) (c:Bool):GS (dcS l id c s):=by obtain ⟨V,g⟩:=h;exact g.dcS l id c
theorem GS.set {s:SS} (h:GS s) (dc:List Str):GS (zex dc s):=by obtain ⟨V,g⟩:=h;exact zc1.setL dc _ g
theorem zoy {dc:List Str} {s0 s1:SS} (id:Int) (l0 l1:List Tw) (hd:DOk dc) (h0:GS s0) (h1:GS s1) :
 DOk (zit dc s0 s1 id l0 l1).dc∧GS (zit dc s0 s1 id l0 l1).s0∧GS (zit dc s0 s1 id l0 l1).s1:=by
 unfold zit
 split
 · exact ⟨hd,h0,h1⟩
 split
 · exact ⟨hd,h0,h1⟩
 split
 · exact ⟨hd,h0,h1⟩
 split
 · exact ⟨hd,(h0.prp _ _).dc _ _ _,h1⟩
 split
 · exact ⟨hd,h0.prp _ _,h1.prp _ _⟩
 · exact ⟨(hd.rec id).for id,(h0.prp _ _).dc _ _ _,(h1.prp _ _).dc _ _ _⟩
theorem zhn {l:List Int} (h:l.Pairwise (·≤·)):zco l=l:=List.mergeSort_of_pairwise (h.imp (by simp))
abbrev sS0:SS:=(rep 8,[])
theorem zjc:GS sS0:=⟨_,zhi.fresh (n:=2) (by omega) (by omega)⟩
theorem zmz:DOk (rep 4):=⟨by decide,fun b hb=>.inl (List.mem_replicate.1 hb).2⟩
def xA:RunR:=zit (rep 4) sS0 sS0 1 [⟨0,0,[97],false⟩] [⟨0,0,[98],false⟩]
def xB:RunR:=zit xA.dc xA.s0 xA.s1 2 [⟨0,0,[120],false⟩] []
def xP3:SS:=prepS 2 3 [⟨0,1,[99],false⟩] xB.s0
def xP4:SS:=prepS 2 4 [⟨1,0,[],false⟩] xP3
def xD:List Str:=zho xB.dc 3
def x5:SS:=setL xD [3,4] xP4
theorem xA_is:xA.is=true:=by decide +kernel
theorem xA_e:xA.e=0:=by decide +kernel
theorem xA_g0:getR 2 xA.s0.1 0=(1,[97],0):=by decide +kernel
theorem xA_g1:getR 2 xA.s1.1 0=(1,[98],0):=by decide +kernel
theorem xB_is:xB.is=false:=by decide +kernel
theorem xB_e:xB.e=15:=by decide +kernel
theorem xP3_e:prepE 2 xB.s0.1 xB.s0.2 3 [⟨0,1,[99],false⟩]=0:=by decide +kernel
theorem xP3_k:xP3.2.map (·.1)=[3]:=by decide +kernel
theorem xP3_g:getR 2 xP3.1 0=(1,[97],0):=by decide +kernel
theorem xP3_i:prepE 2 xP3.1 xP3.2 4 [⟨0,1,[],false⟩]=4:=by decide +kernel
theorem xP3_j:prepE 2 xP3.1 xP3.2 4 [⟨0,1,[],true⟩]=4:=by decide +kernel
theorem xP3_m:prepE 2 xP3.1 xP3.2 4 [⟨1,0,[],false⟩]=0:=by decide +kernel
theorem xP4_n:prepE 2 xP4.1 xP4.2 4 [⟨1,0,[],false⟩]=9:=by decide +kernel
theorem xD_e:recE xB.dc 3=0:=by decide +kernel
theorem z54:xD.length=4:=by decide +kernel
theorem xP4_k:xP4.2.map (·.1)=[3,4]:=by decide +kernel
theorem x5_k:x5.2.map (·.1)=[]:=by decide +kernel
theorem x5_g0:getR 2 x5.1 0=(2,[99],0):=by decide +kernel
theorem x5_g1:getR 2 x5.1 1=(0,[],0):=by decide +kernel
theorem z12:zix (rep 4) 3=false:=by decide +kernel
theorem zy4:zd5 xP3.2=[3]:=by unfold zd5;rw [xP3_k];exact zhn (by decide)
theorem zwv:zex xD xP4=x5:=by
 have:zd5 xP4.2=[3,4]:=by unfold zd5;rw [xP4_k];exact zhn (by decide)
 unfold zex x5
 rw [this]
theorem z13:zd5 x5.2=[]:=by unfold zd5;rw [x5_k];exact zhn (by decide)
theorem zm0:DOk xA.dc∧GS xA.s0∧GS xA.s1:=zoy _ _ _ zmz zjc zjc
theorem zww:DOk xB.dc∧GS xB.s0∧GS xB.s1:=zoy _ _ _ zm0.1 zm0.2.1 zm0.2.2
theorem zf4:GS xP3:=zww.2.1.prep _ _
theorem zm1:GS xP4:=zf4.prep _ _
theorem zqf:GS x5:=zwv▸zm1.set xD
end Go.Proofs.Ytlejjdbmmdghmaa
namespace Go.Proofs.Ytlejjdbmmdghmaa
open Go Go.E2 C22 C40
def ziy (ws:List (Int×Wr)):List (Int×List Tw):=ws.map fun p=>(p.1,p.2.l)
structure Mt (n:Nat) (s:SS) (r:RS):Prop where
 good:zc1 n s r.1
 perm:(ziy s.2).Perm r.2
 sort:(r.2.map (·.1)).Pairwise (·<·)
theorem zgs (ws:List (Int×Wr)):(ziy ws).map (·.1)=ws.map (·.1):=by simp [ziy]
theorem Mt.len {n:Nat} {s:SS} {r:RS} (h:Mt n s r):r.2.length=s.2.length:=by rw [← h.perm.length_eq];simp [ziy]
theorem Mt.mem {n:Nat} {s:SS} {r:RS} (h:Mt n s r) {p:Int×List Tw}:p∈r.2↔∃ w,(p.1,w)∈s.2∧w.l=p.2:=by
 rw [← h.perm.mem_iff]
 unfold ziy
 rw [List.mem_map]
 constructor
 · rintro ⟨q,hq,rfl⟩;exact ⟨q.2,hq,rfl⟩
 · rintro ⟨w,hw,e⟩;exact ⟨_,hw,by rw [e]⟩
theorem Mt.pend {n:Nat} {s:SS} {r:RS} (h:Mt n s r):zd5 s.2=r.2.map (·.1):=by
 unfold zd5
 rw [← zgs,zkl (h.perm.map _)]
 exact zhn (h.sort.imp (by omega))
theorem Mt.small {n:Nat} {s:SS} {r:RS} (h:Mt n s r):RSm r:=by
 have hl:=h.len
 have h4:=h.good.len4
 have h16:=h.good.n16
 refine ⟨by rw [h.good.vlen];exact h.good.n1,by rw [h.good.vlen];omega,by omega,fun p hp=>?_⟩
 obtain ⟨w,hw,e⟩:=h.mem.1 hp
 have:=h.good.rgt _ hw
 simp only at this
 rw [e] at this
 rw [h.good.vlen];exact this
theorem zwx (id:Int):∀ (ps:List (Int×List Tw)) (i:Nat),0≤fdP id ps i↔id∈ps.map (·.1)
 | [],i=>by simp [fdP]
 | p::ps,i=>by
   unfold fdP
   by_cases h:p.1=id
   · rw [if_pos h];simp [h]
   · rw [if_neg h,zwx id ps (i+1)]
     simp only [List.map_cons,List.mem_cons]
     constructor
     · exact .inr
     · rintro (e|e)
       · exact absurd e.symm h
       · exact e
theorem zqg {ws:List (Int×Wr)} {id:Int}:(zbo ws id).isSome=true↔id∈ws.map (·.1):=by
 cases h:zbo ws id with
 | none=>simp only [Option.isSome_none,Bool.false_eq_true,false_iff];exact zj0.1 h
 | some w=>simp only [Option.isSome_some,true_iff];exact List.mem_map.2 ⟨_,zi3 h,rfl⟩
theorem Mt.has {n:Nat} {s:SS} {r:RS} (h:Mt n s r) (id:Int):(0≤fdP id r.2 0)↔(zbo s.2 id).isSome=true:=by
 rw [zwx,zqg,← zgs,(h.perm.map _).mem_iff]
theorem Mt.held {n:Nat} {s:SS} {r:RS} (h:Mt n s r) (x:Tw):zhg r.2 x=zez s.2 x:=by
 unfold zhg zez
 rw [Bool.eq_iff_iff,List.any_eq_true,List.any_eq_true]
 constructor
 · rintro ⟨p,hp,e⟩
   obtain ⟨w,hw,e2⟩:=h.mem.1 hp
   exact ⟨_,hw,by show w.l.any _=true;rw [e2];exact e⟩
 · rintro ⟨p,hp,e⟩
   exact ⟨(p.1,p.2.l),h.mem.2 ⟨p.2,hp,rfl⟩,e⟩
theorem zl0 {α:Type} {l:List α} {p q:α→Bool} (h:∀ x∈l,p x=q x):l.any p=l.any q:=by
 induction l with
 | nil=>rfl
 | cons a l ih=>rw [List.any_cons,List.any_cons,h a List.mem_cons_self,ih fun x hx=>h x (List.mem_cons_of_mem _ hx)]
theorem Mt.stale {n:Nat} {s:SS} {r:RS} (h:Mt n s r) {l:List Tw} (hl:Rgt n l):l.any (stR r)=stale n s.1 l:=by
 unfold Ytlejjdbmmdghmaa.stale
 refine zl0 fun x hx=>?_
 have hk:=hl.1 x hx
 unfold stR
 rw [h.good.getR,if_neg (by have:=hk.1;have:=hk.2.1;omega)]
theorem Mt.full {n:Nat} {s:SS} {r:RS} (h:Mt n s r):(4≤r.2.length)↔za1 n s.2=4:=by
 have h4:=h.good.len4
 rw [h.len]
 have hnd:=zkm h.good.wsn h.good.dif
 have hsub:∀ x∈s.2.map (fun p=>p.2.slot),x∈[2 * (n:Int),2 * (n:Int)+1,2 * (n:Int)+2,2 * (n:Int)+3]:=fun x hx=>by
  obtain ⟨p,hp,rfl⟩:=List.mem_map.1 hx
  have:=h.good.ins p hp
  simp only [List.mem_cons,List.not_mem_nil,or_false]
  omega
 have hus:∀ t:Nat,zhl n s.2 t=true↔((2 * n+t:Nat):Int)∈s.2.map (fun p=>p.2.slot):=fun t=>by
  unfold zhl
  rw [List.any_eq_true,List.mem_map]
  constructor
  · rintro ⟨p,hp,e⟩;exact ⟨p,hp,of_decide_eq_true e⟩
  · rintro ⟨p,hp,e⟩;exact ⟨p,hp,decide_eq_true e⟩
 constructor
 · intro hge
   -- the four places are all there
   have hall:∀ t:Nat,t<4→zhl n s.2 t=true:=fun t ht=>by
    rw [hus]
    refine Classical.byContradiction fun hno=>?_
    have h1:=zci hnd (l':=[2 * (n:Int),2 * (n:Int)+1,2 * (n:Int)+2,2 * (n:Int)+3].erase ((2 * n+t:Nat):Int)) (fun x hx=>by
     exact (List.mem_erase_of_ne (fun (e:x=((2 * n+t:Nat):Int))=>hno (by rw [← e];exact hx))).2 (hsub x hx))
    rw [List.length_erase_of_mem (by simp only [List.mem_cons,List.not_mem_nil,or_false];omega),List.length_map] at h1
    simp only [List.length_cons,List.length_nil] at h1
    omega
   unfold za1
   rw [if_neg (by rw [hall 0 (by omega)];simp),if_neg (by rw [hall 1 (by omega)];simp),if_neg (by rw [hall 2 (by omega)];simp),if_neg (by rw [hall 3 (by omega)];simp)]
 · intro hf
   have hall:∀ t:Nat,t<4→zhl n s.2 t=true:=fun t ht=>zr3 (by omega)
   have h1:=zci (l:=[((2 * n+0:Nat):Int),((2 * n+1:Nat):Int),((2 * n+2:Nat):Int),((2 * n+3:Nat):Int)]) (l':=s.2.map fun p=>p.2.slot)
    (by simp only [List.nodup_cons,List.mem_cons,List.not_mem_nil,or_false,not_false_eq_true,List.nodup_nil,and_true];omega)
    (fun x hx=>by
      simp only [List.mem_cons,List.not_mem_nil,or_false] at hx
      rcases hx with rfl|rfl|rfl|rfl
      · exact (hus 0).1 (hall 0 (by omega))
      · exact (hus 1).1 (hall 1 (by omega))
      · exact (hus 2).1 (hall 2 (by omega))
      · exact (hus 3).1 (hall 3 (by omega)))
   rw [List.length_map] at h1
   simpa using h1
theorem Mt.prepE {n:Nat} {s:SS} {r:RS} (h:Mt n s r) (id:Int) (l:List Tw):(zet r id l).1=prepE n s.1 s.2 id l:=by
 have hv:=h.good.vlen
 unfold zet Ytlejjdbmmdghmaa.prepE
 by_cases c1:id<1∨1099511627776<id∨¬ Rgt n l
 · have q:¬ zb8 id∨¬ Rgt r.1.length l:=by
    rw [hv];unfold zb8
    rcases c1 with c1|c1|c1<;>first|(left;omega)|exact .inr c1
   rw [if_pos c1,if_pos q]
 have hr:Rgt n l:=Classical.byContradiction fun h'=>c1 (.inr (.inr h'))
 have q:¬ (¬ zb8 id∨¬ Rgt r.1.length l):=by
  rw [hv];unfold zb8
  rintro (h2|h2)<;>first|omega|exact h2 hr
 rw [if_neg c1,if_neg q]
 by_cases c2:(zbo s.2 id).isSome=true
 · rw [if_pos c2,if_pos ((h.has id).2 c2)]
 rw [if_neg c2,if_neg (fun h'=>c2 ((h.has id).1 h'))]
 have e3:l.any (zhg r.2)=l.any (zez s.2):=zl0 fun x _=>h.held x
 rw [e3]
 by_cases c3:l.any (zez s.2)=true
 · rw [if_pos c3,if_pos c3]
 rw [if_neg c3,if_neg c3,h.stale hr]
 by_cases c4:Ytlejjdbmmdghmaa.stale n s.1 l=true
 · rw [if_pos c4,if_pos c4]
 rw [if_neg c4,if_neg c4]
 by_cases c5:za1 n s.2=4
 · rw [if_pos c5,if_pos (h.full.2 c5)]
 · rw [if_neg c5,if_neg (fun h'=>c5 (h.full.1 h'))]
theorem zkx (id:Int) (l:List Tw):∀ ps:List (Int×List Tw),(zmp id l ps).Perm ((id,l)::ps)
 | []=>List.Perm.refl _
 | p::ps=>by
   unfold zmp
   split
   · exact List.Perm.refl _
   · exact ((zkx id l ps).cons p).trans (List.Perm.swap _ _ _)
theorem zoz {id:Int} {l:List Tw}:∀ {ps:List (Int×List Tw)},(ps.map (·.1)).Pairwise (·<·)→id ∉ ps.map (·.1)→((zmp id l ps).map (·.1)).Pairwise (·<·)
 | [],_,_=>by simp [zmp]
 | p::ps,hs,hn=>by
   rw [List.map_cons,List.pairwise_cons] at hs
   rw [List.map_cons,List.mem_cons] at hn
   unfold zmp
   by_cases h:id<p.1
   · rw [if_pos h,List.map_cons,List.map_cons,List.pairwise_cons,List.pairwise_cons]
     refine ⟨fun x hx=>?_,hs⟩
     rcases List.mem_cons.1 hx with rfl|hx
     · exact h
     · have:=hs.1 x hx;exact Int.lt_trans h this
   · rw [if_neg h,List.map_cons,List.pairwise_cons]
     refine ⟨fun x hx=>?_,zoz hs.2 (fun h'=>hn (.inr h'))⟩
     rw [((zkx id l ps).map _).mem_iff,List.map_cons,List.mem_cons] at hx
     rcases hx with e0|hx
     · have:p.1≠id:=fun e=>hn (.inl e.symm)
       rw [e0]
       show p.1<id
       omega
     · exact hs.1 x hx
theorem Mt.prep {n:Nat} {s:SS} {r:RS} (h:Mt n s r) (id:Int) (l:List Tw):Mt n (prepS n id l s) (zet r id l).2:=by
 have he:=h.prepE id l
 by_cases hz:Ytlejjdbmmdghmaa.prepE n s.1 s.2 id l=0
 · have hg:=h.good.prepS id l
   obtain ⟨_,_,hr,hn,_,_,_⟩:=zro hz
   rw [hz] at he
   have h2:(zet r id l).2=(r.1,zmp id l r.2):=by
    unfold zet at he ⊢
    (repeat' split at he)<;>first|(exfalso;simp at he;done)|skip
    rename_i c1 c2 c3 c4 c5
    rw [if_neg c1,if_neg c2,if_neg c3,if_neg c4,if_neg c5]
   have hS:(prepS n id l s).2=zjz s.2 id ⟨((2 * n+za1 n s.2:Nat):Int),l⟩:=by unfold prepS;rw [if_pos hz];rfl
   rw [h2]
   refine ⟨hg,?_,?_⟩
   · rw [hS]
     refine List.Perm.trans ?_ (zkx id l r.2).symm
     have hm:=zjt (m:=s.2) id (⟨((2 * n+za1 n s.2:Nat):Int),l⟩:Wr)
     rw [ze7 hn] at hm
     exact (hm.map _).trans (h.perm.cons _)
   · refine zoz h.sort fun hmem=>?_
     rw [← (h.perm.map _).mem_iff,zgs] at hmem
     exact zj0.1 hn hmem
 · have e1:prepS n id l s=s:=by unfold prepS;rw [if_neg hz]
   have e2:(zet r id l).2=r:=by
    rw [← he] at hz
    unfold zet at hz ⊢
    (repeat' split)<;>first|rfl|skip
    rename_i c1 c2 c3 c4 c5
    rw [if_neg c1,if_neg c2,if_neg c3,if_neg c4,if_neg c5] at hz
    exact absurd rfl hz
   rw [e1,e2];exact h
end Go.Proofs.Ytlejjdbmmdghmaa
namespace Go.Proofs.Ytlejjdbmmdghmaa
open Go Go.E2 C22 C40
theorem zzy (id:Int):∀ (ps:List (Int×List Tw)) (i a:Nat) (ha:a<ps.length),fdP id ps i=((i+a:Nat):Int)→ps[a].1=id
 | [],_,_,ha,_=>by simp at ha
 | p::ps,i,a,ha,h=>by
   unfold fdP at h
   by_cases e:p.1=id
   · rw [if_pos e] at h
     have:a=0:=by omega
     subst this;exact e
   · rw [if_neg e] at h
     cases a with
     | zero =>
      rcases zrm id ps (i+1) with h2|⟨h2,_⟩<;>omega
     | succ a=>exact zzy id ps (i+1) a (by simpa using ha) (by rw [h];congr 1;omega)
theorem Mt.dec {n:Nat} {s:SS} {r:RS} (h:Mt n s r) (id:Int) (c:Bool):Mt n (zfl id c s) (zki r id c).2:=by
 have hg:=h.good.decS id c
 by_cases hid:zb8 id
 case neg =>
  have e1:zfl id c s=s:=by unfold zfl;rw [zms,if_neg hid]
  have e2:(zki r id c).2=r:=by unfold zki;rw [if_pos hid]
  rw [e1,e2];exact h
 cases hm:zbo s.2 id with
 | none =>
  have e1:zfl id c s=s:=by unfold zfl;rw [zms,if_pos hid,hm]
  have hf:fdP id r.2 0<0:=by
   have:¬ 0≤fdP id r.2 0:=fun h'=>by have:=(h.has id).1 h';rw [hm] at this;simp at this
   omega
  have e2:(zki r id c).2=r:=by unfold zki;rw [if_neg (fun h'=>h' hid),if_pos hf]
  rw [e1,e2];exact h
 | some w =>
  have hf:0≤fdP id r.2 0:=(h.has id).2 (by rw [hm];rfl)
  have hlt:=zrm id r.2 0
  obtain ⟨a,ha⟩:∃ a:Nat,fdP id r.2 0=a:=Int.eq_ofNat_of_zero_le hf
  have hal:a<r.2.length:=by omega
  have hat:=zzy id r.2 0 a hal (by rw [ha];simp)
  have hgd:r.2.getD a (0,[])=r.2[a]:=by rw [List.getD_eq_getElem?_getD,List.getElem?_eq_getElem hal];rfl
  have hw:(r.2[a]).2=w.l:=by
   obtain ⟨u,hu,e⟩:=h.mem.1 (List.getElem_mem hal)
   rw [hat] at hu
   have:=zem h.good.wsn hu
   rw [hm] at this
   rw [← e,Option.some.inj this]
  have hpa:r.2[a]=(id,w.l):=Prod.ext hat hw
  have e1:zfl id c s=(zkv c id.toNat w.slot.toNat w.l s.1,mdel s.2 id):=by unfold zfl;rw [zms,if_pos hid,hm]
  have e2:(zki r id c).2=(if c then zis w.l r.1 else r.1,r.2.eraseIdx a):=by
   unfold zki;rw [if_neg (fun h'=>h' hid),if_neg (by omega),ha,Int.toNat_natCast,hgd,hw]
  have e3:z76 id c s r.1=if c then zis w.l r.1 else r.1:=by unfold z76;rw [if_pos hid,hm]
  rw [e3] at hg
  rw [e2]
  refine ⟨hg,?_,?_⟩
  · rw [e1]
    show (ziy (mdel s.2 id)).Perm (r.2.eraseIdx a)
    have p1:(ziy s.2).Perm ((id,w.l)::ziy (mdel s.2 id)):=(znp hm).map _
    have p2:(r.2[a]::r.2.eraseIdx a).Perm r.2:=by
     have e:r.2=r.2.take a++r.2[a]::r.2.drop (a+1):=by rw [← List.drop_eq_getElem_cons hal,List.take_append_drop]
     rw [List.eraseIdx_eq_take_drop_succ]
     refine List.perm_middle.symm.trans ?_
     rw [← e]
    rw [hpa] at p2
    exact ((p1.symm.trans h.perm).trans p2.symm).cons_inv
  · exact h.sort.sublist ((List.eraseIdx_sublist r.2 a).map _)
theorem Mt.fresh {n:Nat} (h1:1≤n) (h2:n≤16):Mt n (List.replicate (2 * n+4) [],[]) (List.replicate n (0,[]),[]):=⟨zhi.fresh h1 h2,List.Perm.refl _,by simp⟩
def idD (b:Str):Option Int:=if b=[] then none else some (zo4 b:Int)
def ze0 (c:List Str):List Int:=c.filterMap idD
structure DMt (c:List Str) (d:RD):Prop where
 len:c.length=4
 room:d.2=4
 ok:DOk c
 ids:∀ b∈c,b≠[]→1≤zo4 b
 nd:d.1.Nodup
 perm:(ze0 c).Perm d.1
theorem zm2 {c:List Str} {j:Nat} (hj:j<c.length) (b:Str):ze0 (c.set j b)=ze0 (c.take j)++(idD b).toList++ze0 (c.drop (j+1)):=by
 rw [List.set_eq_take_append_cons_drop,if_pos hj]
 unfold ze0
 rw [List.filterMap_append,List.filterMap_cons]
 cases idD b<;>simp
theorem zig {c:List Str} {j:Nat} (hj:j<c.length):ze0 c=ze0 (c.take j)++(idD c[j]).toList++ze0 (c.drop (j+1)):=by
 have:=zm2 hj c[j]
 rw [List.set_getElem_self] at this
 exact this
theorem DMt.le {c:List Str} {d:RD} (h:DMt c d):d.1.length≤4:=by
 rw [← h.perm.length_eq]
 have:=List.length_filterMap_le idD c
 have:=h.len
 unfold ze0;omega
theorem zm3 (id:Int):∀ (c:List Str) (i:Nat),0≤fdI id c i↔∃ b∈c,isD id b=true
 | [],i=>by simp [fdI]
 | b::c,i=>by
   unfold fdI
   by_cases h:isD id b=true
   · rw [if_pos h];simp only [List.mem_cons]
     exact ⟨fun _=>⟨b,.inl rfl,h⟩,fun _=>by omega⟩
   · rw [if_neg h,zm3 id c (i+1)]
     simp only [List.mem_cons]
     constructor
     · rintro ⟨x,hx,e⟩;exact ⟨x,.inr hx,e⟩
     · rintro ⟨x,rfl|hx,e⟩
       · exact absurd e h
       · exact ⟨x,hx,e⟩
theorem zwy (id:Int):∀ (c:List Str) (i a:Nat) (ha:a<c.length),fdI id c i=((i+a:Nat):Int)→isD id c[a]=true
 | [],_,_,ha,_=>by simp at ha
 | p::ps,i,a,ha,h=>by
   unfold fdI at h
   by_cases e:isD id p=true
   · rw [if_pos e] at h
     have:a=0:=by omega
     subst this;exact e
   · rw [if_neg e] at h
     cases a with
     | zero =>
      rcases zlz id ps (i+1) with h2|⟨h2,_⟩<;>omega
     | succ a=>exact zwy id ps (i+1) a (by simpa using ha) (by rw [h];congr 1;omega)
theorem zwz {id:Int} (h:1≤id) (b:Str):isD id b=true↔idD b=some id:=by
 unfold isD idD
 by_cases hb:b=[]
 · rw [if_pos hb,if_pos hb];simp;omega
 · rw [if_neg hb,if_neg hb];simp
theorem DMt.has {c:List Str} {d:RD} (h:DMt c d) {id:Int} (hid:zb8 id):(0≤fdI id c 0)↔id∈d.1:=by
 rw [zm3,← h.perm.mem_iff]
 unfold ze0
 rw [List.mem_filterMap]
 exact exists_congr fun b=>and_congr_right fun _=>zwz hid.1 b
theorem DMt.out {c:List Str} {d:RD} (h:DMt c d) {id:Int} (hid:zb8 id):zix c id=decide (id∈d.1):=by
 unfold zix
 by_cases hm:id∈d.1
 · rw [decide_eq_true ⟨hid,(h.has hid).2 hm⟩,decide_eq_true hm]
 · rw [decide_eq_false (fun h'=>hm ((h.has hid).1 h'.2)),decide_eq_false hm]
theorem DMt.free {c:List Str} {d:RD} (h:DMt c d):(fdI 0 c 0<0)↔d.2≤d.1.length:=by
 have hz:∀ b∈c,(isD 0 b=true↔b=[]):=fun b hb=>by
  unfold isD
  by_cases e:b=[]
  · rw [if_pos e];simp [e]
  · rw [if_neg e]
    have:=h.ids b hb e
    simp [e];omega
 have hlen:=h.len
 rw [h.room,← h.perm.length_eq]
 have key:(∀ b∈c,b≠[])↔(4:Int)≤(ze0 c).length:=by
  have hf:(∀ b∈c,b≠[])→(ze0 c).length=c.length:=by
   unfold ze0
   intro hno
   clear hz h hlen
   induction c with
   | nil=>rfl
   | cons b c ih =>
    have hb:=hno b List.mem_cons_self
    rw [List.filterMap_cons]
    unfold idD at ih ⊢
    rw [if_neg hb]
    simp only [List.length_cons]
    rw [ih fun x hx=>hno x (List.mem_cons_of_mem _ hx)]
  constructor
  · intro hno;rw [hf hno];omega
  · intro hge b hb e
    subst e
    obtain ⟨j,hj,hje⟩:=List.getElem_of_mem hb
    have hsp:=zig hj
    rw [hje] at hsp
    have l1:(ze0 (c.take j)).length≤(c.take j).length:=List.length_filterMap_le _ _
    have l2:(ze0 (c.drop (j+1))).length≤(c.drop (j+1)).length:=List.length_filterMap_le _ _
    rw [List.length_take] at l1
    rw [List.length_drop] at l2
    have:(ze0 c).length=(ze0 (c.take j)).length+(ze0 (c.drop (j+1))).length:=by rw [hsp];simp [idD]
    omega
 rw [← key]
 constructor
 · intro hlt b hb e
   have:=(zm3 0 c 0).2 ⟨b,hb,(hz b hb).2 e⟩
   omega
 · intro hno
   have:¬ 0≤fdI 0 c 0:=fun h'=>by
    obtain ⟨b,hb,e⟩:=(zm3 0 c 0).1 h'
    exact hno b hb ((hz b hb).1 e)
   omega
theorem DMt.recE {c:List Str} {d:RD} (h:DMt c d) (id:Int):(zib d id).1=Ytlejjdbmmdghmaa.recE c id:=by
 by_cases hid:zb8 id
 · have e1:zib d id=if id∈d.1 then (0,d) else if d.2≤d.1.length then (13,d) else (0,(d.1++[id],d.2)):=if_neg (fun h'=>h' hid)
   have e2:Ytlejjdbmmdghmaa.recE c id=if 0≤fdI id c 0 then 0 else if fdI 0 c 0<0 then 13 else 0:=if_neg (fun h'=>h' hid)
   rw [e1,e2]
   by_cases hm:id∈d.1
   · rw [if_pos hm,if_pos ((h.has hid).2 hm)]
   · rw [if_neg hm,if_neg (fun h'=>hm ((h.has hid).1 h'))]
     by_cases hf:fdI 0 c 0<0
     · rw [if_pos hf,if_pos (h.free.1 hf)]
     · rw [if_neg hf,if_neg (fun h'=>hf (h.free.2 h'))]
 · have e1:zib d id=(1,d):=if_pos hid
   have e2:Ytlejjdbmmdghmaa.recE c id=1:=if_pos hid
   rw [e1,e2]
theorem DMt.recd {c:List Str} {d:RD} (h:DMt c d) (id:Int):DMt (zho c id) (zib d id).2:=by
 have hok:=h.ok.rec id
 unfold zib
 by_cases hid:zb8 id
 case neg =>
  have e:zho c id=c:=if_pos hid
  rw [if_pos hid,e];exact h
 rw [if_neg (fun h'=>h' hid)]
 by_cases hm:id∈d.1
 · have e:zho c id=c:=by unfold zho;rw [if_neg (fun h'=>h' hid),if_pos ((h.has hid).2 hm)]
   rw [if_pos hm,e];exact h
 rw [if_neg hm]
 by_cases hf:fdI 0 c 0<0
 · have e:zho c id=c:=by unfold zho;rw [if_neg (fun h'=>h' hid),if_neg (fun h'=>hm ((h.has hid).1 h')),if_pos hf]
   rw [if_pos (h.free.1 hf),e];exact h
 rw [if_neg (fun h'=>hf (h.free.2 h'))]
 have e:zho c id=c.set (fdI 0 c 0).toNat (zeg id.toNat):=by unfold zho;rw [if_neg (fun h'=>h' hid),if_neg (fun h'=>hm ((h.has hid).1 h')),if_neg hf]
 rw [e] at hok ⊢
 obtain ⟨j,hj⟩:∃ j:Nat,fdI 0 c 0=j:=Int.eq_ofNat_of_zero_le (by omega)
 have hlt:=zlz 0 c 0
 have hjl:j<c.length:=by omega
 have hat:=zwy 0 c 0 j hjl (by rw [hj];simp)
 rw [hj,Int.toNat_natCast] at hok ⊢
 have hid1:=hid.1
 have hid2:=hid.2
 have hval:zo4 (zeg id.toNat)=id.toNat:=by have:=zmv (n:=id.toNat) (by omega) [];rwa [List.append_nil] at this
 have hne:zeg id.toNat≠[]:=by have:=zp9 id.toNat [];rwa [List.append_nil] at this
 have hcj:c[j]=[]:=by
  refine Classical.byContradiction fun h'=>?_
  unfold isD at hat
  rw [if_neg h'] at hat
  have:=h.ids _ (List.getElem_mem hjl) h'
  have:=of_decide_eq_true hat
  omega
 refine ⟨by rw [List.length_set];exact h.len,h.room,hok,fun b hb hb0=>?_,?_,?_⟩
 · rcases zkt hb with rfl|hb
   · rw [hval];omega
   · exact h.ids b hb hb0
 · show (d.1++[id]).Nodup
   rw [List.nodup_append]
   exact ⟨h.nd,by simp,fun x hx y hy=>by rw [List.mem_singleton] at hy;subst hy;exact fun e=>hm (e▸hx)⟩
 · show (ze0 (c.set j (zeg id.toNat))).Perm (d.1++[id])
   have hd:idD (zeg id.toNat)=some id:=by unfold idD;rw [if_neg hne,hval];congr 1;omega
   have hsp:=zig hjl
   rw [hcj] at hsp
   rw [zm2 hjl,hd]
   have hsp2:ze0 c=ze0 (c.take j)++ze0 (c.drop (j+1)):=by rw [hsp];simp [idD]
   have p:=h.perm
   rw [hsp2] at p
   have p2:(ze0 (c.take j)++[id]++ze0 (c.drop (j+1))).Perm (id::(ze0 (c.take j)++ze0 (c.drop (j+1)))):=by
    rw [List.append_assoc];exact List.perm_middle
   exact (p2.trans (p.cons id)).trans (List.perm_append_singleton id d.1).symm
theorem DMt.forE {c:List Str} {d:RD} (_:DMt c d) (id:Int):(zto d id).1=zr6 id:=by
 unfold zto zr6
 by_cases hid:zb8 id
 · rw [if_neg (fun h'=>h' hid),if_pos hid]
 · rw [if_pos hid,if_neg hid]
theorem DMt.for {c:List Str} {d:RD} (h:DMt c d) (id:Int):DMt (zqe c id) (zto d id).2:=by
 have hok:=h.ok.for id
 unfold zto
 by_cases hid:zb8 id
 case neg =>
  have e:zqe c id=c:=by unfold zqe zix;rw [decide_eq_false (fun h'=>hid h'.1),if_neg (by simp)]
  rw [if_pos hid,e];exact h
 rw [if_neg (fun h'=>h' hid)]
 by_cases hm:id∈d.1
 case neg =>
  have e:zqe c id=c:=by unfold zqe;rw [h.out hid,decide_eq_false hm,if_neg (by simp)]
  rw [e]
  have e2:(d.1.filter fun x=>decide (x≠id))=d.1:=List.filter_eq_self.2 fun x hx=>decide_eq_true (fun (e:x=id)=>hm (e▸hx))
  show DMt c (d.1.filter fun x=>decide (x≠id),d.2)
  rw [e2];exact h
 have e:zqe c id=c.set (fdI id c 0).toNat []:=by unfold zqe;rw [h.out hid,decide_eq_true hm,if_pos rfl]
 rw [e] at hok ⊢
 obtain ⟨j,hj⟩:∃ j:Nat,fdI id c 0=j:=Int.eq_ofNat_of_zero_le ((h.has hid).2 hm)
 have hlt:=zlz id c 0
 have hjl:j<c.length:=by omega
 have hat:=(zwz hid.1 _).1 (zwy id c 0 j hjl (by rw [hj];simp))
 rw [hj,Int.toNat_natCast] at hok ⊢
 refine ⟨by rw [List.length_set];exact h.len,h.room,hok,fun b hb hb0=>?_,h.nd.sublist List.filter_sublist,?_⟩
 · rcases zkt hb with rfl|hb
   · exact absurd rfl hb0
   · exact h.ids b hb hb0
 · show (ze0 (c.set j [])).Perm (d.1.filter fun x=>decide (x≠id))
   have hsp:=zig hjl
   rw [hat] at hsp
   have zey:ze0 (c.set j [])=ze0 (c.take j)++ze0 (c.drop (j+1)):=by rw [zm2 hjl];simp [idD]
   rw [zey]
   have p2:(ze0 c).Perm (id::(ze0 (c.take j)++ze0 (c.drop (j+1)))):=by
    rw [hsp,Option.toList_some,List.append_assoc];exact List.perm_middle
   have p3:=(h.perm.symm.trans p2).filter (fun x=>decide (x≠id))
   have hnd:=(h.perm.symm.trans p2).nodup_iff.1 h.nd
   rw [List.nodup_cons] at hnd
   rw [List.filter_cons,if_neg (by simp)] at p3
   have e9:((ze0 (c.take j)++ze0 (c.drop (j+1))).filter fun x=>decide (x≠id))=ze0 (c.take j)++ze0 (c.drop (j+1)):=List.filter_eq_self.2 fun x hx=>decide_eq_true (fun (e:x=id)=>hnd.1 (e▸hx))
   rw [e9] at p3
   exact p3.symm
theorem DMt.start:DMt (rep 4) ([],4):=⟨rfl,rfl,zmz,fun _b hb hb0=>absurd (List.mem_replicate.1 hb).2 hb0,List.nodup_nil,List.Perm.refl _⟩
end Go.Proofs.Ytlejjdbmmdghmaa
namespace Go.Proofs.Ytlejjdbmmdghmaa
open Go Go.E2 C22 C40
theorem zzz {s:SS} {r:RS} (h:Mt 2 s r) (l:List Tw) (id:Int):zk8 l id s=qE l id r:=by
 unfold zk8 qE
 by_cases hl:l=[]
 · rw [if_pos hl,if_pos hl]
 · rw [if_neg hl,if_neg hl];exact (h.prepE id l).symm
theorem Mt.q {s:SS} {r:RS} (h:Mt 2 s r) (l:List Tw) (id:Int):Mt 2 (prpS l id s) (qS l id r):=by
 unfold prpS qS
 by_cases hl:l=[]
 · rw [if_pos hl,if_pos hl];exact h
 · rw [if_neg hl,if_neg hl];exact h.prep id l
theorem Mt.qd {s:SS} {r:RS} (h:Mt 2 s r) (l:List Tw) (id:Int) (c:Bool):Mt 2 (dcS l id c s) (qD l id c r):=by
 unfold dcS qD
 by_cases hl:l=[]
 · rw [if_pos hl,if_pos hl];exact h
 · rw [if_neg hl,if_neg hl];exact h.dec id c
theorem zo0 (l0 l1:List Tw):zc2 [l0,l1]=false↔l0=[]∧l1=[]:=by
 simp [zc2]
theorem zy5 {dc:List Str} {d:RD} {s0 s1:SS} {r0 r1:RS} (hd:DMt dc d) (h0:Mt 2 s0 r0) (h1:Mt 2 s1 r1) (id:Int) (l0 l1:List Tw) :
 (zit dc s0 s1 id l0 l1).is=(zi1 d r0 r1 id l0 l1).is∧(zit dc s0 s1 id l0 l1).e=(zi1 d r0 r1 id l0 l1).e∧DMt (zit dc s0 s1 id l0 l1).dc d ∧
 Mt 2 (zit dc s0 s1 id l0 l1).s0 (zi1 d r0 r1 id l0 l1).r0∧Mt 2 (zit dc s0 s1 id l0 l1).s1 (zi1 d r0 r1 id l0 l1).r1:=by
 unfold zit zi1
 by_cases c1:(l0=[]∧l1=[])∨¬ zb8 id
 · have c1':zc2 [l0,l1]=false∨¬ zb8 id:=c1.imp (zo0 l0 l1).2 fun h=>h
   rw [if_pos c1,if_pos c1'];exact ⟨rfl,rfl,hd,h0,h1⟩
 have c1':¬ (zc2 [l0,l1]=false∨¬ zb8 id):=fun h=>c1 (h.imp (zo0 l0 l1).1 fun h=>h)
 have hid:zb8 id:=Classical.byContradiction fun h=>c1 (.inr h)
 rw [if_neg c1,if_neg c1']
 by_cases c2:id∈d.1
 · rw [if_pos (by rw [hd.out hid];exact decide_eq_true c2),if_pos c2];exact ⟨rfl,rfl,hd,h0,h1⟩
 rw [if_neg (by rw [hd.out hid,decide_eq_false c2];simp),if_neg c2]
 rw [zzz h0,zzz h1]
 by_cases c3:qE l0 id r0≠0
 · rw [if_pos c3,if_pos c3];exact ⟨rfl,rfl,hd,h0,h1⟩
 rw [if_neg c3,if_neg c3]
 by_cases c4:qE l1 id r1≠0
 · rw [if_pos c4,if_pos c4];exact ⟨rfl,rfl,hd,(h0.q l0 id).qd l0 id false,h1⟩
 rw [if_neg c4,if_neg c4]
 have he:=hd.recE id
 rw [he]
 by_cases c5:recE dc id≠0
 · rw [if_pos c5,if_pos c5];exact ⟨rfl,rfl,hd,h0.q l0 id,h1.q l1 id⟩
 rw [if_neg c5,if_neg c5]
 refine ⟨rfl,rfl,?_,(h0.q l0 id).qd l0 id true,(h1.q l1 id).qd l1 id true⟩
 have h2:=(hd.recd id).for id
 have e1:(zib d id).2=(d.1++[id],d.2):=by
  rw [← he] at c5
  unfold zib at c5 ⊢
  rw [if_neg (fun h=>h hid),if_neg c2] at c5 ⊢
  by_cases c6:d.2≤d.1.length
  · rw [if_pos c6] at c5;exact (c5 (fun h=>by simp at h)).elim
  · rw [if_neg c6]
 have e2:(zto (zib d id).2 id).2=d:=by
  rw [e1]
  unfold zto
  rw [if_neg (fun h=>h hid)]
  show ((d.1++[id]).filter (fun x=>decide (x≠id)),d.2)=d
  have e9:(d.1.filter fun x=>decide (x≠id))=d.1:=List.filter_eq_self.2 fun x hx=>decide_eq_true (fun (e:x=id)=>c2 (e▸hx))
  rw [List.filter_append,e9]
  simp
 rw [e2] at h2
 exact h2
theorem zr7 {dc:List Str} {d:RD} (hd:DMt dc d):∀ (l:List Int),(∀ id∈l,zb8 id)→∀ {s:SS} {r:RS},Mt 2 s r→Mt 2 (setL dc l s) (zhj d l r)
 | [],_,s,r,h=>h
 | id::l,hl,s,r,h=>by
   rw [setL,hd.out (hl id List.mem_cons_self)]
   exact zr7 hd l (fun x hx=>hl x (List.mem_cons_of_mem _ hx)) (h.dec id _)
theorem Mt.set {dc:List Str} {d:RD} (hd:DMt dc d) {s:SS} {r:RS} (h:Mt 2 s r):Mt 2 (zex dc s) (zec d r):=by
 unfold zex zec
 rw [h.pend]
 refine zr7 hd _ (fun id hid=>?_) h
 rw [← h.pend] at hid
 exact h.good.pendOk id hid
end Go.Proofs.Ytlejjdbmmdghmaa
