/-
 Layer 40 (txn): a prepared write decided.
 Conditions: of each contract as it says.
-/
import Derived.Test.YtlejjdbmmdghmaaX6
set_option linter.unusedSimpArgs false
namespace Go.Proofs.Ytlejjdbmmdghmaa
open Go Go.E2 C22 C40
set_option maxHeartbeats 2000000
theorem preR {P:Program} {af:AFuncD} {Q:AV→List Hp→Gh→Prop} {st:St} (h:Go.E2.Fin af.res (zu.mk (a:=Q)) st):z18 P af Q .ret st:=h
theorem preN {P:Program} {af:AFuncD} {Q:AV→List Hp→Gh→Prop} {ρ:Env} {L:Hp} {σ:List Hp} {G:Gh} (ds:List D) (hd:zx ρ af.caps=some ds) (ho:ds.all D.one=true)
 (h:∀ dd:DD,@W dd P af.body _ (zu.mk (a:=z3r P af ds Q)) (put ρ (some af.d) (.d (.clo af.f ds)),L,σ,G)):z18 P af Q .normal (ρ,L,σ,G):=⟨ds,hd,ho,h⟩
theorem endN {P:Program} {af:AFuncD} {Q:AV→List Hp→Gh→Prop} {ds:List D} {ρ:Env} {L:Hp} {σ:List Hp} {G:Gh} (h:zl9 P af.f ds G fun G'=>Go.E2.Fin af.res (zu.mk (a:=Q)) (ρ,L,σ,G')):z3r P af ds Q .ret (ρ,L,σ,G):=⟨.inr rfl,h⟩
def zdr:List Tw→List Str→List Str
 | [],c=>c
 | x::l,c=>zdr l (if x.rd then c else c.set (2 * x.key.toNat+1) [])
theorem zow:∀ (a b:List Tw) (c:List Str),zdr (a++b) c=zdr b (zdr a c)
 | [],b,c=>rfl
 | x::a,b,c=>by rw [List.cons_append,zdr,zdr,zow a b]
theorem zku:∀ (l:List Tw) (c:List Str),(zdr l c).length=c.length
 | [],c=>rfl
 | x::l,c=>by rw [zdr,zku l];split<;>simp
def z52 (b:Str):Str:=b.take 6++2::b.drop 7
def zkv (commit:Bool) (id:Nat) (s:Nat) (l:List Tw) (c:List Str):List Str :=
 if commit then (ziv id l (c.set s (z52 (c.getD s [])))).set s [] else zdr l (c.set s [])
theorem zti (b3 b4 b6:Nat) (G:Gh) (R:List As) (sb q mr n:Nat) (ws:List (Int×Wr)) (e id:Int)
 (h:Sep (ze b3 [.gp sb 0]::ze b4 [.int .i64 id]::ze b6 [.int .i64 e]::SiA sb q mr n::MwA mr ws::R) G) :
 zl9 Try.prog f_zz26 [.gp b6 0,.gp b3 0,.gp b4 0] G fun G'=>Sep (ze b3 [.gp sb 0]::ze b4 [.int .i64 id]::ze b6 [.int .i64 e]::SiA sb q mr n::MwA mr (if e=0 then mdel ws id else ws)::R) G':=by
 refine zsp fol zz26_cp ?_
 have hc3:=h.get
 have hc4:=h.tail.get
 have hc6:=h.tail.tail.get
 have hg:=Sep.get (b:=sb) (cs:=[eSt q,.int .i64 n,.mref mr]) h.tail.tail.tail
 by_cases he:e=0
 · subst he
   refine goS trivial ?_
   (refine goX (nn hc3 (nn hc4 (nn hc6 hg))) ?_;(repeat' (with_reducible apply Br.mk<;>intro _)))
   have h2:Sep (MwA mr ws::ze b3 [.gp sb 0]::ze b4 [.int .i64 id]::ze b6 [.int .i64 0]::SiA sb q mr n::R) G:=h.perm pp
   refine z0x (emb:=eI) (vf:=eWr) (Sep.map h2) id fun M hM=>?_
   have h3:=Sep.mapSet h2 hM
   refine goS trivial ?_
   (refine goX trivial ?_;(repeat' (with_reducible apply Br.mk<;>intro _)))
   exact Fin.eq rfl ⟨rfl,h3.perm pp⟩
 · rw [if_neg he]
   refine goS trivial ?_
   (refine goX (nn hc3 (nn hc4 (nn hc6 (nn hg he)))) ?_;(repeat' (with_reducible apply Br.mk<;>intro _)))
   exact Fin.eq rfl ⟨rfl,h⟩
theorem zl9.mono {P:Program} {f:FuncId} {vs:List D} {G:Gh} {Q Q':Gh→Prop} (h:zl9 P f vs G Q) (hq:∀ G',Q G'→Q' G'):zl9 P f vs G Q' :=
 ⟨h.1,fun S w args u h1 h2=>(h.2 S w args u h1 h2).mono fun _ _ _ ⟨a,v,b,c⟩=>⟨a,v,b,c.mono fun _ _ _ ⟨x,y⟩=>⟨x,hq _ y⟩⟩⟩
structure WrOk (n:Nat) (c:List Str) (w:Wr) (s:Nat):Prop where
 slot:w.slot=s
 lo:2 * n≤s
 hi:s<2 * n+4
 note:7≤(c.getD s []).length
 short:w.l.length≤16
 keys:∀ x∈w.l,0≤x.key∧x.key<n
def zwt (id:Int):Int:=if id<1∨1099511627776<id then 1 else 0
def decS (c:List Str) (ws:List (Int×Wr)) (id:Int) (commit:Bool):List Str×List (Int×Wr) :=
 if id<1∨1099511627776<id then (c,ws) else
 match zbo ws id with
 | none=>(c,ws)
 | some w=>(zkv commit id.toNat w.slot.toNat w.l c,mdel ws id)
theorem zwu (sb n:Nat) (m:Int) (c:List Str) (ws:List (Int×Wr)) (hc:Odd n c) (hm:m≤400000000) (id:Int) (commit:Bool) (hw:∀ w,zbo ws id=some w→∃ s,WrOk n c w s) :
 zy Try.prog f_zz44 [.gp sb 0,.int .i64 id,.bool commit] [zee sb n m c ws] (fun r post=>r=.d (.int .i64 (zwt id))∧post=[zee sb n (m+400) (decS c ws id commit).1 (decS c ws id commit).2]):=by
 intro R G σ hs
 refine zpi fol zz44_cp ?_
 show WL Try.prog [zdy,zdz,zd0,zd1] (z18 Try.prog zz44_F _) _
 have hs:Sep (zee sb n m c ws::R) G:=hs
 refine WL.cons ?_
 refine goS trivial ?_
 refine goR trivial ?_
 refine zam fun b3 hb3=>?_
 have h1:Sep (ze b3 [.gp sb 0]::zee sb n m c ws::R) (G.set b3 (some [.gp sb 0])):=Sep.new hb3 hs
 generalize G.set b3 (some [D.gp sb 0])=G1 at h1 ⊢
 refine goS trivial ?_
 refine goR trivial ?_
 refine zam fun b4 hb4=>?_
 have h2:Sep (ze b4 [.int .i64 id]::ze b3 [.gp sb 0]::zee sb n m c ws::R) (G1.set b4 (some [.int .i64 id])):=Sep.new hb4 h1
 generalize G1.set b4 (some [D.int .i64 id])=G2 at h2 ⊢
 refine goS trivial ?_
 refine goR trivial ?_
 refine zam fun b6 hb6=>?_
 have h3:Sep (ze b6 [.int .i64 0]::ze b4 [.int .i64 id]::ze b3 [.gp sb 0]::zee sb n m c ws::R) (G2.set b6 (some [.int .i64 0])):=Sep.new hb6 h2
 generalize G2.set b6 (some [D.int .i64 0])=G3 at h3 ⊢
 have hc4:=h3.tail.get
 refine goS trivial ?_
 refine goR trivial ?_
 refine WL.cons ?_
 have hc60:=h3.get
 have endr:∀ (k:Int) {G':Gh} {l:List (Nat×AV)} {L:Hp},E l 6=.d (.gp b6 0)→G'.c b6=some [.int .i64 k]→fin [.cell 6 false 1] (E l) (L::σ) G'=some (.d (.int .i64 k)):=fun k {G' l L} h1 h2=>by
  simp only [fin,zfe,h1,h2,List.drop_zero];rfl
 by_cases c12:id<1∨1099511627776<id
 · have e1:zwt id=1:=by unfold zwt;rw [if_pos c12]
   have e2:decS c ws id commit=(c,ws):=by unfold decS;rw [if_pos c12]
   rw [e1,e2]
   have h4:=h3.set (cs':=[.int .i64 1])
   have h5:Sep (zee sb n (m+400) c ws::R) (G3.set b6 (some [.int .i64 1])):=Sep.sit_mono (by omega) h4.tail.tail.tail
   have hc6:(G3.set b6 (some [.int .i64 1])).c b6=some [.int .i64 1]:=h4.get
   by_cases c1:id<1
   · (refine goX (nn hc4 (nn c1 hc60)) ?_;(repeat' (with_reducible apply Br.mk<;>intro _)))
     refine preR ?_
     exact Fin.eq (r:=.d (.int .i64 1)) (endr 1 rfl hc6) ⟨rfl,_,⟨rfl,rfl⟩,h5⟩
   · have c1':(id<1)=False:=eq_false c1
     have c2:1099511627776<id:=by omega
     (refine goX (nn hc4 (nn c1' (nn c2 hc60))) ?_;(repeat' (with_reducible apply Br.mk<;>intro _)))
     refine preR ?_
     exact Fin.eq (r:=.d (.int .i64 1)) (endr 1 rfl hc6) ⟨rfl,_,⟨rfl,rfl⟩,h5⟩
 have c1':(id<1)=False:=eq_false (by omega)
 have c2':(1099511627776<id)=False:=eq_false (by omega)
 have e1:zwt id=0:=by unfold zwt;rw [if_neg c12]
 rw [e1]
 have e2:decS c ws id commit=match zbo ws id with|none=>(c,ws)|some w=>(zkv commit id.toNat w.slot.toNat w.l c,mdel ws id):=by unfold decS;rw [if_neg c12]
 (refine goX (nn hc4 (nn c1' c2')) ?_;(repeat' (with_reducible apply Br.mk<;>intro _)))
 refine WL.cons ?_
 obtain ⟨q,mr,h4⟩:=Sep.sit (h3.perm pp:Sep (zee sb n m c ws::ze b6 [.int .i64 0]::ze b4 [.int .i64 id]::ze b3 [.gp sb 0]::R) G3)
 have h4:Sep (SiA sb q mr n::zaw q m c::MwA mr ws::ze b6 [.int .i64 0]::ze b4 [.int .i64 id]::ze b3 [.gp sb 0]::R) G3:=h4
 have hg:=Sep.get (b:=sb) (cs:=[eSt q,.int .i64 n,.mref mr]) h4
 have hlk:=zwr h4.tail.tail id
 have hc3:=h3.tail.tail.get
 cases hmg:zbo ws id with
 | none =>
  rw [hmg] at hlk e2
  replace e2:decS c ws id commit=(c,ws):=e2
  have hlk:gdD (.mlook [.i] (.agg [.int .i64 0,.nilS]) true) [.mref mr,.int .i64 id] G3=some (.tup [.agg [.int .i64 0,.nilS],.bool false],G3):=hlk
  rw [e2]
  (refine goX (nn hc3 (nn hc4 (nn hg hlk))) ?_;(repeat' (with_reducible apply Br.mk<;>intro _)))
  refine WL.cons ?_
  have h5:=h3.set (cs':=[.int .i64 0])
  have h6:Sep (zee sb n (m+400) c ws::R) (G3.set b6 (some [.int .i64 0])):=Sep.sit_mono (by omega) h5.tail.tail.tail
  have hc6:(G3.set b6 (some [.int .i64 0])).c b6=some [.int .i64 0]:=h5.get
  (refine goX hc60 ?_;(repeat' (with_reducible apply Br.mk<;>intro _)))
  refine preR ?_
  exact Fin.eq (r:=.d (.int .i64 0)) (endr 0 rfl hc6) ⟨rfl,_,⟨rfl,rfl⟩,h6⟩
 | some w =>
 rw [hmg] at hlk e2
 replace e2:decS c ws id commit=(zkv commit id.toNat w.slot.toNat w.l c,mdel ws id):=e2
 have hlk:gdD (.mlook [.i] (.agg [.int .i64 0,.nilS]) true) [.mref mr,.int .i64 id] G3=some (.tup [eWr w,.bool true],G3):=hlk
 rw [e2]
 obtain ⟨s,hwo⟩:=hw w hmg
 (refine goX (nn hc3 (nn hc4 (nn hg hlk))) ?_;(repeat' (with_reducible apply Br.mk<;>intro _)))
 refine WL.cons ?_
 (refine goX trivial ?_;(repeat' (with_reducible apply Br.mk<;>intro _)))
 refine WL.nil ?_
 refine preN [.gp b6 0,.gp b3 0,.gp b4 0] rfl rfl fun dd=>?_
 show W Try.prog zz44_c _ (put (E _) (some 33) (.d (.clo f_zz26 [.gp b6 0,.gp b3 0,.gp b4 0])),_,_,_)
 obtain ⟨N,rfl⟩:∃ N:Nat,id=N:=Int.eq_ofNat_of_zero_le (by omega)
 rw [Int.toNat_natCast]
 have hws:=hwo.slot
 have hst:w.slot.toNat=s:=by omega
 rw [hst]
 have hcl:=hc.len
 have hs1:=hwo.hi
 have hsl:s<c.length:=by omega
 have hnote:=hwo.note
 have hbe:c.getD s []=c[s]:=by rw [List.getD_eq_getElem?_getD,List.getElem?_eq_getElem hsl];rfl
 rw [hbe] at hnote
 have hbf:=hc.fit _ (List.getElem_mem hsl)
 have fin':∀ {G':Gh} {c':List Str} {l:List (Nat×AV)} {h:List (Nat×Blk)},E l 6=.d (.gp b6 0)→Sep (ze b3 [.gp sb 0]::ze b4 [.int .i64 (N:Int)]::ze b6 [.int .i64 0]::SiA sb q mr n::MwA mr ws::zaw q (m+400) c'::R) G'→c'=zkv commit N s w.l c →
  z3r Try.prog zz44_F [.gp b6 0,.gp b3 0,.gp b4 0] (fun r σ' G'=>σ'=σ∧∃ post,(r=AV.d (.int .i64 0)∧post=[zee sb n (m+400) (zkv commit N s w.l c) (mdel ws (N:Int))])∧Sep (post++R) G') .ret (E l,HB h,σ,G'):=fun {G' c' l h} h1 h2 h3=>by
  subst h3
  refine endN (zl9.mono (zti b3 b4 b6 G' (zaw q (m+400) (zkv commit N s w.l c)::R) sb q mr n ws 0 (N:Int) h2) fun G'' h4=>?_)
  have h5:Sep (ze b6 [.int .i64 0]::ze b3 [.gp sb 0]::ze b4 [.int .i64 (N:Int)]::SiA sb q mr n::zaw q (m+400) (zkv commit N s w.l c)::MwA mr (mdel ws (N:Int))::R) G'':=h4.perm pp
  exact Fin.eq (r:=.d (.int .i64 0)) (endr 0 h1 h5.get) ⟨rfl,_,⟨rfl,rfl⟩,Sep.of_sit h5.tail.tail.tail⟩
 have h5:Sep (zaw q m c::SiA sb q mr n::MwA mr ws::ze b6 [.int .i64 0]::ze b4 [.int .i64 (N:Int)]::ze b3 [.gp sb 0]::R) G3:=h4.perm pp
 cases commit with
 | true =>
  have hread:=zgq q m c (by omega) s hsl (by omega) 7
  rw [zr5 (.inr (by omega)),← hws] at hread
  refine goS trivial ?_
  (refine goX (nn hc3 hg) ?_;(repeat' (with_reducible apply Br.mk<;>intro _)))
  (refine goM (hread) (h5) ?_)
  rintro _ _ G4 ⟨rfl,rfl⟩ h6
  have h6:Sep (zaw q m c::SiA sb q mr n::MwA mr ws::ze b6 [.int .i64 0]::ze b4 [.int .i64 (N:Int)]::ze b3 [.gp sb 0]::R) G4:=h6
  have hb0:c[s]≠[]:=by intro h;rw [h] at hnote;simp at hnote
  have hg6:=Sep.get (b:=sb) (cs:=[eSt q,.int .i64 n,.mref mr]) h6.tail
  have hc36:=h6.tail.tail.tail.tail.tail.get
  generalize hbe2:c[s]=b at hnote hb0 hbf hbe
  refine goS hb0 ?_
  (refine goX (nn hb0 (nn hc36 hg6)) ?_;(repeat' (with_reducible apply Br.mk<;>intro _)))
  have hput:=zko q m c (by omega) s hsl (b.take 6++[2]++b.drop 7) (by simp only [List.length_append,List.length_cons,List.length_nil];omega) (by simp only [List.length_append,List.length_cons,List.length_nil,List.length_take,List.length_drop];omega)
  rw [← hws] at hput
  (refine goI (hput) (h6) ?_)
  rintro _ _ G5 ⟨rfl,rfl⟩ h7
  have h8:Sep (SiA sb q mr n::zaw q (m+6) (c.set s (b.take 6++[2]++b.drop 7))::MwA mr ws::ze b6 [.int .i64 0]::ze b4 [.int .i64 (N:Int)]::ze b3 [.gp sb 0]::R) G5:=h7.swap
  have hc38:=h8.tail.tail.tail.tail.tail.get
  have hc48:=h8.tail.tail.tail.tail.get
  have hodd:Odd n (c.set s (b.take 6++[2]++b.drop 7)):=hc.set (by simp only [List.length_append,List.length_cons,List.length_nil,List.length_take,List.length_drop];omega) (fun ⟨k,hk1,hk2⟩=>by have:=hwo.lo;omega)
  refine goS trivial ?_
  (refine goX (nn hc38 hc48) ?_;(repeat' (with_reducible apply Br.mk<;>intro _)))
  (refine goM (zws sb q mr n (m+6) (c.set s (b.take 6++[2]++b.drop 7)) hodd (by omega) N w (by omega) hwo.short hwo.keys s hws (by rw [List.length_set];exact hsl)) (h8) ?_)
  rintro _ _ G6 ⟨rfl,rfl⟩ h9
  have h9:Sep (SiA sb q mr n::zaw q (m+6+300) ((ziv N w.l (c.set s (b.take 6++[2]++b.drop 7))).set s [])::MwA mr ws::ze b6 [.int .i64 0]::ze b4 [.int .i64 (N:Int)]::ze b3 [.gp sb 0]::R) G6:=h9
  have h10:Sep (ze b6 [.int .i64 0]::zaw q (m+6+300) ((ziv N w.l (c.set s (b.take 6++[2]++b.drop 7))).set s [])::SiA sb q mr n::MwA mr ws::ze b4 [.int .i64 (N:Int)]::ze b3 [.gp sb 0]::R) G6:=h9.perm pp
  have hc610:=h10.get
  have h11:=h10.set (cs':=[.int .i64 0])
  refine goS trivial ?_
  (refine goX hc610 ?_;(repeat' (with_reducible apply Br.mk<;>intro _)))
  refine fin' (c':=(ziv N w.l (c.set s (b.take 6++[2]++b.drop 7))).set s []) rfl ?_ ?_
  · have h12:=(h11.perm pp:Sep (zaw q (m+6+300) ((ziv N w.l (c.set s (b.take 6++[2]++b.drop 7))).set s [])::ze b3 [.gp sb 0]::ze b4 [.int .i64 (N:Int)]::ze b6 [.int .i64 0]::SiA sb q mr n::MwA mr ws::R) _)
    exact (Sep.slt_mono (k:=m+400) (by omega) h12).perm pp
  · unfold zkv
    rw [if_pos rfl,hbe]
    simp [z52]
 | false =>
  have hkill:=zf2 q m c (by omega) s hsl
  rw [← hws] at hkill
  refine goS trivial ?_
  (refine goX (nn hc3 hg) ?_;(repeat' (with_reducible apply Br.mk<;>intro _)))
  (refine goI (hkill) (h5) ?_)
  rintro _ _ G4 ⟨rfl,rfl⟩ h6
  have h6:Sep (zaw q (m+6) (c.set s [])::SiA sb q mr n::MwA mr ws::ze b6 [.int .i64 0]::ze b4 [.int .i64 (N:Int)]::ze b3 [.gp sb 0]::R) G4:=h6
  have hall:=zdq w.l
  have hsh:=hwo.short
  have hn16:=hc.n16
  have hkl:=fun l=>zku l (c.set s [])
  have hsl2:(c.set s []).length=c.length:=List.length_set
  refine goS trivial ?_
  (refine goX trivial ?_;(repeat' (with_reducible apply Br.mk<;>intro _)))
  refine W.loop (fun z st=>∃ (i:Nat) (b14:Blk) (G:Gh),z+i=w.l.length∧Sep (zaw q (m+6+6 * i) (zdr (w.l.take i) (c.set s []))::SiA sb q mr n::MwA mr ws::ze b6 [.int .i64 0]::ze b4 [.int .i64 (N:Int)]::ze b3 [.gp sb 0]::R) G ∧
   st=(E [(3,.d (.gp b3 0)),(6,.d (.gp b6 0)),(87,.d (eL w.l)),(88,.d (.int .i64 (w.l.length:Nat))),(89,.d (.int .i64 (i:Nat)))],HB [(7,⟨1,some [.int .i64 w.slot,eL w.l]⟩),(14,b14)],σ,G))
   ⟨_,_,zt (zcx [(7,⟨1,some [.int .i64 w.slot,eL w.l]⟩)] [14] rfl).symm,0,_,G4,rfl,Sep.slt_mono (by omega) h6,rfl⟩ ?_
  rintro z st ⟨i,b14,G5,hi,h7,rfl⟩
  have hkli:=hkl (w.l.take i)
  by_cases hlt:i<w.l.length
  case neg =>
   have hie:i=w.l.length:=by omega
   subst hie
   rw [List.take_length] at h7
   have hx:((w.l.length:Int)<(w.l.length:Int))=False:=eq_false (by omega)
   have h8:Sep (ze b6 [.int .i64 0]::zaw q (m+6+6 * (w.l.length:Int)) (zdr w.l (c.set s []))::SiA sb q mr n::MwA mr ws::ze b4 [.int .i64 (N:Int)]::ze b3 [.gp sb 0]::R) G5:=h7.perm pp
   have hc68:=h8.get
   have h9:=h8.set (cs':=[.int .i64 0])
   (refine goX (nn hx hc68) ?_;(repeat' (with_reducible apply Br.mk<;>intro _)))
   refine fin' (c':=zdr w.l (c.set s [])) rfl ?_ ?_
   · exact (Sep.slt_mono (k:=m+400) (by omega) h9.swap).perm pp
   · unfold zkv
     rw [if_neg (by simp)]
  have hlt':(i:Int)<(w.l.length:Int):=by omega
  have htk:w.l.take (i+1)=w.l.take i++[w.l[i]]:=by rw [List.take_add_one,List.getElem?_eq_getElem hlt];rfl
  have hkk:=hwo.keys _ (List.getElem_mem hlt)
  have hkc:zdr (w.l.take (i+1)) (c.set s [])=if w.l[i].rd then zdr (w.l.take i) (c.set s []) else (zdr (w.l.take i) (c.set s [])).set (2 * w.l[i].key.toNat+1) []:=by rw [htk,zow];rfl
  generalize hxe:w.l[i]=x at hkk hkc
  obtain ⟨kn,hkn⟩:∃ kn:Nat,x.key=kn:=Int.eq_ofNat_of_zero_le hkk.1
  have hkt:x.key.toNat=kn:=by omega
  have hkb:kn<16:=by omega
  cases hr:x.rd with
  | true =>
   rw [hr,if_pos rfl] at hkc
   (refine goX (nn hlt' (nn hall (nn hxe hr))) ?_;(repeat' (with_reducible apply Br.mk<;>intro _)))
   exact ⟨z - 1,_,by omega,zt rfl,i+1,_,_,by omega,by rw [hkc];exact Sep.slt_mono (by omega) h7,rfl⟩
  | false =>
   rw [hr,if_neg (by simp),hkt] at hkc
   have k1:(2:Int) * (kn:Int)=((2 * kn:Nat):Int):=by omega
   have k2:((2 * kn:Nat):Int)+1=((2 * kn+1:Nat):Int):=by omega
   have hg7:=Sep.get (b:=sb) (cs:=[eSt q,.int .i64 n,.mref mr]) h7.tail
   have hc37:=h7.tail.tail.tail.tail.tail.get
   (refine goX (nn hlt' (nn hall (nn hxe (nn hr (nn hkn (nn hg7 (nn hc37 (nn k1 k2)))))))) ?_;(repeat' (with_reducible apply Br.mk<;>intro _)))
   (refine goI (zf2 q (m+6+6 * i) (zdr (w.l.take i) (c.set s [])) (by omega) (2 * kn+1) (by omega)) (h7) ?_)
   rintro _ _ G6 ⟨rfl,rfl⟩ h8
   have h8:Sep (zaw q (m+6+6 * i+6) ((zdr (w.l.take i) (c.set s [])).set (2 * kn+1) [])::SiA sb q mr n::MwA mr ws::ze b6 [.int .i64 0]::ze b4 [.int .i64 (N:Int)]::ze b3 [.gp sb 0]::R) G6:=h8
   refine goS trivial ?_
   (refine goX trivial ?_;(repeat' (with_reducible apply Br.mk<;>intro _)))
   exact ⟨z - 1,_,by omega,zt rfl,i+1,_,_,by omega,by rw [hkc];exact Sep.slt_mono (by omega) h8,rfl⟩
end Go.Proofs.Ytlejjdbmmdghmaa
namespace Go.Proofs.Ytlejjdbmmdghmaa
open Go Go.E2 C22 C40
set_option maxHeartbeats 1000000
theorem ziw (p:Nat) (d:Dk) (m:Int) (c:List Str) (hd:SlD d m c) (hm:m≤500000000) (h1:1≤c.length) :
 zy Try.prog f_zz56 [.gp p 0,.int .i64 0,.int .i64 c.length] [zp p d] (fun r post=>∃ q,r=.tup [eSt q,.int .i64 0]∧post=[zaw q m c]):=by
 refine zg fol zz56_cp fun R G σ hs=>?_
 refine goS trivial ?_
 refine goR trivial ?_
 (refine goM (zyx p d m c hd hm h1) (hs) ?_)
 rintro _ _ G1 ⟨q,rfl,rfl⟩ h1
 refine goS trivial ?_
 (refine goX trivial ?_;(repeat' (with_reducible apply Br.mk<;>intro _)))
 exact Fin.eq rfl ⟨rfl,_,⟨q,rfl,rfl⟩,h1⟩
theorem zly (p:Nat) (d:Dk) (m:Int) (hd:Lv d m) (h0:0≤m) (hm:m≤400000000) (n:Nat) (h1:1≤n) (h2:n≤16) (hl:2 * (2 * n+4)≤d.cs.length) :
 zy Try.prog f_zz64 [.gp p 0,.int .i64 0,.int .i64 n] [zp p d] (fun r post=>r=.d (.int .i64 0)∧∃ d',SlD d' (m+2 * (2 * n+4:Nat)+1) (List.replicate (2 * n+4) [])∧post=[zp p d']):=by
 refine zg fol zz64_cp fun R G σ hs=>?_
 have c1:((n:Int)<1)=False:=eq_false (by omega)
 have c2:((16:Int)<(n:Int))=False:=eq_false (by omega)
 have e1:(2:Int) * (n:Int)=((2 * n:Nat):Int):=by omega
 have e2:((2 * n:Nat):Int)+4=((2 * n+4:Nat):Int):=by omega
 refine goS trivial ?_
 (refine goX (nn c1 (nn c2 (nn e1 e2))) ?_;(repeat' (with_reducible apply Br.mk<;>intro _)))
 try rw [e1]
 try rw [e2]
 (refine goM (zwe p d m hd h0 (by omega) (2 * n+4) (by omega) hl) (hs) ?_)
 rintro _ _ G1 ⟨rfl,d',hd',rfl⟩ h1
 refine goS trivial ?_
 (refine goX trivial ?_;(repeat' (with_reducible apply Br.mk<;>intro _)))
 exact Fin.eq rfl ⟨rfl,_,⟨rfl,d',hd',rfl⟩,h1⟩
theorem zmx (p:Nat) (d:Dk) (m:Int) (hd:Lv d m) (h0:0≤m) (hm:m≤400000000) (n:Nat) (h1:1≤n) (h2:n≤100) (hl:2 * n≤d.cs.length) :
 zy Try.prog f_zz51 [.gp p 0,.int .i64 0,.int .i64 n] [zp p d] (fun r post=>r=.d (.int .i64 0)∧∃ d',SlD d' (m+2 * n+1) (List.replicate n [])∧post=[zp p d']):=by
 refine zg fol zz51_cp fun R G σ hs=>?_
 have c1:((n:Int)<1)=False:=eq_false (by omega)
 have c2:((100:Int)<(n:Int))=False:=eq_false (by omega)
 refine goS trivial ?_
 (refine goX (nn c1 c2) ?_;(repeat' (with_reducible apply Br.mk<;>intro _)))
 (refine goM (zwe p d m hd h0 (by omega) n (by omega) hl) (hs) ?_)
 rintro _ _ G1 ⟨rfl,d',hd',rfl⟩ h1
 refine goS trivial ?_
 (refine goX trivial ?_;(repeat' (with_reducible apply Br.mk<;>intro _)))
 exact Fin.eq rfl ⟨rfl,_,⟨rfl,d',hd',rfl⟩,h1⟩
def DkC (kb q N:Nat):As:=ze kb [eSt q,.int .i64 N]
def zi (kb:Nat) (m:Int) (c:List Str):As:=fun G=>∃ q,zz5 [DkC kb q c.length,zaw q m c] G
theorem Sep.desk {kb:Nat} {m:Int} {c:List Str} {R:List As} {G:Gh} (h:Sep (zi kb m c::R) G):∃ q,Sep (DkC kb q c.length::zaw q m c::R) G:=by
 obtain ⟨G1,G2,h1,h2,h3,⟨q,h4⟩,h5⟩:=h
 exact ⟨q,Sep.app (l:=[_,_]) ⟨G1,G2,h1,h2,h3,h4,h5⟩⟩
theorem Sep.of_desk {kb q:Nat} {m:Int} {c:List Str} {R:List As} {G:Gh} (h:Sep (DkC kb q c.length::zaw q m c::R) G):Sep (zi kb m c::R) G :=
 (Sep.of_app (l:=[DkC kb q c.length,zaw q m c]) h).imp fun _G hG=>⟨q,hG⟩
theorem Sep.desk_mono {kb:Nat} {m k:Int} {c:List Str} {R:List As} {G:Gh} (hk:m≤k) (h:Sep (zi kb m c::R) G):Sep (zi kb k c::R) G:=by
 obtain ⟨q,h1⟩:=Sep.desk h
 exact Sep.of_desk ((Sep.slt_mono hk h1.swap).swap)
theorem zqd (p:Nat) (d:Dk) (m:Int) (c:List Str) (hd:SlD d m c) (hm:m≤500000000) (h1:1≤c.length) (h2:c.length≤100) :
 zy Try.prog f_zz59 [.gp p 0,.int .i64 0,.int .i64 c.length] [zp p d] (fun r post=>∃ kb,r=.tup [.gp kb 0,.int .i64 0]∧post=[zi kb m c]):=by
 refine zg fol zz59_cp fun R G σ hs=>?_
 have c1:((c.length:Int)<1)=False:=eq_false (by omega)
 have c2:((100:Int)<(c.length:Int))=False:=eq_false (by omega)
 refine goS trivial ?_
 (refine goX (nn c1 c2) ?_;(repeat' (with_reducible apply Br.mk<;>intro _)))
 (refine goM (ziw p d m c hd hm h1) (hs) ?_)
 rintro _ _ G1 ⟨q,rfl,rfl⟩ h1
 have h1:Sep (zaw q m c::R) G1:=h1
 refine goS trivial ?_
 (refine goX trivial ?_;(repeat' (with_reducible apply Br.mk<;>intro _)))
 refine zam fun kb hkb=>?_
 have h2:Sep (DkC kb q c.length::zaw q m c::R) (G1.set kb (some [eSt q,.int .i64 c.length])):=Sep.new hkb h1
 generalize G1.set kb (some [eSt q,D.int .i64 c.length])=G2 at h2 ⊢
 refine goS trivial ?_
 (refine goX trivial ?_;(repeat' (with_reducible apply Br.mk<;>intro _)))
 exact Fin.eq rfl ⟨rfl,_,⟨kb,rfl,rfl⟩,Sep.of_desk h2⟩
def isD (id:Int) (b:Str):Bool:=if b=[] then decide (id=0) else decide ((zo4 b:Int)=id)
def fdI (id:Int):List Str→Nat→Int
 | [],_=>-1
 | b::c,i=>if isD id b then (i:Int) else fdI id c (i+1)
def DOk (c:List Str):Prop:=c.length≤100∧∀ b∈c,b=[]∨b.length=6
theorem zmy (kb:Nat) (m:Int) (c:List Str) (hm:m≤600000000) (hc:DOk c) (id:Int) :
 zy Try.prog f_zz53 [.gp kb 0,.int .i64 id] [zi kb m c] (fun r post=>r=.tup [.int .i64 (fdI id c 0),.int .i64 0]∧post=[zi kb m c]):=by
 refine zg fol zz53_cp fun R G σ hs=>?_
 obtain ⟨q,h1⟩:=Sep.desk hs
 have hg:=Sep.get (b:=kb) (cs:=[eSt q,.int .i64 c.length]) h1
 have h100:=hc.1
 refine goS trivial ?_
 refine goR hg ?_
 refine W.loop (fun z st=>∃ (i:Nat) (G:Gh),z+i=c.length∧fdI id (c.drop i) i=fdI id c 0∧Sep (zaw q m c::DkC kb q c.length::R) G ∧
  st=(E [(0,.d (.gp kb 0)),(1,.d (.int .i64 id)),(12,.d (.int .i64 (c.length:Nat))),(13,.d (.int .i64 (i:Nat)))],HB [],σ,G))
  ⟨_,_,zb7,0,G,rfl,rfl,h1.swap,rfl⟩ ?_
 rintro z st ⟨i,G3,hi,he,h2,rfl⟩
 have hg2:=Sep.get (b:=kb) (cs:=[eSt q,.int .i64 c.length]) h2.tail
 by_cases hlt:i<c.length
 case neg =>
  have hie:i=c.length:=by omega
  subst hie
  rw [List.drop_length] at he
  have hx:((c.length:Int)<(c.length:Int))=False:=eq_false (by omega)
  (refine goX hx ?_;(repeat' (with_reducible apply Br.mk<;>intro _)))
  exact Fin.eq rfl ⟨rfl,_,⟨by rw [← he];rfl,rfl⟩,Sep.of_desk h2.swap⟩
 have hlt':(i:Int)<(c.length:Int):=by omega
 have hb:=hc.2 _ (List.getElem_mem hlt)
 rw [List.drop_eq_getElem_cons hlt,fdI] at he
 have hread:=zgq q m c hm i hlt (by rcases hb with h|h<;>rw [h]<;>simp) 6
 generalize c[i]=b at hb he hread
 rw [zr5 (by rcases hb with h|h<;>first|exact .inl h|(right;omega))] at hread
 (refine goX (nn hlt' hg2) ?_;(repeat' (with_reducible apply Br.mk<;>intro _)))
 (refine goM (hread) (h2) ?_)
 rintro _ _ G4 ⟨rfl,rfl⟩ h3
 have h3:Sep (zaw q m c::DkC kb q c.length::R) G4:=h3
 by_cases hb0:b=[]
 · subst hb0
   unfold isD at he
   rw [if_pos rfl] at he
   by_cases hid:id=0
   · rw [decide_eq_true hid,if_pos rfl] at he
     subst hid
     refine goS trivial ?_
     (refine goX trivial ?_;(repeat' (with_reducible apply Br.mk<;>intro _)))
     exact Fin.eq rfl ⟨rfl,_,⟨by rw [← he],rfl⟩,Sep.of_desk h3.swap⟩
   · rw [decide_eq_false hid,if_neg (by simp)] at he
     refine goS hid ?_
     (refine goX hid ?_;(repeat' (with_reducible apply Br.mk<;>intro _)))
     exact ⟨z - 1,_,by omega,zb7,i+1,_,by omega,he,h3,rfl⟩
 · have hb6:b.length=6:=by rcases hb with h|h<;>first|exact absurd h hb0|exact h
   unfold isD at he
   rw [if_neg hb0] at he
   by_cases hv:(zo4 b:Int)=id
   · rw [decide_eq_true hv,if_pos rfl] at he
     refine goS hb0 ?_
     (refine zb1 (nn hb0 hv) (zen b (by omega) (by omega)) ?_;(repeat' (with_reducible apply Br.mk<;>intro _)))
     exact Fin.eq rfl ⟨rfl,_,⟨by rw [← he],rfl⟩,Sep.of_desk h3.swap⟩
   · rw [decide_eq_false hv,if_neg (by simp)] at he
     refine goS hb0 ?_
     (refine zb1 (nn hb0 hv) (zen b (by omega) (by omega)) ?_;(repeat' (with_reducible apply Br.mk<;>intro _)))
     exact ⟨z - 1,_,by omega,zb7,i+1,_,by omega,he,h3,rfl⟩
theorem zlz (id:Int):∀ (c:List Str) (i:Nat),fdI id c i=-1∨(i:Int)≤fdI id c i∧fdI id c i<i+c.length
 | [],_=>.inl rfl
 | b::c,i=>by
   unfold fdI
   split
   · right;simp only [List.length_cons];omega
   · rcases zlz id c (i+1) with h|⟨h,h2⟩
     · exact .inl h
     · right;simp only [List.length_cons];omega
def zb8 (id:Int):Prop:=1≤id∧id≤1099511627776
instance (id:Int):Decidable (zb8 id):=by unfold zb8;exact inferInstance
def zr6 (id:Int):Int:=if zb8 id then 0 else 1
def zix (c:List Str) (id:Int):Bool:=decide (zb8 id∧0≤fdI id c 0)
theorem zef (kb:Nat) (m:Int) (c:List Str) (hm:m≤600000000) (hc:DOk c) (id:Int) :
 zy Try.prog f_zz33 [.gp kb 0,.int .i64 id] [zi kb m c] (fun r post=>r=.tup [.bool (zix c id),.int .i64 (zr6 id)]∧post=[zi kb m c]):=by
 refine zg fol zz33_cp fun R G σ hs=>?_
 by_cases h:zb8 id
 · have e1:zr6 id=0:=if_pos h
   have e2:zix c id=decide (0≤fdI id c 0):=by unfold zix;simp [h]
   obtain ⟨a,b⟩:=h
   have c1:(id<1)=False:=eq_false (by omega)
   have c2:(1099511627776<id)=False:=eq_false (by omega)
   rw [e1,e2]
   refine goS trivial ?_
   (refine goX (nn c1 c2) ?_;(repeat' (with_reducible apply Br.mk<;>intro _)))
   (refine goM (zmy kb m c hm hc id) (hs) ?_)
   rintro _ _ G1 ⟨rfl,rfl⟩ h1
   refine goS trivial ?_
   (refine goX trivial ?_;(repeat' (with_reducible apply Br.mk<;>intro _)))
   exact Fin.eq rfl ⟨rfl,_,⟨rfl,rfl⟩,h1⟩
 · have e1:zr6 id=1:=if_neg h
   have e2:zix c id=false:=by unfold zix;simp [h]
   rw [e1,e2]
   by_cases c1:id<1
   · refine goS trivial ?_
     (refine goX c1 ?_;(repeat' (with_reducible apply Br.mk<;>intro _)))
     exact Fin.eq rfl ⟨rfl,_,⟨rfl,rfl⟩,hs⟩
   · have c1':(id<1)=False:=eq_false c1
     have c2:1099511627776<id:=Classical.byContradiction fun h'=>h ⟨by omega,by omega⟩
     refine goS trivial ?_
     (refine goX (nn c1' c2) ?_;(repeat' (with_reducible apply Br.mk<;>intro _)))
     exact Fin.eq rfl ⟨rfl,_,⟨rfl,rfl⟩,hs⟩
def zqe (c:List Str) (id:Int):List Str:=if zix c id then c.set (fdI id c 0).toNat [] else c
theorem zox (kb:Nat) (m:Int) (c:List Str) (hm:m≤500000000) (hc:DOk c) (id:Int) :
 zy Try.prog f_zz42 [.gp kb 0,.int .i64 id] [zi kb m c] (fun r post=>r=.d (.int .i64 (zr6 id))∧post=[zi kb (m+6) (zqe c id)]):=by
 refine zg fol zz42_cp fun R G σ hs=>?_
 by_cases h:zb8 id
 · have e1:zr6 id=0:=if_pos h
   have e2:zix c id=decide (0≤fdI id c 0):=by unfold zix;simp [h]
   obtain ⟨a,b⟩:=h
   have c1:(id<1)=False:=eq_false (by omega)
   have c2:(1099511627776<id)=False:=eq_false (by omega)
   rw [e1]
   unfold zqe
   rw [e2]
   have hlt:=zlz id c 0
   refine goS trivial ?_
   (refine goX (nn c1 c2) ?_;(repeat' (with_reducible apply Br.mk<;>intro _)))
   (refine goM (zmy kb m c (by omega) hc id) (hs) ?_)
   rintro _ _ G1 ⟨rfl,rfl⟩ h1
   have h1:Sep (zi kb m c::R) G1:=h1
   by_cases hf:fdI id c 0<0
   · rw [decide_eq_false (by omega),if_neg (by simp)]
     refine goS hf ?_
     (refine goX hf ?_;(repeat' (with_reducible apply Br.mk<;>intro _)))
     exact Fin.eq rfl ⟨rfl,_,⟨rfl,rfl⟩,Sep.desk_mono (by omega) h1⟩
   · rw [decide_eq_true (by omega),if_pos rfl]
     have hf':(fdI id c 0<0)=False:=eq_false hf
     obtain ⟨j,hj⟩:∃ j:Nat,fdI id c 0=j:=Int.eq_ofNat_of_zero_le (by omega)
     obtain ⟨q,h2⟩:=Sep.desk h1
     have hg:=Sep.get (b:=kb) (cs:=[eSt q,.int .i64 c.length]) h2
     have h3:=h2.swap
     rw [hj] at hf' ⊢
     rw [Int.toNat_natCast]
     refine goS hf' ?_
     (refine goX (nn hf' hg) ?_;(repeat' (with_reducible apply Br.mk<;>intro _)))
     (refine goI (zf2 q m c (by omega) j (by omega)) (h3) ?_)
     rintro _ _ G2 ⟨rfl,rfl⟩ h4
     have h4:Sep (zaw q (m+6) (c.set j [])::DkC kb q c.length::R) G2:=h4
     refine goS trivial ?_
     (refine goX trivial ?_;(repeat' (with_reducible apply Br.mk<;>intro _)))
     exact Fin.eq rfl ⟨rfl,_,⟨rfl,rfl⟩,Sep.of_desk (q:=q) (by rw [List.length_set];exact h4.swap)⟩
 · have e1:zr6 id=1:=if_neg h
   have e2:zix c id=false:=by unfold zix;simp [h]
   rw [e1]
   unfold zqe
   rw [e2,if_neg (by simp)]
   by_cases c1:id<1
   · refine goS trivial ?_
     (refine goX c1 ?_;(repeat' (with_reducible apply Br.mk<;>intro _)))
     exact Fin.eq rfl ⟨rfl,_,⟨rfl,rfl⟩,Sep.desk_mono (by omega) hs⟩
   · have c1':(id<1)=False:=eq_false c1
     have c2:1099511627776<id:=Classical.byContradiction fun h'=>h ⟨by omega,by omega⟩
     refine goS trivial ?_
     (refine goX (nn c1' c2) ?_;(repeat' (with_reducible apply Br.mk<;>intro _)))
     exact Fin.eq rfl ⟨rfl,_,⟨rfl,rfl⟩,Sep.desk_mono (by omega) hs⟩
def recE (c:List Str) (id:Int):Int:=if ¬ zb8 id then 1 else if 0≤fdI id c 0 then 0 else if fdI 0 c 0<0 then 13 else 0
def zho (c:List Str) (id:Int):List Str:=if ¬ zb8 id then c else if 0≤fdI id c 0 then c else if fdI 0 c 0<0 then c else c.set (fdI 0 c 0).toNat (zeg id.toNat)
theorem zkw (kb:Nat) (m:Int) (c:List Str) (hm:m≤500000000) (hc:DOk c) (id:Int) :
 zy Try.prog f_zz43 [.gp kb 0,.int .i64 id] [zi kb m c] (fun r post=>r=.d (.int .i64 (recE c id))∧post=[zi kb (m+6) (zho c id)]):=by
 refine zg fol zz43_cp fun R G σ hs=>?_
 by_cases h:zb8 id
 case neg =>
  have e1:recE c id=1:=if_pos h
  have e2:zho c id=c:=if_pos h
  rw [e1,e2]
  by_cases c1:id<1
  · refine goS trivial ?_
    (refine goX c1 ?_;(repeat' (with_reducible apply Br.mk<;>intro _)))
    exact Fin.eq rfl ⟨rfl,_,⟨rfl,rfl⟩,Sep.desk_mono (by omega) hs⟩
  · have c1':(id<1)=False:=eq_false c1
    have c2:1099511627776<id:=Classical.byContradiction fun h'=>h ⟨by omega,by omega⟩
    refine goS trivial ?_
    (refine goX (nn c1' c2) ?_;(repeat' (with_reducible apply Br.mk<;>intro _)))
    exact Fin.eq rfl ⟨rfl,_,⟨rfl,rfl⟩,Sep.desk_mono (by omega) hs⟩
 have e1:recE c id=if 0≤fdI id c 0 then 0 else if fdI 0 c 0<0 then 13 else 0:=if_neg (by simpa using h)
 have e2:zho c id=if 0≤fdI id c 0 then c else if fdI 0 c 0<0 then c else c.set (fdI 0 c 0).toNat (zeg id.toNat):=if_neg (by simpa using h)
 rw [e1,e2]
 obtain ⟨a,b⟩:=h
 have c1:(id<1)=False:=eq_false (by omega)
 have c2:(1099511627776<id)=False:=eq_false (by omega)
 have hlt:=zlz 0 c 0
 refine goS trivial ?_
 (refine goX (nn c1 c2) ?_;(repeat' (with_reducible apply Br.mk<;>intro _)))
 (refine goM (zmy kb m c (by omega) hc id) (hs) ?_)
 rintro _ _ G1 ⟨rfl,rfl⟩ h1
 have h1:Sep (zi kb m c::R) G1:=h1
 by_cases hf:0≤fdI id c 0
 · rw [if_pos hf,if_pos hf]
   refine goS hf ?_
   (refine goX hf ?_;(repeat' (with_reducible apply Br.mk<;>intro _)))
   exact Fin.eq rfl ⟨rfl,_,⟨rfl,rfl⟩,Sep.desk_mono (by omega) h1⟩
 rw [if_neg hf,if_neg hf]
 have hf':(0≤fdI id c 0)=False:=eq_false hf
 refine goS hf' ?_
 (refine goX hf' ?_;(repeat' (with_reducible apply Br.mk<;>intro _)))
 have h1':Sep ([zi kb m c]++R) G1:=h1
 (refine goM (zmy kb m c (by omega) hc 0) (h1') ?_)
 rintro _ _ G2 ⟨rfl,rfl⟩ h2
 have h2:Sep (zi kb m c::R) G2:=h2
 by_cases hf2:fdI 0 c 0<0
 · rw [if_pos hf2,if_pos hf2]
   refine goS hf2 ?_
   (refine goX hf2 ?_;(repeat' (with_reducible apply Br.mk<;>intro _)))
   exact Fin.eq rfl ⟨rfl,_,⟨rfl,rfl⟩,Sep.desk_mono (by omega) h2⟩
 rw [if_neg hf2,if_neg hf2]
 obtain ⟨j,hj⟩:∃ j:Nat,fdI 0 c 0=j:=Int.eq_ofNat_of_zero_le (by omega)
 have hf2':(fdI 0 c 0<0)=False:=eq_false hf2
 obtain ⟨q,h3⟩:=Sep.desk h2
 have hg:=Sep.get (b:=kb) (cs:=[eSt q,.int .i64 c.length]) h3
 have h4:=h3.swap
 obtain ⟨N,rfl⟩:∃ N:Nat,id=N:=Int.eq_ofNat_of_zero_le (by omega)
 rw [hj] at hf2' ⊢
 rw [Int.toNat_natCast,Int.toNat_natCast]
 refine goS hf2' ?_
 (refine zb1 (nn hf2' hg) (zf3 N (by omega)) ?_;(repeat' (with_reducible apply Br.mk<;>intro _)))
 (refine goI (zko q m c (by omega) j (by omega) (zeg N) (by rw [za4];omega) (by rw [za4];omega)) (h4) ?_)
 rintro _ _ G3 ⟨rfl,rfl⟩ h5
 have h5:Sep (zaw q (m+6) (c.set j (zeg N))::DkC kb q c.length::R) G3:=h5
 refine goS trivial ?_
 (refine goX trivial ?_;(repeat' (with_reducible apply Br.mk<;>intro _)))
 exact Fin.eq rfl ⟨rfl,_,⟨rfl,rfl⟩,Sep.of_desk (q:=q) (by rw [List.length_set];exact h5.swap)⟩
end Go.Proofs.Ytlejjdbmmdghmaa
