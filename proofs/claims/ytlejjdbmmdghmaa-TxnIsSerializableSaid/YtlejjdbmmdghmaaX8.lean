/-
 Layer 40 (txn): a prepared write decided.
 Conditions: of each contract as it says.
-/
import Derived.Test.YtlejjdbmmdghmaaX7
set_option linter.unusedSimpArgs false
namespace Go.Proofs.Ytlejjdbmmdghmaa
open Go Go.E2 C22 C40
set_option maxHeartbeats 2000000
theorem preR {P:Program} {af:AFuncD} {Q:AV→List Hp→Gh→Prop} {st:St} (h:Go.E2.Fin af.res (zn.mk (a:=Q)) st):z1v P af Q .ret st:=h
theorem preN {P:Program} {af:AFuncD} {Q:AV→List Hp→Gh→Prop} {ρ:Env} {L:Hp} {σ:List Hp} {G:Gh} (ds:List D) (hd:zx ρ af.caps=some ds) (ho:ds.all D.one=true)
 (h:∀ dd:DD,@W dd P af.body _ (zn.mk (a:=z3k P af ds Q)) (put ρ (some af.d) (.d (.clo af.f ds)),L,σ,G)):z1v P af Q .normal (ρ,L,σ,G):=⟨ds,hd,ho,h⟩
theorem endN {P:Program} {af:AFuncD} {Q:AV→List Hp→Gh→Prop} {ds:List D} {ρ:Env} {L:Hp} {σ:List Hp} {G:Gh} (h:zl0 P af.f ds G fun G'=>Go.E2.Fin af.res (zn.mk (a:=Q)) (ρ,L,σ,G')):z3k P af ds Q .ret (ρ,L,σ,G):=⟨.inr rfl,h⟩
def zdn:List Tw→List Str→List Str
 | [],c=>c
 | x::l,c=>zdn l (if x.rd then c else c.set (2 * x.key.toNat+1) [])
theorem zoh:∀ (a b:List Tw) (c:List Str),zdn (a++b) c=zdn b (zdn a c)
 | [],b,c=>rfl
 | x::a,b,c=>by rw [List.cons_append,zdn,zdn,zoh a b]
theorem zkh:∀ (l:List Tw) (c:List Str),(zdn l c).length=c.length
 | [],c=>rfl
 | x::l,c=>by rw [zdn,zkh l];split<;>simp
def z5w (b:Str):Str:=b.take 6++2::b.drop 7
def zkn (commit:Bool) (id:Nat) (s:Nat) (l:List Tw) (c:List Str):List Str :=
 if commit then (zio id l (c.set s (z5w (c.getD s [])))).set s [] else zdn l (c.set s [])
theorem zs0 (b3 b4 b6:Nat) (G:Gh) (R:List As) (sb q mr n:Nat) (ws:List (Int×Wr)) (e id:Int)
 (h:Sep (ze b3 [.gp sb 0]::ze b4 [.int .i64 id]::ze b6 [.int .i64 e]::SiA sb q mr n::MwA mr ws::R) G) :
 zl0 Try.prog f_zz18 [.gp b6 0,.gp b3 0,.gp b4 0] G fun G'=>Sep (ze b3 [.gp sb 0]::ze b4 [.int .i64 id]::ze b6 [.int .i64 e]::SiA sb q mr n::MwA mr (if e=0 then mdel ws id else ws)::R) G':=by
 refine zr6 fol zz18_cp ?_
 have hc3:=h.get
 have hc4:=h.tail.get
 have hc6:=h.tail.tail.get
 have hg:=Sep.get (b:=sb) (cs:=[eSt q,.int .i64 n,.mref mr]) h.tail.tail.tail
 by_cases he:e=0
 · subst he
   refine goS trivial ?_
   (refine goX (nn hc3 (nn hc4 (nn hc6 hg))) ?_;(repeat' (with_reducible apply Br.mk<;>intro _)))
   have h2:Sep (MwA mr ws::ze b3 [.gp sb 0]::ze b4 [.int .i64 id]::ze b6 [.int .i64 0]::SiA sb q mr n::R) G:=h.perm pp
   refine z0h (emb:=eI) (vf:=eWr) (Sep.map h2) id fun M hM=>?_
   have h3:=Sep.mapSet h2 hM
   refine goS trivial ?_
   (refine goX trivial ?_;(repeat' (with_reducible apply Br.mk<;>intro _)))
   exact Fin.eq rfl ⟨rfl,h3.perm pp⟩
 · rw [if_neg he]
   refine goS trivial ?_
   (refine goX (nn hc3 (nn hc4 (nn hc6 (nn hg he)))) ?_;(repeat' (with_reducible apply Br.mk<;>intro _)))
   exact Fin.eq rfl ⟨rfl,h⟩
theorem zl0.mono {P:Program} {f:FuncId} {vs:List D} {G:Gh} {Q Q':Gh→Prop} (h:zl0 P f vs G Q) (hq:∀ G',Q G'→Q' G'):zl0 P f vs G Q' :=
 ⟨h.1,fun S w args u h1 h2=>(h.2 S w args u h1 h2).mono fun _ _ _ ⟨a,v,b,c⟩=>⟨a,v,b,c.mono fun _ _ _ ⟨x,y⟩=>⟨x,hq _ y⟩⟩⟩
structure WrOk (n:Nat) (c:List Str) (w:Wr) (s:Nat):Prop where
 slot:w.slot=s
 lo:2 * n≤s
 hi:s<2 * n+4
 note:7≤(c.getD s []).length
 short:w.l.length≤16
 keys:∀ x∈w.l,0≤x.key∧x.key<n
def zs4 (id:Int):Int:=if id<1∨1099511627776<id then 1 else 0
def decS (c:List Str) (ws:List (Int×Wr)) (id:Int) (commit:Bool):List Str×List (Int×Wr) :=
 if id<1∨1099511627776<id then (c,ws) else
 match za4 ws id with
 | none=>(c,ws)
 | some w=>(zkn commit id.toNat w.slot.toNat w.l c,mdel ws id)
theorem zv3 (sb n:Nat) (m:Int) (c:List Str) (ws:List (Int×Wr)) (hc:Odd n c) (hm:m≤400000000) (id:Int) (commit:Bool) (hw:∀ w,za4 ws id=some w→∃ s,WrOk n c w s) :
 zy Try.prog f_zz33 [.gp sb 0,.int .i64 id,.bool commit] [zbq sb n m c ws] (fun r post=>r=.d (.int .i64 (zs4 id))∧post=[zbq sb n (m+400) (decS c ws id commit).1 (decS c ws id commit).2]):=by
 intro R G σ hs
 refine zo4 fol zz33_cp ?_
 show WL Try.prog [zdv,zdw,zdx,zdy] (z1v Try.prog zz33_F _) _
 have hs:Sep (zbq sb n m c ws::R) G:=hs
 refine WL.cons ?_
 refine goS trivial ?_
 refine goR trivial ?_
 refine zam fun b3 hb3=>?_
 have h1:Sep (ze b3 [.gp sb 0]::zbq sb n m c ws::R) (G.set b3 (some [.gp sb 0])):=Sep.new hb3 hs
 generalize G.set b3 (some [D.gp sb 0])=G1 at h1 ⊢
 refine goS trivial ?_
 refine goR trivial ?_
 refine zam fun b4 hb4=>?_
 have h2:Sep (ze b4 [.int .i64 id]::ze b3 [.gp sb 0]::zbq sb n m c ws::R) (G1.set b4 (some [.int .i64 id])):=Sep.new hb4 h1
 generalize G1.set b4 (some [D.int .i64 id])=G2 at h2 ⊢
 refine goS trivial ?_
 refine goR trivial ?_
 refine zam fun b6 hb6=>?_
 have h3:Sep (ze b6 [.int .i64 0]::ze b4 [.int .i64 id]::ze b3 [.gp sb 0]::zbq sb n m c ws::R) (G2.set b6 (some [.int .i64 0])):=Sep.new hb6 h2
 generalize G2.set b6 (some [D.int .i64 0])=G3 at h3 ⊢
 have hc4:=h3.tail.get
 refine goS trivial ?_
 refine goR trivial ?_
 refine WL.cons ?_
 have hc60:=h3.get
 have endr:∀ (k:Int) {G':Gh} {l:List (Nat×AV)} {L:Hp},E l 6=.d (.gp b6 0)→G'.c b6=some [.int .i64 k]→fin [.cell 6 false 1] (E l) (L::σ) G'=some (.d (.int .i64 k)):=fun k {G' l L} h1 h2=>by
  simp only [fin,zec,h1,h2,List.drop_zero];rfl
 by_cases c12:id<1∨1099511627776<id
 · have e1:zs4 id=1:=by unfold zs4;rw [if_pos c12]
   have e2:decS c ws id commit=(c,ws):=by unfold decS;rw [if_pos c12]
   rw [e1,e2]
   have h4:=h3.set (cs':=[.int .i64 1])
   have h5:Sep (zbq sb n (m+400) c ws::R) (G3.set b6 (some [.int .i64 1])):=Sep.sit_mono (by omega) h4.tail.tail.tail
   have hc6:(G3.set b6 (some [.int .i64 1])).c b6=some [.int .i64 1]:=h4.get
   by_cases c1:id<1
   · (refine goX (nn hc4 (nn c1 hc60)) ?_;(repeat' (with_reducible apply Br.mk<;>intro _)))
     refine preR ?_
     exact Fin.eq (r:=.d (.int .i64 1)) (endr 1 rfl hc6) ⟨rfl,_,⟨rfl,rfl⟩,h5⟩
   · have c1':(id<1)=False:=eq_false c1
     have c2:1099511627776<id:=by omega
     (refine goX (nn hc4 (nn c1' (nn c2 hc60))) ?_;(repeat' (with_reducible apply Br.mk<;>intro _)))
     refine preR ?_
     exact Fin.eq (r:=.d (.int .i64 1)) (endr 1 rfl hc6) ⟨rfl,_,⟨rfl,rfl⟩,h5⟩
 have c1':(id<1)=False:=eq_false (by omega)
 have c2':(1099511627776<id)=False:=eq_false (by omega)
 have e1:zs4 id=0:=by unfold zs4;rw [if_neg c12]
 rw [e1]
 have e2:decS c ws id commit=match za4 ws id with|none=>(c,ws)|some w=>(zkn commit id.toNat w.slot.toNat w.l c,mdel ws id):=by unfold decS;rw [if_neg c12]
 (refine goX (nn hc4 (nn c1' c2')) ?_;(repeat' (with_reducible apply Br.mk<;>intro _)))
 refine WL.cons ?_
 obtain ⟨q,mr,h4⟩:=Sep.sit (h3.perm pp:Sep (zbq sb n m c ws::ze b6 [.int .i64 0]::ze b4 [.int .i64 id]::ze b3 [.gp sb 0]::R) G3)
 have h4:Sep (SiA sb q mr n::zaw q m c::MwA mr ws::ze b6 [.int .i64 0]::ze b4 [.int .i64 id]::ze b3 [.gp sb 0]::R) G3:=h4
 have hg:=Sep.get (b:=sb) (cs:=[eSt q,.int .i64 n,.mref mr]) h4
 have hlk:=zv1 h4.tail.tail id
 have hc3:=h3.tail.tail.get
 cases hmg:za4 ws id with
 | none =>
  rw [hmg] at hlk e2
  replace e2:decS c ws id commit=(c,ws):=e2
  have hlk:gdD (.mlook [.i] (.agg [.int .i64 0,.nilS]) true) [.mref mr,.int .i64 id] G3=some (.tup [.agg [.int .i64 0,.nilS],.bool false],G3):=hlk
  rw [e2]
  (refine goX (nn hc3 (nn hc4 (nn hg hlk))) ?_;(repeat' (with_reducible apply Br.mk<;>intro _)))
  refine WL.cons ?_
  have h5:=h3.set (cs':=[.int .i64 0])
  have h6:Sep (zbq sb n (m+400) c ws::R) (G3.set b6 (some [.int .i64 0])):=Sep.sit_mono (by omega) h5.tail.tail.tail
  have hc6:(G3.set b6 (some [.int .i64 0])).c b6=some [.int .i64 0]:=h5.get
  (refine goX hc60 ?_;(repeat' (with_reducible apply Br.mk<;>intro _)))
  refine preR ?_
  exact Fin.eq (r:=.d (.int .i64 0)) (endr 0 rfl hc6) ⟨rfl,_,⟨rfl,rfl⟩,h6⟩
 | some w =>
 rw [hmg] at hlk e2
 replace e2:decS c ws id commit=(zkn commit id.toNat w.slot.toNat w.l c,mdel ws id):=e2
 have hlk:gdD (.mlook [.i] (.agg [.int .i64 0,.nilS]) true) [.mref mr,.int .i64 id] G3=some (.tup [eWr w,.bool true],G3):=hlk
 rw [e2]
 obtain ⟨s,hwo⟩:=hw w hmg
 (refine goX (nn hc3 (nn hc4 (nn hg hlk))) ?_;(repeat' (with_reducible apply Br.mk<;>intro _)))
 refine WL.cons ?_
 (refine goX trivial ?_;(repeat' (with_reducible apply Br.mk<;>intro _)))
 refine WL.nil ?_
 refine preN [.gp b6 0,.gp b3 0,.gp b4 0] rfl rfl fun dd=>?_
 show W Try.prog zz33_c _ (put (E _) (some 33) (.d (.clo f_zz18 [.gp b6 0,.gp b3 0,.gp b4 0])),_,_,_)
 obtain ⟨N,rfl⟩:∃ N:Nat,id=N:=Int.eq_ofNat_of_zero_le (by omega)
 rw [Int.toNat_natCast]
 have hws:=hwo.slot
 have hst:w.slot.toNat=s:=by omega
 rw [hst]
 have hcl:=hc.len
 have hs1:=hwo.hi
 have hsl:s<c.length:=by omega
 have hnote:=hwo.note
 have hbe:c.getD s []=c[s]:=by rw [List.getD_eq_getElem?_getD,List.getElem?_eq_getElem hsl];rfl
 rw [hbe] at hnote
 have hbf:=hc.fit _ (List.getElem_mem hsl)
 have fin':∀ {G':Gh} {c':List Str} {l:List (Nat×AV)} {h:List (Nat×Blk)},E l 6=.d (.gp b6 0)→Sep (ze b3 [.gp sb 0]::ze b4 [.int .i64 (N:Int)]::ze b6 [.int .i64 0]::SiA sb q mr n::MwA mr ws::zaw q (m+400) c'::R) G'→c'=zkn commit N s w.l c →
  z3k Try.prog zz33_F [.gp b6 0,.gp b3 0,.gp b4 0] (fun r σ' G'=>σ'=σ∧∃ post,(r=AV.d (.int .i64 0)∧post=[zbq sb n (m+400) (zkn commit N s w.l c) (mdel ws (N:Int))])∧Sep (post++R) G') .ret (E l,HB h,σ,G'):=fun {G' c' l h} h1 h2 h3=>by
  subst h3
  refine endN (zl0.mono (zs0 b3 b4 b6 G' (zaw q (m+400) (zkn commit N s w.l c)::R) sb q mr n ws 0 (N:Int) h2) fun G'' h4=>?_)
  have h5:Sep (ze b6 [.int .i64 0]::ze b3 [.gp sb 0]::ze b4 [.int .i64 (N:Int)]::SiA sb q mr n::zaw q (m+400) (zkn commit N s w.l c)::MwA mr (mdel ws (N:Int))::R) G'':=h4.perm pp
  exact Fin.eq (r:=.d (.int .i64 0)) (endr 0 h1 h5.get) ⟨rfl,_,⟨rfl,rfl⟩,Sep.of_sit h5.tail.tail.tail⟩
 have h5:Sep (zaw q m c::SiA sb q mr n::MwA mr ws::ze b6 [.int .i64 0]::ze b4 [.int .i64 (N:Int)]::ze b3 [.gp sb 0]::R) G3:=h4.perm pp
 cases commit with
 | true =>
  have hread:=zgl q m c (by omega) s hsl (by omega) 7
  rw [zrj (.inr (by omega)),← hws] at hread
  refine goS trivial ?_
  (refine goX (nn hc3 hg) ?_;(repeat' (with_reducible apply Br.mk<;>intro _)))
  (refine goM (hread) (h5) ?_)
  rintro _ _ G4 ⟨rfl,rfl⟩ h6
  have h6:Sep (zaw q m c::SiA sb q mr n::MwA mr ws::ze b6 [.int .i64 0]::ze b4 [.int .i64 (N:Int)]::ze b3 [.gp sb 0]::R) G4:=h6
  have hb0:c[s]≠[]:=by intro h;rw [h] at hnote;simp at hnote
  have hg6:=Sep.get (b:=sb) (cs:=[eSt q,.int .i64 n,.mref mr]) h6.tail
  have hc36:=h6.tail.tail.tail.tail.tail.get
  generalize hbe2:c[s]=b at hnote hb0 hbf hbe
  refine goS hb0 ?_
  (refine goX (nn hb0 (nn hc36 hg6)) ?_;(repeat' (with_reducible apply Br.mk<;>intro _)))
  have hput:=zj7 q m c (by omega) s hsl (b.take 6++[2]++b.drop 7) (by simp only [List.length_append,List.length_cons,List.length_nil];omega) (by simp only [List.length_append,List.length_cons,List.length_nil,List.length_take,List.length_drop];omega)
  rw [← hws] at hput
  (refine goI (hput) (h6) ?_)
  rintro _ _ G5 ⟨rfl,rfl⟩ h7
  have h8:Sep (SiA sb q mr n::zaw q (m+6) (c.set s (b.take 6++[2]++b.drop 7))::MwA mr ws::ze b6 [.int .i64 0]::ze b4 [.int .i64 (N:Int)]::ze b3 [.gp sb 0]::R) G5:=h7.swap
  have hc38:=h8.tail.tail.tail.tail.tail.get
  have hc48:=h8.tail.tail.tail.tail.get
  have hodd:Odd n (c.set s (b.take 6++[2]++b.drop 7)):=hc.set (by simp only [List.length_append,List.length_cons,List.length_nil,List.length_take,List.length_drop];omega) (fun ⟨k,hk1,hk2⟩=>by have:=hwo.lo;omega)
  refine goS trivial ?_
  (refine goX (nn hc38 hc48) ?_;(repeat' (with_reducible apply Br.mk<;>intro _)))
  (refine goM (zv2 sb q mr n (m+6) (c.set s (b.take 6++[2]++b.drop 7)) hodd (by omega) N w (by omega) hwo.short hwo.keys s hws (by rw [List.length_set];exact hsl)) (h8) ?_)
  rintro _ _ G6 ⟨rfl,rfl⟩ h9
  have h9:Sep (SiA sb q mr n::zaw q (m+6+300) ((zio N w.l (c.set s (b.take 6++[2]++b.drop 7))).set s [])::MwA mr ws::ze b6 [.int .i64 0]::ze b4 [.int .i64 (N:Int)]::ze b3 [.gp sb 0]::R) G6:=h9
  have h10:Sep (ze b6 [.int .i64 0]::zaw q (m+6+300) ((zio N w.l (c.set s (b.take 6++[2]++b.drop 7))).set s [])::SiA sb q mr n::MwA mr ws::ze b4 [.int .i64 (N:Int)]::ze b3 [.gp sb 0]::R) G6:=h9.perm pp
  have hc610:=h10.get
  have h11:=h10.set (cs':=[.int .i64 0])
  refine goS trivial ?_
  (refine goX hc610 ?_;(repeat' (with_reducible apply Br.mk<;>intro _)))
  refine fin' (c':=(zio N w.l (c.set s (b.take 6++[2]++b.drop 7))).set s []) rfl ?_ ?_
  · have h12:=(h11.perm pp:Sep (zaw q (m+6+300) ((zio N w.l (c.set s (b.take 6++[2]++b.drop 7))).set s [])::ze b3 [.gp sb 0]::ze b4 [.int .i64 (N:Int)]::ze b6 [.int .i64 0]::SiA sb q mr n::MwA mr ws::R) _)
    exact (Sep.slt_mono (k:=m+400) (by omega) h12).perm pp
  · unfold zkn
    rw [if_pos rfl,hbe]
    simp [z5w]
 | false =>
  have hkill:=zfs q m c (by omega) s hsl
  rw [← hws] at hkill
  refine goS trivial ?_
  (refine goX (nn hc3 hg) ?_;(repeat' (with_reducible apply Br.mk<;>intro _)))
  (refine goI (hkill) (h5) ?_)
  rintro _ _ G4 ⟨rfl,rfl⟩ h6
  have h6:Sep (zaw q (m+6) (c.set s [])::SiA sb q mr n::MwA mr ws::ze b6 [.int .i64 0]::ze b4 [.int .i64 (N:Int)]::ze b3 [.gp sb 0]::R) G4:=h6
  have hall:=zep w.l
  have hsh:=hwo.short
  have hn16:=hc.n16
  have hkl:=fun l=>zkh l (c.set s [])
  have hsl2:(c.set s []).length=c.length:=List.length_set
  refine goS trivial ?_
  (refine goX trivial ?_;(repeat' (with_reducible apply Br.mk<;>intro _)))
  refine W.loop (fun z st=>∃ (i:Nat) (b14:Blk) (G:Gh),z+i=w.l.length∧Sep (zaw q (m+6+6 * i) (zdn (w.l.take i) (c.set s []))::SiA sb q mr n::MwA mr ws::ze b6 [.int .i64 0]::ze b4 [.int .i64 (N:Int)]::ze b3 [.gp sb 0]::R) G ∧
   st=(E [(3,.d (.gp b3 0)),(6,.d (.gp b6 0)),(87,.d (eL w.l)),(88,.d (.int .i64 (w.l.length:Nat))),(89,.d (.int .i64 (i:Nat)))],HB [(7,⟨1,some [.int .i64 w.slot,eL w.l]⟩),(14,b14)],σ,G))
   ⟨_,_,zt (zdr [(7,⟨1,some [.int .i64 w.slot,eL w.l]⟩)] [14] rfl).symm,0,_,G4,rfl,Sep.slt_mono (by omega) h6,rfl⟩ ?_
  rintro z st ⟨i,b14,G5,hi,h7,rfl⟩
  have hkli:=hkl (w.l.take i)
  by_cases hlt:i<w.l.length
  case neg =>
   have hie:i=w.l.length:=by omega
   subst hie
   rw [List.take_length] at h7
   have hx:((w.l.length:Int)<(w.l.length:Int))=False:=eq_false (by omega)
   have h8:Sep (ze b6 [.int .i64 0]::zaw q (m+6+6 * (w.l.length:Int)) (zdn w.l (c.set s []))::SiA sb q mr n::MwA mr ws::ze b4 [.int .i64 (N:Int)]::ze b3 [.gp sb 0]::R) G5:=h7.perm pp
   have hc68:=h8.get
   have h9:=h8.set (cs':=[.int .i64 0])
   (refine goX (nn hx hc68) ?_;(repeat' (with_reducible apply Br.mk<;>intro _)))
   refine fin' (c':=zdn w.l (c.set s [])) rfl ?_ ?_
   · exact (Sep.slt_mono (k:=m+400) (by omega) h9.swap).perm pp
   · unfold zkn
     rw [if_neg (by simp)]
  have hlt':(i:Int)<(w.l.length:Int):=by omega
  have htk:w.l.take (i+1)=w.l.take i++[w.l[i]]:=by rw [List.take_add_one,List.getElem?_eq_getElem hlt];rfl
  have hkk:=hwo.keys _ (List.getElem_mem hlt)
  have hkc:zdn (w.l.take (i+1)) (c.set s [])=if w.l[i].rd then zdn (w.l.take i) (c.set s []) else (zdn (w.l.take i) (c.set s [])).set (2 * w.l[i].key.toNat+1) []:=by rw [htk,zoh];rfl
  generalize hxe:w.l[i]=x at hkk hkc
  obtain ⟨kn,hkn⟩:∃ kn:Nat,x.key=kn:=Int.eq_ofNat_of_zero_le hkk.1
  have hkt:x.key.toNat=kn:=by omega
  have hkb:kn<16:=by omega
  cases hr:x.rd with
  | true =>
   rw [hr,if_pos rfl] at hkc
   (refine goX (nn hlt' (nn hall (nn hxe hr))) ?_;(repeat' (with_reducible apply Br.mk<;>intro _)))
   exact ⟨z - 1,_,by omega,zt rfl,i+1,_,_,by omega,by rw [hkc];exact Sep.slt_mono (by omega) h7,rfl⟩
  | false =>
   rw [hr,if_neg (by simp),hkt] at hkc
   have k1:(2:Int) * (kn:Int)=((2 * kn:Nat):Int):=by omega
   have k2:((2 * kn:Nat):Int)+1=((2 * kn+1:Nat):Int):=by omega
   have hg7:=Sep.get (b:=sb) (cs:=[eSt q,.int .i64 n,.mref mr]) h7.tail
   have hc37:=h7.tail.tail.tail.tail.tail.get
   (refine goX (nn hlt' (nn hall (nn hxe (nn hr (nn hkn (nn hg7 (nn hc37 (nn k1 k2)))))))) ?_;(repeat' (with_reducible apply Br.mk<;>intro _)))
   (refine goI (zfs q (m+6+6 * i) (zdn (w.l.take i) (c.set s [])) (by omega) (2 * kn+1) (by omega)) (h7) ?_)
   rintro _ _ G6 ⟨rfl,rfl⟩ h8
   have h8:Sep (zaw q (m+6+6 * i+6) ((zdn (w.l.take i) (c.set s [])).set (2 * kn+1) [])::SiA sb q mr n::MwA mr ws::ze b6 [.int .i64 0]::ze b4 [.int .i64 (N:Int)]::ze b3 [.gp sb 0]::R) G6:=h8
   refine goS trivial ?_
   (refine goX trivial ?_;(repeat' (with_reducible apply Br.mk<;>intro _)))
   exact ⟨z - 1,_,by omega,zt rfl,i+1,_,_,by omega,by rw [hkc];exact Sep.slt_mono (by omega) h8,rfl⟩
end Go.Proofs.Ytlejjdbmmdghmaa
