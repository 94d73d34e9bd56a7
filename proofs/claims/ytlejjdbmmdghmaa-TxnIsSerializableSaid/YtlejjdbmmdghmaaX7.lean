/-
 Layer 40 (txn): a committed write is ended.
 Conditions: of each contract as it says.
-/
import Derived.Test.YtlejjdbmmdghmaaX6
set_option linter.unusedSimpArgs false
namespace Go.Proofs.Ytlejjdbmmdghmaa
open Go Go.E2 C22 C40
set_option maxHeartbeats 2000000
structure Odd (n:Nat) (c:List Str):Prop where
 n16:n≤16
 len:c.length=2 * n+4
 fit:∀ b∈c,b.length≤55
 odd:∀ k,k<n→∃ b,c[2 * k+1]?=some b∧(b=[]∨12≤b.length)
theorem zpw {α:Type} {l:List α} {i:Nat} {a b:α} (h:b∈l.set i a):b=a∨b∈l:=by
 rcases List.mem_or_eq_of_mem_set h with h|h
 · exact .inr h
 · exact .inl h
theorem Odd.set {n:Nat} {c:List Str} (h:Odd n c) {i:Nat} {b:Str} (hb:b.length≤55) (ho:(∃ k,i=2 * k+1∧k<n)→b=[]∨12≤b.length):Odd n (c.set i b):=by
 refine ⟨h.n16,by rw [List.length_set];exact h.len,fun x hx=>?_,fun k hk=>?_⟩
 · rcases zpw hx with rfl|hx
   · exact hb
   · exact h.fit x hx
 · have hl:=h.len
   by_cases e:i=2 * k+1
   · subst e
     exact ⟨b,by rw [List.getElem?_set_self (by omega)],ho ⟨k,rfl,hk⟩⟩
   · obtain ⟨x,hx,h2⟩:=h.odd k hk
     exact ⟨x,by rw [List.getElem?_set_ne e,hx],h2⟩
def zsz (id:Nat) (x:Tw) (c:List Str):List Str :=
 if x.rd then c else
 match c[2 * x.key.toNat+1]? with
 | none=>c
 | some b=>if b=[]∨zsu b≠id then c else (c.set (2 * x.key.toNat) (b.drop 6)).set (2 * x.key.toNat+1) []
def zio (id:Nat):List Tw→List Str→List Str
 | [],c=>c
 | x::l,c=>zio id l (zsz id x c)
theorem zri (id:Nat):∀ (a b:List Tw) (c:List Str),zio id (a++b) c=zio id b (zio id a c)
 | [],b,c=>rfl
 | x::a,b,c=>by rw [List.cons_append,zio,zio,zri id a b]
theorem Odd.fin {n:Nat} {c:List Str} (h:Odd n c) (id:Nat) (x:Tw):Odd n (zsz id x c):=by
 unfold zsz
 split
 · exact h
 · split
   · exact h
   · rename_i b hb
     split
     · exact h
     · have hm:=h.fit b (List.mem_of_getElem? hb)
       exact (h.set (by rw [List.length_drop];omega) (fun ⟨k,hk,_⟩=>by omega)).set (by simp) (fun _=>.inl rfl)
theorem Odd.fins {n:Nat} (id:Nat):∀ (l:List Tw) {c:List Str},Odd n c→Odd n (zio id l c)
 | [],_,h=>h
 | x::l,_,h=>Odd.fins id l (h.fin id x)
theorem zrj {b:Str} {k:Int} (h:b=[]∨k≤b.length):rd1 b k=(b,0):=by
 unfold rd1
 by_cases hb:b=[]
 · rw [if_pos hb,hb]
 · rw [if_neg hb,if_neg (by rcases h with h|h;exact absurd h hb;omega)]
theorem zv2 (sb q mr n:Nat) (m:Int) (c:List Str) (h:Odd n c) (hm:m≤500000000) (id:Nat) (w:Wr) (_hid:id<281474976710656) (hl:w.l.length≤16) (hk:∀ x∈w.l,0≤x.key∧x.key<n) (s:Nat) (hs:w.slot=s) (hs2:s<c.length) :
 zy Try.prog f_zz34 [.gp sb 0,.int .i64 id,eWr w] [SiA sb q mr n,zaw q m c] (fun r post=>r=.d (.int .i64 0)∧post=[SiA sb q mr n,zaw q (m+300) ((zio id w.l c).set s [])]):=by
 refine zf fol zz34_cp fun R G σ hs0=>?_
 have hall:=zep w.l
 have h1:Sep (zaw q m c::SiA sb q mr n::R) G:=hs0.swap
 refine goS trivial ?_
 refine goR trivial ?_
 refine W.loop (fun z st=>∃ (i:Nat) (b8:Blk) (G:Gh),z+i=w.l.length∧Sep (zaw q (m+12 * i) (zio id (w.l.take i) c)::SiA sb q mr n::R) G ∧
  st=(E [(0,.d (.gp sb 0)),(1,.d (.int .i64 (id:Nat))),(5,.ptr 0 5 1 0),(14,.d (eL w.l)),(15,.d (.int .i64 (w.l.length:Nat))),(16,.d (.int .i64 (i:Nat)))],HB [(5,⟨1,some [.int .i64 w.slot,eL w.l]⟩),(8,b8)],σ,G))
  ⟨_,_,zt (zdr [(5,⟨1,some [.int .i64 w.slot,eL w.l]⟩)] [8] rfl).symm,0,_,G,rfl,Sep.slt_mono (by omega) h1,rfl⟩ ?_
 rintro z st ⟨i,b8,G1,hi,h2,rfl⟩
 have ho:=h.fins id (w.l.take i)
 have hol:=ho.len
 have hg:=Sep.get (b:=sb) (cs:=[eSt q,.int .i64 n,.mref mr]) h2.tail
 have hcl:=h.len
 by_cases hlt:i<w.l.length
 case neg =>
  have hie:i=w.l.length:=by omega
  subst hie
  rw [List.take_length] at h2 hol
  have hx:((w.l.length:Int)<(w.l.length:Int))=False:=eq_false (by omega)
  (refine goX (nn hx (nn hg hs)) ?_;(repeat' (with_reducible apply Br.mk<;>intro _)))
  (refine goI (zfs q (m+12 * (w.l.length:Int)) (zio id w.l c) (by omega) s (by omega)) (h2) ?_)
  rintro _ _ G2 ⟨rfl,rfl⟩ h3
  refine goS trivial ?_
  (refine goX trivial ?_;(repeat' (with_reducible apply Br.mk<;>intro _)))
  exact Fin.eq rfl ⟨rfl,_,⟨rfl,rfl⟩,(Sep.slt_mono (k:=m+300) (by omega) h3).swap⟩
 have hlt':(i:Int)<(w.l.length:Int):=by omega
 have htk:w.l.take (i+1)=w.l.take i++[w.l[i]]:=by rw [List.take_add_one,List.getElem?_eq_getElem hlt];rfl
 have hfin:zio id (w.l.take (i+1)) c=zsz id w.l[i] (zio id (w.l.take i) c):=by rw [htk,zri];rfl
 have hkk:=hk _ (List.getElem_mem hlt)
 generalize hxe:w.l[i]=x at hkk hfin
 generalize hce:zio id (w.l.take i) c=c1 at h2 ho hol hfin
 obtain ⟨kn,hkn⟩:∃ kn:Nat,x.key=kn:=Int.eq_ofNat_of_zero_le hkk.1
 have hkt:x.key.toNat=kn:=by omega
 have hn16:=h.n16
 have hkb:kn<16:=by omega
 cases hr:x.rd with
 | true =>
  unfold zsz at hfin
  rw [hr,if_pos rfl] at hfin
  (refine goX (nn hlt' (nn hall (nn hxe hr))) ?_;(repeat' (with_reducible apply Br.mk<;>intro _)))
  exact ⟨z - 1,_,by omega,zt rfl,i+1,_,_,by omega,by rw [hfin];exact Sep.slt_mono (by omega) h2,rfl⟩
 | false =>
  obtain ⟨b,hb,hb12⟩:=ho.odd kn (by omega)
  have hbl:2 * kn+1<c1.length:=by omega
  have hbe:c1[2 * kn+1]=b:=by rw [List.getElem?_eq_getElem hbl] at hb;exact Option.some.inj hb
  have hbf:=ho.fit b (List.mem_of_getElem? hb)
  unfold zsz at hfin
  rw [hr,if_neg (by simp),hkt,hb] at hfin
  replace hfin:zio id (w.l.take (i+1)) c=if b=[]∨zsu b≠id then c1 else (c1.set (2 * kn) (b.drop 6)).set (2 * kn+1) []:=hfin
  have k1:(2:Int) * (kn:Int)=((2 * kn:Nat):Int):=by omega
  have k2:((2 * kn:Nat):Int)+1=((2 * kn+1:Nat):Int):=by omega
  have hread:=zgl q (m+12 * i) c1 (by omega) (2 * kn+1) hbl (by rw [hbe];omega) 12
  rw [hbe,zrj (by rcases hb12 with h|h;exact .inl h;exact .inr (by omega))] at hread
  (refine goX (nn hlt' (nn hall (nn hxe (nn hr (nn hkn (nn hg (nn k1 k2))))))) ?_;(repeat' (with_reducible apply Br.mk<;>intro _)))
  (refine goM (hread) (h2) ?_)
  rintro _ _ G2 ⟨rfl,rfl⟩ h3
  have h3:Sep (zaw q (m+12 * i) c1::SiA sb q mr n::R) G2:=h3
  have hg3:=Sep.get (b:=sb) (cs:=[eSt q,.int .i64 n,.mref mr]) h3.tail
  by_cases hb0:b=[]
  · rw [if_pos (.inl hb0)] at hfin
    subst hb0
    refine goS trivial ?_
    (refine goX trivial ?_;(repeat' (with_reducible apply Br.mk<;>intro _)))
    exact ⟨z - 1,_,by omega,zt rfl,i+1,_,_,by omega,by rw [hfin];exact Sep.slt_mono (by omega) h3,rfl⟩
  have hb6:12≤b.length:=by rcases hb12 with h|h;exact absurd h hb0;exact h
  by_cases hv:zsu b=id
  · rw [if_neg (by rintro (h|h);exact hb0 h;exact h hv)] at hfin
    have hvi:(((zsu b:Nat):Int)=(id:Int))=True:=eq_true (by omega)
    refine goS hb0 ?_
    (refine zg1 (nn hb0 (nn hvi (nn hg3 (nn k1 k2)))) (zei b (by omega) (by omega)) ?_;(repeat' (with_reducible apply Br.mk<;>intro _)))
    (refine goI (zj7 q (m+12 * i) c1 (by omega) (2 * kn) (by omega) (b.drop 6) (by rw [List.length_drop];omega) (by rw [List.length_drop];omega)) (h3) ?_)
    rintro _ _ G4 ⟨rfl,rfl⟩ h4
    have h4:Sep (zaw q (m+12 * i+6) (c1.set (2 * kn) (b.drop 6))::SiA sb q mr n::R) G4:=h4
    have hg4:=Sep.get (b:=sb) (cs:=[eSt q,.int .i64 n,.mref mr]) h4.tail
    refine goS trivial ?_
    (refine goX (nn hg4 (nn k1 k2)) ?_;(repeat' (with_reducible apply Br.mk<;>intro _)))
    (refine goI (zfs q (m+12 * i+6) (c1.set (2 * kn) (b.drop 6)) (by omega) (2 * kn+1) (by rw [List.length_set];omega)) (h4) ?_)
    rintro _ _ G5 ⟨rfl,rfl⟩ h5
    have h5:Sep (zaw q (m+12 * i+6+6) ((c1.set (2 * kn) (b.drop 6)).set (2 * kn+1) [])::SiA sb q mr n::R) G5:=h5
    refine goS trivial ?_
    (refine goX trivial ?_;(repeat' (with_reducible apply Br.mk<;>intro _)))
    exact ⟨z - 1,_,by omega,zt rfl,i+1,_,_,by omega,by rw [hfin];exact Sep.slt_mono (by omega) h5,rfl⟩
  · rw [if_pos (.inr hv)] at hfin
    have hvi:(((zsu b:Nat):Int)=(id:Int))=False:=eq_false (by omega)
    refine goS hb0 ?_
    (refine zg1 (nn hb0 hvi) (zei b (by omega) (by omega)) ?_;(repeat' (with_reducible apply Br.mk<;>intro _)))
    exact ⟨z - 1,_,by omega,zt rfl,i+1,_,_,by omega,by rw [hfin];exact Sep.slt_mono (by omega) h3,rfl⟩
end Go.Proofs.Ytlejjdbmmdghmaa
