/-
 Layer 40 (txn),the law TxnIsSerializable: its closures.
 Conditions: of each contract as it says.
-/
import Derived.Test.YtlejjdbmmdghmaaX19
import Derived.Test.YtlejjdbmmdghmaaT40g
set_option linter.unusedSimpArgs false
namespace Go.Proofs.Ytlejjdbmmdghmaa
open Go Go.E2 C22 C40
set_option maxHeartbeats 4000000
def OvA (o:Nat) (ov:List Bool):As:=ze o (ov.map D.bool)
def DeA (e:Nat) (de:List Int):As:=ze e (de.map eI)
def WcA (wc wb:Nat):As:=ze wc [.gp wb 0]
theorem zal (o wc de wb p0 p1 p2 kb a b:Nat) (ov:List Bool) (dl:List Int) (ho:ov.length=8) (hdl:dl.length=4) (i s:Nat) (hi:i<4) (hs2:s<2) (m:Int) (S:SS) (g:GS S) (hm:m≤390000000) :
 zy Try.prog f_zz5 [.int .i64 i,.int .i64 s,.gp o 0,.gp wc 0,.gp de 0] [OvA o ov,WcA wc wb,DeA de dl,WoA wb p0 p1 p2 kb a b,zi (if s=0 then a else b) 2 m S]
  (fun r post=>r=.d (.bool true)∧post=[OvA o (ov.set (2 * i+s) true),WcA wc wb,DeA de dl,WoA wb p0 p1 p2 kb a b,zi (if s=0 then a else b) 2 (m+400) (zdo (i+1) (decide (dl.getD i 0=1)) S)]):=by
 refine zf fol zz5_cp fun R G σ hs=>?_
 have hs:Sep (OvA o ov::WcA wc wb::DeA de dl::WoA wb p0 p1 p2 kb a b::zi (if s=0 then a else b) 2 m S::R) G:=hs
 have hg0:=Sep.get (b:=o) (cs:=ov.map D.bool) hs
 have hlm:(ov.map D.bool).length=8:=by rw [List.length_map,ho]
 refine goS trivial ?_
 have h7:(i * 2+s * 1≤7)=True:=eq_true (by omega)
 have hst:List.take (i * 2+s * 1) (ov.map D.bool)++[D.bool true]++List.drop (i * 2+s * 1+1) (ov.map D.bool)=(ov.set (2 * i+s) true).map D.bool:=by
  rw [show i * 2+s * 1=2 * i+s by omega,List.set_eq_take_append_cons_drop,if_pos (by omega),List.map_append,List.map_cons,List.map_take,List.map_drop]
  simp
 have h1:=Sep.set (cs':=(ov.set (2 * i+s) true).map D.bool) hs
 have h1:Sep (OvA o (ov.set (2 * i+s) true)::WcA wc wb::DeA de dl::WoA wb p0 p1 p2 kb a b::zi (if s=0 then a else b) 2 m S::R) (G.set o (some ((ov.set (2 * i+s) true).map D.bool))):=h1
 have hgw:upd G.c o (some ((ov.set (2 * i+s) true).map D.bool)) wc=some [.gp wb 0]:=Sep.get (b:=wc) (cs:=[.gp wb 0]) h1.tail
 have hgd:upd G.c o (some ((ov.set (2 * i+s) true).map D.bool)) de=some (dl.map eI):=Sep.get (b:=de) (cs:=dl.map eI) h1.tail.tail
 have hgo:upd G.c o (some ((ov.set (2 * i+s) true).map D.bool)) wb=some [.gp p0 0,.gp p1 0,.gp p2 0,.gp kb 0,.list [.gp a 0,.gp b 0]]:=Sep.get (b:=wb) (cs:=[.gp p0 0,.gp p1 0,.gp p2 0,.gp kb 0,.list [.gp a 0,.gp b 0]]) h1.tail.tail.tail
 have hvi:zc1 1 (some (.list [.gp a 0,.gp b 0])) (.d (.int .i64 s))=some (.cptr [.gp (if s=0 then a else b) 0]):=by
  rcases (by omega:s=0∨s=1) with rfl|rfl<;>rfl
 have hdd:(List.drop (i * 1) (dl.map eI)).head?=some (.int .i64 (dl.getD i 0)):=by
  rw [List.head?_drop,Nat.mul_one,List.getElem?_map,List.getD_eq_getElem?_getD,List.getElem?_eq_getElem (by omega)];rfl
 have h2:Sep (zi (if s=0 then a else b) 2 m S::OvA o (ov.set (2 * i+s) true)::WcA wc wb::DeA de dl::WoA wb p0 p1 p2 kb a b::R) (G.set o (some ((ov.set (2 * i+s) true).map D.bool))):=h1.perm pp
 obtain ⟨V,g⟩:=g
 have i1:(i:Int)+1=((i+1:Nat):Int):=by omega
 have hde:zs4 ((i+1:Nat):Int)=0:=by rw [zmr,if_pos (zpt (by omega) (by omega))]
 generalize (if s=0 then a else b)=c at hvi h2 ⊢
 generalize dl.getD i 0=d at hdd ⊢
 rw [i1]
 by_cases hd1:d=1
 · subst hd1
   rw [decide_eq_true rfl]
   have hdec:=z1k (sb:=c) g (m:=m) (by omega) ((i+1:Nat):Int) true
   rw [hde] at hdec
   refine goR (nn hg0 (nn hlm (nn h7 (nn hst (nn hgw (nn hgd (nn hgo (nn hvi (nn hdd i1))))))))) ?_
   (refine goM (hdec) (h2) ?_)
   rintro _ _ G2 ⟨rfl,rfl⟩ h3
   have h3:Sep (zi c 2 (m+400) (zdo ((i+1:Nat):Int) true S)::OvA o (ov.set (2 * i+s) true)::WcA wc wb::DeA de dl::WoA wb p0 p1 p2 kb a b::R) G2:=h3
   have h4:Sep (OvA o (ov.set (2 * i+s) true)::WcA wc wb::DeA de dl::WoA wb p0 p1 p2 kb a b::zi c 2 (m+400) (zdo ((i+1:Nat):Int) true S)::R) G2:=h3.perm pp
   refine goS trivial ?_
   (refine goX trivial ?_;(repeat' (with_reducible apply Br.mk<;>intro _)))
   exact Fin.eq rfl ⟨rfl,_,⟨rfl,rfl⟩,h4⟩
 · rw [decide_eq_false hd1]
   have hd1':(d=1)=False:=eq_false hd1
   have hdec:=z1k (sb:=c) g (m:=m) (by omega) ((i+1:Nat):Int) false
   rw [hde] at hdec
   refine goR (nn hg0 (nn hlm (nn h7 (nn hst (nn hgw (nn hgd (nn hgo (nn hvi (nn hdd (nn i1 hd1')))))))))) ?_
   (refine goM (hdec) (h2) ?_)
   rintro _ _ G2 ⟨rfl,rfl⟩ h3
   have h3:Sep (zi c 2 (m+400) (zdo ((i+1:Nat):Int) false S)::OvA o (ov.set (2 * i+s) true)::WcA wc wb::DeA de dl::WoA wb p0 p1 p2 kb a b::R) G2:=h3
   have h4:Sep (OvA o (ov.set (2 * i+s) true)::WcA wc wb::DeA de dl::WoA wb p0 p1 p2 kb a b::zi c 2 (m+400) (zdo ((i+1:Nat):Int) false S)::R) G2:=h3.perm pp
   refine goS trivial ?_
   (refine goX trivial ?_;(repeat' (with_reducible apply Br.mk<;>intro _)))
   exact Fin.eq rfl ⟨rfl,_,⟨rfl,rfl⟩,h4⟩
end Go.Proofs.Ytlejjdbmmdghmaa
namespace Go.Proofs.Ytlejjdbmmdghmaa
open Go Go.E2 C22 C40
set_option maxHeartbeats 4000000
def MoA (mo:Nat) (M0 M1:List Vl):As:=ze mo (st8 M0 M1 4)
abbrev eW2 (p:List Tw×List Tw):D:=.agg [eL p.1,eL p.2]
def WvA (wv:Nat) (wr:List (List Tw×List Tw)):As:=ze wv [.list (wr.map eW2)]
theorem zvw (wr:List (List Tw×List Tw)):(wr.map eW2).all (za 2)=true:=by
 rw [List.all_eq_true];intro x hx
 obtain ⟨y,_,rfl⟩:=List.mem_map.1 hx;rfl
theorem zmg:∀ (a b:List Tw) (V:List Vl),zfv (a++b) V=zfv b (zfv a V)
 | [],b,V=>rfl
 | x::a,b,V=>by rw [List.cons_append,zfv,zfv,zmg a b]
theorem zoc {l:List Tw} (hn:(l.map Tw.key).Nodup) (h0:∀ x∈l,0≤x.key) {j:Nat} (hj:j<l.length) (M:List Vl):vl (zfv (l.take j) M) l[j].key.toNat=vl M l[j].key.toNat:=by
 refine zdh _ _ _ fun x hx _ he=>?_
 have h1:=h0 x (List.mem_of_mem_take hx)
 have h2:=h0 _ (List.getElem_mem hj)
 obtain ⟨i,hi,rfl⟩:=List.getElem_of_mem hx
 rw [List.length_take] at hi
 rw [List.getElem_take] at he h1
 have h3:l[i].key=l[j].key:=by omega
 have e4:(l.map Tw.key)[i]'(by rw [List.length_map];omega)=(l.map Tw.key)[j]'(by rw [List.length_map];exact hj):=by simpa using h3
 have e5:i=j:=(List.getElem_inj hn).1 e4
 omega
theorem zmh {P:List Vl} (h:P.length=2) (v:Vl):vl (P.set 0 v) 0=v∧vl (P.set 0 v) 1=vl P 1:=by
 refine ⟨by rw [zln,if_pos ⟨rfl,by omega⟩],by rw [zln,if_neg (by omega)]⟩
theorem zmi {P:List Vl} (h:P.length=2) (v:Vl):vl (P.set 1 v) 1=v∧vl (P.set 1 v) 0=vl P 0:=by
 refine ⟨by rw [zln,if_pos ⟨rfl,by omega⟩],by rw [zln,if_neg (by omega)]⟩
theorem zsw (de wv mo:Nat) (wr:List (List Tw×List Tw)) (dl:List Int) (M0 M1:List Vl) (i:Nat) (hi:i<wr.length) (hi4:wr.length≤4) (hdl:dl.length=4) (hM0:M0.length=2) (hM1:M1.length=2)
 (p0 p1:List Tw) (hp:wr[i]=(p0,p1)) (nod0:(p0.map Tw.key).Nodup) (nod1:(p1.map Tw.key).Nodup) (keys0:∀ x∈p0,0≤x.key∧x.key<2) (keys1:∀ x∈p1,0≤x.key∧x.key<2)
 (vers0:∀ x∈p0,(vl M0 x.key.toNat).1=x.ver) (vers1:∀ x∈p1,(vl M1 x.key.toNat).1=x.ver) (vb0:∀ x∈p0,0≤x.ver∧x.ver≤1099511627776) (vb1:∀ x∈p1,0≤x.ver∧x.ver≤1099511627776) (hl0:p0.length≤16) (hl1:p1.length≤16) :
 zy Try.prog f_zz6 [.int .i64 i,.gp de 0,.gp wv 0,.gp mo 0] [DeA de dl,WvA wv wr,MoA mo M0 M1]
  (fun r post=>r=.d (.bool true)∧post=[DeA de (dl.set i 1),WvA wv wr,MoA mo (zfv p0 M0) (zfv p1 M1)]):=by
 refine zf fol zz6_cp fun R G σ hs=>?_
 have hs:Sep (DeA de dl::WvA wv wr::MoA mo M0 M1::R) G:=hs
 have hgd:=Sep.get (b:=de) (cs:=dl.map eI) hs
 have hlm:(dl.map eI).length=4:=by rw [List.length_map,hdl]
 have h3':(i * 1≤3)=True:=eq_true (by omega)
 have hst:List.take (i * 1) (dl.map eI)++[.int .i64 1]++List.drop (i * 1+1) (dl.map eI)=(dl.set i 1).map eI:=by
  rw [Nat.mul_one,List.set_eq_take_append_cons_drop,if_pos (by omega),List.map_append,List.map_cons,List.map_take,List.map_drop]
  simp
 have h0:=Sep.set (cs':=(dl.set i 1).map eI) hs
 have h0:Sep (DeA de (dl.set i 1)::WvA wv wr::MoA mo M0 M1::R) (G.set de (some ((dl.set i 1).map eI))):=h0
 refine goS trivial ?_
 refine goR (nn hgd (nn hlm (nn h3' hst))) ?_
 generalize G.set de (some ((dl.set i 1).map eI))=G0 at h0 ⊢
 have h01:Sep (MoA mo M0 M1::WvA wv wr::DeA de (dl.set i 1)::R) G0:=h0.perm pp
 clear hgd hlm h3' hst hs
 have hall2:=zvw wr
 refine W.loop (fun z st=>∃ (s:Nat) (b8:Blk) (A B:List Vl) (G:Gh),z+s=2∧(s=0∧A=M0∧B=M1∨s=1∧A=zfv p0 M0∧B=M1∨s=2∧A=zfv p0 M0∧B=zfv p1 M1)∧Sep (MoA mo A B::WvA wv wr::DeA de (dl.set i 1)::R) G ∧
  st=(E [(0,.d (.int .i64 i)),(2,.d (.gp wv 0)),(3,.d (.gp mo 0)),(11,.d (.int .i64 (s:Nat)))],HB [(8,b8)],σ,G))
  ⟨_,_,zt (zdr [] [8] rfl).symm,0,_,M0,M1,G0,rfl,.inl ⟨rfl,rfl,rfl⟩,h01,rfl⟩ ?_
 rintro z st ⟨s,b8,A,B,G1,hz,hAB,h1,rfl⟩
 have hwv:=Sep.get (b:=wv) (cs:=[.list (wr.map eW2)]) h1.tail
 have hiw:zc1 2 (some (.list (wr.map eW2))) (.d (.int .i64 i))=some (.cptr [eL p0,eL p1]):=by
  rw [zla _ _ _ _ _ (by omega) (by omega),if_pos hall2]
  simp only [Int.toNat_natCast,hp]
  rfl
 clear h01
 rcases hAB with ⟨rfl,rfl,rfl⟩|⟨rfl,rfl,rfl⟩|⟨rfl,rfl,rfl⟩
 · -- the first site
   have hi2:True:=trivial
   have hlen:=hl0
   have hall:=zep p0
   (refine goX (nn hwv (nn hiw (nn hi2 @Int.toNat_natCast))) ?_;(repeat' (with_reducible apply Br.mk<;>intro _)))
   refine W.loop (fun z st=>∃ (j:Nat) (P:List Vl) (b8:Blk) (G:Gh),z+j=p0.length∧P.length=2∧P=zfv (p0.take j) A∧Sep (MoA mo P B::WvA wv wr::DeA de (dl.set i 1)::R) G ∧
    st=(E [(0,.d (.int .i64 i)),(2,.d (.gp wv 0)),(3,.d (.gp mo 0)),(6,.d (.int .i64 0)),(11,.d (.int .i64 0)),(19,.d (eL p0)),(20,.d (.int .i64 (p0.length:Nat))),(21,.d (.int .i64 (j:Nat)))],HB [(8,b8)],σ,G))
    ⟨_,_,zt rfl,0,A,_,_,rfl,hM0,rfl,h1,rfl⟩ ?_
   rintro z1 st ⟨j,P,b8',G2,hj,hPl,hP,h2,rfl⟩
   have hgm:G2.c mo=some [.int .i64 (vl P 0).1,.str (vl P 0).2,.int .i64 (vl P 1).1,.str (vl P 1).2,.int .i64 (vl B 0).1,.str (vl B 0).2,.int .i64 (vl B 1).1,.str (vl B 1).2]:=Sep.get (b:=mo) (cs:=[.int .i64 (vl P 0).1,.str (vl P 0).2,.int .i64 (vl P 1).1,.str (vl P 1).2,.int .i64 (vl B 0).1,.str (vl B 0).2,.int .i64 (vl B 1).1,.str (vl B 1).2]) h2
   by_cases hlt:j<p0.length
   · have hlt':(j:Int)<(p0.length:Int):=by omega
     have hkx:=keys0 _ (List.getElem_mem hlt)
     have htk:p0.take (j+1)=p0.take j++[p0[j]]:=by rw [List.take_add_one,List.getElem?_eq_getElem hlt];rfl
     have hver:(vl P p0[j].key.toNat).1=p0[j].ver:=by
      rw [hP,zoc (nod0) (fun x hx=>(keys0 x hx).1) hlt];exact vers0 _ (List.getElem_mem hlt)
     have hP1:zfv (p0.take (j+1)) A=if p0[j].rd then P else P.set p0[j].key.toNat (p0[j].ver+1,p0[j].val):=by rw [htk,zmg,← hP];rfl
     have hvb:=vb0 _ (List.getElem_mem hlt)
     generalize hxe:p0[j]=x at hkx hver hP1 hvb
     obtain ⟨k,hk⟩:∃ k:Nat,x.key=k:=Int.eq_ofNat_of_zero_le hkx.1
     rw [show x.key.toNat=k by omega] at hver hP1
     cases hr:x.rd with
     | true =>
      rw [hr,if_pos rfl] at hP1
      rcases (by omega:k=0∨k=1) with rfl|rfl
      · (refine goX (nn hlt' (nn hall (nn hxe (nn hk (nn hgm (nn hver hr)))))) ?_;(repeat' (with_reducible apply Br.mk<;>intro _)))
        exact ⟨z1 - 1,_,by omega,zt rfl,j+1,P,_,_,by omega,hPl,hP1.symm,h2,rfl⟩
      · (refine goX (nn hlt' (nn hall (nn hxe (nn hk (nn hgm (nn hver hr)))))) ?_;(repeat' (with_reducible apply Br.mk<;>intro _)))
        exact ⟨z1 - 1,_,by omega,zt rfl,j+1,P,_,_,by omega,hPl,hP1.symm,h2,rfl⟩
     | false =>
      rw [hr,if_neg (by simp)] at hP1
      rcases (by omega:k=0∨k=1) with rfl|rfl
      · have h3:=Sep.set (cs':=[.int .i64 (x.ver+1),.str x.val,.int .i64 (vl P 1).1,.str (vl P 1).2,.int .i64 (vl B 0).1,.str (vl B 0).2,.int .i64 (vl B 1).1,.str (vl B 1).2]) h2
        (refine goX (nn hlt' (nn hall (nn hxe (nn hk (nn hgm (nn hver hr)))))) ?_;(repeat' (with_reducible apply Br.mk<;>intro _)))
        exact ⟨z1 - 1,_,by omega,zt rfl,j+1,P.set 0 (x.ver+1,x.val),_,_,by omega,by rw [List.length_set];exact hPl,hP1.symm,by unfold MoA st8;rw [(zmh hPl _).1,(zmh hPl _).2];exact h3,rfl⟩
      · have h3:=Sep.set (cs':=[.int .i64 (vl P 0).1,.str (vl P 0).2,.int .i64 (x.ver+1),.str x.val,.int .i64 (vl B 0).1,.str (vl B 0).2,.int .i64 (vl B 1).1,.str (vl B 1).2]) h2
        (refine goX (nn hlt' (nn hall (nn hxe (nn hk (nn hgm (nn hver hr)))))) ?_;(repeat' (with_reducible apply Br.mk<;>intro _)))
        exact ⟨z1 - 1,_,by omega,zt rfl,j+1,P.set 1 (x.ver+1,x.val),_,_,by omega,by rw [List.length_set];exact hPl,hP1.symm,by unfold MoA st8;rw [(zmi hPl _).1,(zmi hPl _).2];exact h3,rfl⟩
   · have hje:j=p0.length:=by omega
     have hx:((j:Int)<(p0.length:Int))=False:=eq_false (by omega)
     rw [hje,List.take_length] at hP
     rw [hP] at h2
     (refine goX hx ?_;(repeat' (with_reducible apply Br.mk<;>intro _)))
     exact ⟨z - 1,_,by omega,zt rfl,1,_,_,_,_,by omega,.inr (.inl ⟨rfl,rfl,rfl⟩),h2,rfl⟩
 · -- the second site
   have hi2:True:=trivial
   generalize zfv p0 M0=A at h1 ⊢
   have hlen:=hl1
   have hall:=zep p1
   (refine goX (nn hwv (nn hiw (nn hi2 @Int.toNat_natCast))) ?_;(repeat' (with_reducible apply Br.mk<;>intro _)))
   refine W.loop (fun z st=>∃ (j:Nat) (P:List Vl) (b8:Blk) (G:Gh),z+j=p1.length∧P.length=2∧P=zfv (p1.take j) B∧Sep (MoA mo A P::WvA wv wr::DeA de (dl.set i 1)::R) G ∧
    st=(E [(0,.d (.int .i64 i)),(2,.d (.gp wv 0)),(3,.d (.gp mo 0)),(6,.d (.int .i64 1)),(11,.d (.int .i64 1)),(19,.d (eL p1)),(20,.d (.int .i64 (p1.length:Nat))),(21,.d (.int .i64 (j:Nat)))],HB [(8,b8)],σ,G))
    ⟨_,_,zt rfl,0,B,_,_,rfl,hM1,rfl,h1,rfl⟩ ?_
   rintro z1 st ⟨j,P,b8',G2,hj,hPl,hP,h2,rfl⟩
   have hgm:G2.c mo=some [.int .i64 (vl A 0).1,.str (vl A 0).2,.int .i64 (vl A 1).1,.str (vl A 1).2,.int .i64 (vl P 0).1,.str (vl P 0).2,.int .i64 (vl P 1).1,.str (vl P 1).2]:=Sep.get (b:=mo) (cs:=[.int .i64 (vl A 0).1,.str (vl A 0).2,.int .i64 (vl A 1).1,.str (vl A 1).2,.int .i64 (vl P 0).1,.str (vl P 0).2,.int .i64 (vl P 1).1,.str (vl P 1).2]) h2
   by_cases hlt:j<p1.length
   · have hlt':(j:Int)<(p1.length:Int):=by omega
     have hkx:=keys1 _ (List.getElem_mem hlt)
     have htk:p1.take (j+1)=p1.take j++[p1[j]]:=by rw [List.take_add_one,List.getElem?_eq_getElem hlt];rfl
     have hver:(vl P p1[j].key.toNat).1=p1[j].ver:=by
      rw [hP,zoc (nod1) (fun x hx=>(keys1 x hx).1) hlt];exact vers1 _ (List.getElem_mem hlt)
     have hP1:zfv (p1.take (j+1)) B=if p1[j].rd then P else P.set p1[j].key.toNat (p1[j].ver+1,p1[j].val):=by rw [htk,zmg,← hP];rfl
     have hvb:=vb1 _ (List.getElem_mem hlt)
     generalize hxe:p1[j]=x at hkx hver hP1 hvb
     obtain ⟨k,hk⟩:∃ k:Nat,x.key=k:=Int.eq_ofNat_of_zero_le hkx.1
     rw [show x.key.toNat=k by omega] at hver hP1
     cases hr:x.rd with
     | true =>
      rw [hr,if_pos rfl] at hP1
      rcases (by omega:k=0∨k=1) with rfl|rfl
      · (refine goX (nn hlt' (nn hall (nn hxe (nn hk (nn hgm (nn hver hr)))))) ?_;(repeat' (with_reducible apply Br.mk<;>intro _)))
        exact ⟨z1 - 1,_,by omega,zt rfl,j+1,P,_,_,by omega,hPl,hP1.symm,h2,rfl⟩
      · (refine goX (nn hlt' (nn hall (nn hxe (nn hk (nn hgm (nn hver hr)))))) ?_;(repeat' (with_reducible apply Br.mk<;>intro _)))
        exact ⟨z1 - 1,_,by omega,zt rfl,j+1,P,_,_,by omega,hPl,hP1.symm,h2,rfl⟩
     | false =>
      rw [hr,if_neg (by simp)] at hP1
      rcases (by omega:k=0∨k=1) with rfl|rfl
      · have h3:=Sep.set (cs':=[.int .i64 (vl A 0).1,.str (vl A 0).2,.int .i64 (vl A 1).1,.str (vl A 1).2,.int .i64 (x.ver+1),.str x.val,.int .i64 (vl P 1).1,.str (vl P 1).2]) h2
        (refine goX (nn hlt' (nn hall (nn hxe (nn hk (nn hgm (nn hver hr)))))) ?_;(repeat' (with_reducible apply Br.mk<;>intro _)))
        exact ⟨z1 - 1,_,by omega,zt rfl,j+1,P.set 0 (x.ver+1,x.val),_,_,by omega,by rw [List.length_set];exact hPl,hP1.symm,by unfold MoA st8;rw [(zmh hPl _).1,(zmh hPl _).2];exact h3,rfl⟩
      · have h3:=Sep.set (cs':=[.int .i64 (vl A 0).1,.str (vl A 0).2,.int .i64 (vl A 1).1,.str (vl A 1).2,.int .i64 (vl P 0).1,.str (vl P 0).2,.int .i64 (x.ver+1),.str x.val]) h2
        (refine goX (nn hlt' (nn hall (nn hxe (nn hk (nn hgm (nn hver hr)))))) ?_;(repeat' (with_reducible apply Br.mk<;>intro _)))
        exact ⟨z1 - 1,_,by omega,zt rfl,j+1,P.set 1 (x.ver+1,x.val),_,_,by omega,by rw [List.length_set];exact hPl,hP1.symm,by unfold MoA st8;rw [(zmi hPl _).1,(zmi hPl _).2];exact h3,rfl⟩
   · have hje:j=p1.length:=by omega
     have hx:((j:Int)<(p1.length:Int))=False:=eq_false (by omega)
     rw [hje,List.take_length] at hP
     rw [hP] at h2
     (refine goX hx ?_;(repeat' (with_reducible apply Br.mk<;>intro _)))
     exact ⟨z - 1,_,by omega,zt rfl,2,_,_,_,_,by omega,.inr (.inr ⟨rfl,rfl,rfl⟩),h2,rfl⟩
 · -- the end
   have h4:Sep (DeA de (dl.set i 1)::WvA wv wr::MoA mo (zfv p0 M0) (zfv p1 M1)::R) G1:=h1.perm pp
   (refine goX trivial ?_;(repeat' (with_reducible apply Br.mk<;>intro _)))
   exact Fin.eq rfl ⟨rfl,_,⟨rfl,rfl⟩,h4⟩
end Go.Proofs.Ytlejjdbmmdghmaa
