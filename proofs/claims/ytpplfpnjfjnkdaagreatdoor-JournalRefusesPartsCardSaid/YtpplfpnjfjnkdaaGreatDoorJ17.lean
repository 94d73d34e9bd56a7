/-
 Layer 23: Open,by the program.
 Conditions: of each contract as it says.
-/
import Derived.Test.YtpplfpnjfjnkdaaGreatDoorJ13
import Derived.Test.YtpplfpnjfjnkdaaGreatDoorS22
set_option linter.unusedSimpArgs false
namespace Go.Proofs.YtpplfpnjfjnkdaaGreatDoor
open Go Go.E2 C22 C23 CW
set_option maxHeartbeats 16000000
theorem z0d (p:Nat) (d:Dk) (first n:Int) (hE:zg3 d first n≠0):zaq Tryz.prog f_zz100 [.gp p 0,eI first,eI n] [zf p d] (fun r post=>r=.tup [.nilP,eI (zg3 d first n)]∧post=[zf p d]):=by
 refine zu fol zz100_cp fun R G σ hs=>?_
 have hs:Sep (zf p d::R) G:=hs
 have hok:=zw7 hs
 have hm:=hok.most
 have hF:eF p d first n=if za9 d first n=0 then eP p first (n / 2) else .agg [.nilP,eI 0,eI 0]:=rfl
 by_cases h0:za9 d first n=0
 case neg =>
  have hf:zg3 d first n=za9 d first n:=if_pos h0
  rw [hf]
  rw [if_neg h0] at hF
  have h0':=eq_false h0
  have hfd:=(zku p d first n).q hs
  rw [hF] at hfd
  generalize za9 d first n=e at *
  refine goS trivial ?_
  (refine zb7 h0' (hfd) ?_;(repeat' (with_reducible apply Br.mk<;>intro _)))
  exact Fin.eq rfl ⟨rfl,_,⟨rfl,rfl⟩,hs⟩
 obtain ⟨g1,g2,g3,g4⟩:=zeh h0
 rw [if_pos h0] at hF
 obtain ⟨half,hhalf⟩:∃ half:Nat,half=(n / 2).toNat:=⟨_,rfl⟩
 have hhi:n / 2=(half:Int):=by omega
 have hf1:zg3 d first n=if z1 (hds d first 0)=none∧z1 (hds d (first+half) 1)=none then 14 else if 4294967295<zz d first half then 2 else 0:=by
  unfold zg3
  rw [if_neg (fun h=>h h0),← hhalf]
 have hfd:=(zku p d first n).q hs
 rw [hF,h0,hhi] at hfd
 have hgr:=zg1 p d first half g2 (by omega) (by omega)
 have hbl:=zh3 d first half
 generalize zz d first half=ses at *
 generalize z1 (hds d first 0)=a at *
 generalize z1 (hds d (first+half) 1)=b at *
 have hl2:(hC a b).length=4:=rfl
 have u2:(hC a b).all D.one=true:=rfl
 generalize hC a b=H at *
 refine goS trivial ?_
 (refine zb7 trivial (hfd) ?_;(repeat' (with_reducible apply Br.mk<;>intro _)))
 (refine goM (hgr) (hs) ?_)
 rintro _ _ G2 ⟨rfl,rfl⟩ hs2
 rw [show sC a b=[.bool a.isSome,.bool b.isSome] from rfl]
 by_cases h5:a=none∧b=none
 · rw [if_pos h5] at hf1
   obtain ⟨rfl,rfl⟩:=h5
   rw [hf1]
   refine goS (nn hl2 u2) ?_
   (refine goX (nn hl2 (nn u2 oin)) ?_;(repeat' (with_reducible apply Br.mk<;>intro _)))
   exact Fin.eq rfl ⟨rfl,_,⟨rfl,rfl⟩,hs2⟩
 rw [if_neg h5] at hf1
 by_cases h6:4294967295<ses
 · rw [if_pos h6] at hf1
   rw [hf1]
   have h6':(4294967295<(ses:Int))=True:=eq_true (by omega)
   cases a<;>cases b
   · exact absurd ⟨rfl,rfl⟩ h5
   all_goals
    refine goS (nn hl2 u2) ?_
    (refine goX (nn hl2 (nn u2 (nn oin (nn ois h6')))) ?_;(repeat' (with_reducible apply Br.mk<;>intro _)))
    exact Fin.eq rfl ⟨rfl,_,⟨rfl,rfl⟩,hs2⟩
 · rw [if_neg h6] at hf1
   exact absurd hf1 hE
end Go.Proofs.YtpplfpnjfjnkdaaGreatDoor
namespace Go.Proofs.YtpplfpnjfjnkdaaGreatDoor
open Go Go.E2 C22 C23 CW
set_option maxHeartbeats 16000000
theorem zks (p:Nat) (d:Dk) (first n:Int) (half:Nat) (hhalf:half=(n / 2).toNat) (hE:zg3 d first n=0):zaq Tryz.prog f_zz100 [.gp p 0,eI first,eI n] [zf p d] (fun r post=>∃ j rec,r=.tup [.gp j 0,eI 0] ∧
 post=[zf p d,za j (jC p first half (zx8 d first half).g (zx8 d first half).ses (zx8 d first half).side (zx8 d first half).used (zx8 d first half).lk rec),SlA 1 rec ((zx8 d first half).recs.map .str)]):=by
 refine zu fol zz100_cp fun R G σ hs=>?_
 have hs:Sep (zf p d::R) G:=hs
 have hok:=zw7 hs
 have hm:=hok.most
 have hF:eF p d first n=if za9 d first n=0 then eP p first (n / 2) else .agg [.nilP,eI 0,eI 0]:=rfl
 have h0:za9 d first n=0:=by
  by_cases h:za9 d first n=0
  · exact h
  · unfold zg3 at hE;rw [if_pos h] at hE;exact hE
 obtain ⟨g1,g2,g3,g4⟩:=zeh h0
 rw [if_pos h0] at hF
 have hhi:n / 2=(half:Int):=by omega
 have hf1:zg3 d first n=if z1 (hds d first 0)=none∧z1 (hds d (first+half) 1)=none then 14 else if 4294967295<zz d first half then 2 else 0:=by
  unfold zg3
  rw [if_neg (fun h=>h h0),← hhalf]
 rw [hE] at hf1
 have h5:¬ (z1 (hds d first 0)=none∧z1 (hds d (first+half) 1)=none):=fun h=>by rw [if_pos h] at hf1;omega
 rw [if_neg h5] at hf1
 have h6:¬ 4294967295<zz d first half:=fun h=>by rw [if_pos h] at hf1;omega
 have hfd:=(zku p d first n).q hs
 rw [hF,h0,hhi] at hfd
 have hgr:=zg1 p d first half g2 (by omega) (by omega)
 have hla:=zx9 d first 0
 have hlb:=zx9 d (first+half) 1
 have hJ:zx8 d first half=z2h d first half (zz d first half) (zjd (z1 (hds d first 0)) (z1 (hds d (first+half) 1))) (zk3 (z1 (hds d first 0)) (z1 (hds d (first+half) 1))):=rfl
 rw [hJ]
 have hsc:=fun (j side g s':Nat) (lk:List UInt8) (hside:side=0∨side=1) (hlk:lk.length=8)=>z4l p d first half j g s' side lk (first+side * half) rfl g2 (by omega) (by omega) hside hlk (half / 2 - 1) rfl
 generalize zz d first half=ses at *
 generalize z1 (hds d first 0)=a at *
 generalize z1 (hds d (first+half) 1)=b at *
 have h6':(4294967295<(ses:Int))=False:=eq_false (by omega)
 refine goS trivial ?_
 (refine zb7 trivial (hfd) ?_;(repeat' (with_reducible apply Br.mk<;>intro _)))
 (refine goM (hgr) (hs) ?_)
 rintro _ _ G2 ⟨rfl,rfl⟩ hs2
 rw [show sC a b=[.bool a.isSome,.bool b.isSome] from rfl,show hC a b=[eN (hO a).g,eN (hO a).n,eN (hO b).g,eN (hO b).n] from rfl]
 have hside:zjd a b=if a.isSome=false∨b.isSome=true∧(hO a).g<(hO b).g then 1 else 0:=rfl
 have hhead:zk3 a b=if zjd a b=1 then hO b else hO a:=by unfold zk3;split<;>rfl
 have hla:(hO a).g<4294967296∧(hO a).n<4294967296:=hla
 have hlb:(hO b).g<4294967296∧(hO b).n<4294967296:=hlb
 generalize hO a=x at *
 generalize hO b=y at *
 generalize zjd a b=side at *
 generalize zk3 a b=hd at *
 cases a with
 | none =>
  cases b with
  | none=>exact absurd ⟨rfl,rfl⟩ h5
  | some y' =>
   refine goS trivial ?_
   (refine goX (nn oin (nn ois h6')) ?_;(repeat' (with_reducible apply Br.mk<;>intro _)))
   refine zx fun j hj=>?_
   have t1:=Sep.new (cs:=jC p first half 0 0 0 0 (List.replicate 8 0) .nilS) hj hs2
   have ez:(D.gp p 0::eI first::eI half::D.int .i64 0::D.int .i64 0::D.int .i64 0::D.int .i64 0::(zr 8 (D.int .u8 0)++[D.nilS]))=jC p first half 0 0 0 0 (List.replicate 8 0) .nilS:=rfl
   rw [ez]
   generalize G2.set j _=G3 at t1 ⊢
   have kj:=t1.get
   have l1:=za8 p first half 0 0 0 0 (List.replicate 8 0) .nilS rfl
   have l2:=za8 p first half 0 0 1 0 (List.replicate 8 0) .nilS rfl
   have l3:=za8 p first half y.g y.n 1 0 (List.replicate 8 0) .nilS rfl
   have w5:List.take 5 (jC p first half 0 0 0 0 (List.replicate 8 0) .nilS)++[D.int .i64 1]++List.drop 6 (jC p first half 0 0 0 0 (List.replicate 8 0) .nilS)=jC p first half 0 0 1 0 (List.replicate 8 0) .nilS:=rfl
   have w3:List.take 3 (jC p first half 0 0 1 0 (List.replicate 8 0) .nilS)++[eN y.g,eN y.n]++List.drop 5 (jC p first half 0 0 1 0 (List.replicate 8 0) .nilS)=jC p first half y.g y.n 1 0 (List.replicate 8 0) .nilS:=rfl
   have q5:(List.drop 5 (jC p first half 0 0 1 0 (List.replicate 8 0) .nilS)).head?=some (eN 1):=rfl
   have q5':(List.drop 5 (jC p first half y.g y.n 1 0 (List.replicate 8 0) .nilS)).head?=some (eN 1):=rfl
   have q3:List.take 2 (List.drop 3 (jC p first half y.g y.n 1 0 (List.replicate 8 0) .nilS))=[eN y.g,eN y.n]:=rfl
   have hsec:=zeu y.g y.n 1 (by omega) (by omega) (by decide)
   obtain ⟨hx,hhx⟩:∃ hx,hx=mkH y.g y.n 1:=⟨_,rfl⟩
   rw [← hhx] at hsec
   have hlk:=zfp hx
   have hll:(tx hx 48 56).length=8:=zas hx (by decide)
   have w7:List.take 7 (jC p first half y.g y.n 1 0 (List.replicate 8 0) .nilS)++(tx hx 48 56).map eB++List.drop 15 (jC p first half y.g y.n 1 0 (List.replicate 8 0) .nilS)=jC p first half y.g y.n 1 0 (tx hx 48 56) .nilS:=rfl
   have hss:=zj hx
   have tkl:=zbq hll
   have olk:=zbx (tx hx 48 56)
   generalize List.replicate 8 (0:UInt8)=z8 at *
   generalize jC p first half 0 0 0 0 z8 .nilS=J0 at *
   refine goS (nn kj l1) ?_
   (refine zgi (nn kj (nn l1 (nn l2 (nn l3 (nn w5 (nn w3 (nn q5 (nn q5' (nn q3 (nn w7 (nn hll (nn tkl (nn olk hss))))))))))))) (hsec) (hlk) ?_;(repeat' (with_reducible apply Br.mk<;>intro _)))
   have hsc1:=hsc j 1 y.g y.n (tx hx 48 56) (.inr rfl) hll
   have t2:=t1.set (cs':=jC p first half y.g y.n 1 0 (tx hx 48 56) .nilS)
   (refine goM (hsc1) (t2.swap) ?_)
   rintro _ _ G4 ⟨rec,rfl⟩ hs4
   have ej:z2h d first half ses 1 y=⟨y.g,ses,1,(scS d (first+((1:Nat):Int) * half) 1 y.g (tx hx 48 56) (half / 2 - 1)).used,(scS d (first+((1:Nat):Int) * half) 1 y.g (tx hx 48 56) (half / 2 - 1)).el,(scS d (first+((1:Nat):Int) * half) 1 y.g (tx hx 48 56) (half / 2 - 1)).recs⟩:=by rw [hhx];rfl
   have hsd:side=1:=by rw [hside,if_pos (.inl rfl)]
   have hhd:hd=y:=by rw [hhead,if_pos hsd]
   rw [hsd,hhd,ej]
   have hel:=zk2 (d:=d) (at_:=first+((1:Nat):Int) * half) (side:=1) (g:=y.g) hll (half / 2 - 1)
   generalize scS d (first+((1:Nat):Int) * half) 1 y.g (tx hx 48 56) (half / 2 - 1)=S at *
   have hs4:Sep (zf p d::za j (jC p first half y.g y.n 1 S.used S.el rec)::SlA 1 rec (S.recs.map .str)::R) G4:=hs4
   have l4:=za8 p first half y.g y.n 1 S.used S.el rec hel
   have w4:List.take 4 (jC p first half y.g y.n 1 S.used S.el rec)++[eN ses]++List.drop 5 (jC p first half y.g y.n 1 S.used S.el rec)=jC p first half y.g ses 1 S.used S.el rec:=rfl
   have kj4:=hs4.swap.get
   have t5:=hs4.swap.set (cs':=jC p first half y.g ses 1 S.used S.el rec)
   generalize jC p first half y.g y.n 1 S.used S.el rec=J4 at *
   refine goS (nn kj4 (nn l4 w4)) ?_
   (refine goX (nn kj4 (nn l4 w4)) ?_;(repeat' (with_reducible apply Br.mk<;>intro _)))
   exact Fin.eq rfl ⟨rfl,_,⟨j,rec,rfl,rfl⟩,t5.swap⟩
 | some x' =>
  cases b with
  | none =>
   refine goS trivial ?_
   (refine goX (nn oin (nn ois h6')) ?_;(repeat' (with_reducible apply Br.mk<;>intro _)))
   refine zx fun j hj=>?_
   have t1:=Sep.new (cs:=jC p first half 0 0 0 0 (List.replicate 8 0) .nilS) hj hs2
   have ez:(D.gp p 0::eI first::eI half::D.int .i64 0::D.int .i64 0::D.int .i64 0::D.int .i64 0::(zr 8 (D.int .u8 0)++[D.nilS]))=jC p first half 0 0 0 0 (List.replicate 8 0) .nilS:=rfl
   rw [ez]
   generalize G2.set j _=G3 at t1 ⊢
   have kj:=t1.get
   have l1:=za8 p first half 0 0 0 0 (List.replicate 8 0) .nilS rfl
   have l2:=za8 p first half 0 0 0 0 (List.replicate 8 0) .nilS rfl
   have l3:=za8 p first half x.g x.n 0 0 (List.replicate 8 0) .nilS rfl
   have w5:List.take 5 (jC p first half 0 0 0 0 (List.replicate 8 0) .nilS)++[D.int .i64 1]++List.drop 6 (jC p first half 0 0 0 0 (List.replicate 8 0) .nilS)=jC p first half 0 0 1 0 (List.replicate 8 0) .nilS:=rfl
   have w3:List.take 3 (jC p first half 0 0 0 0 (List.replicate 8 0) .nilS)++[eN x.g,eN x.n]++List.drop 5 (jC p first half 0 0 0 0 (List.replicate 8 0) .nilS)=jC p first half x.g x.n 0 0 (List.replicate 8 0) .nilS:=rfl
   have q5:(List.drop 5 (jC p first half 0 0 0 0 (List.replicate 8 0) .nilS)).head?=some (eN 0):=rfl
   have q5':(List.drop 5 (jC p first half x.g x.n 0 0 (List.replicate 8 0) .nilS)).head?=some (eN 0):=rfl
   have q3:List.take 2 (List.drop 3 (jC p first half x.g x.n 0 0 (List.replicate 8 0) .nilS))=[eN x.g,eN x.n]:=rfl
   have hsec:=zeu x.g x.n 0 (by omega) (by omega) (by decide)
   obtain ⟨hx,hhx⟩:∃ hx,hx=mkH x.g x.n 0:=⟨_,rfl⟩
   rw [← hhx] at hsec
   have hlk:=zfp hx
   have hll:(tx hx 48 56).length=8:=zas hx (by decide)
   have w7:List.take 7 (jC p first half x.g x.n 0 0 (List.replicate 8 0) .nilS)++(tx hx 48 56).map eB++List.drop 15 (jC p first half x.g x.n 0 0 (List.replicate 8 0) .nilS)=jC p first half x.g x.n 0 0 (tx hx 48 56) .nilS:=rfl
   have hss:=zj hx
   have tkl:=zbq hll
   have olk:=zbx (tx hx 48 56)
   generalize List.replicate 8 (0:UInt8)=z8 at *
   generalize jC p first half 0 0 0 0 z8 .nilS=J0 at *
   refine goS (nn kj l1) ?_
   (refine zgi (nn kj (nn l1 (nn l2 (nn l3 (nn w5 (nn w3 (nn q5 (nn q5' (nn q3 (nn w7 (nn hll (nn tkl (nn olk hss))))))))))))) (hsec) (hlk) ?_;(repeat' (with_reducible apply Br.mk<;>intro _)))
   have hsc1:=hsc j 0 x.g x.n (tx hx 48 56) (.inl rfl) hll
   have t2:=t1.set (cs':=jC p first half x.g x.n 0 0 (tx hx 48 56) .nilS)
   (refine goM (hsc1) (t2.swap) ?_)
   rintro _ _ G4 ⟨rec,rfl⟩ hs4
   have ej:z2h d first half ses 0 x=⟨x.g,ses,0,(scS d (first+((0:Nat):Int) * half) 0 x.g (tx hx 48 56) (half / 2 - 1)).used,(scS d (first+((0:Nat):Int) * half) 0 x.g (tx hx 48 56) (half / 2 - 1)).el,(scS d (first+((0:Nat):Int) * half) 0 x.g (tx hx 48 56) (half / 2 - 1)).recs⟩:=by rw [hhx];rfl
   have hsd:side=0:=by rw [hside,if_neg (by simp)]
   have hhd:hd=x:=by rw [hhead,if_neg (by omega)]
   rw [hsd,hhd,ej]
   have hel:=zk2 (d:=d) (at_:=first+((0:Nat):Int) * half) (side:=0) (g:=x.g) hll (half / 2 - 1)
   generalize scS d (first+((0:Nat):Int) * half) 0 x.g (tx hx 48 56) (half / 2 - 1)=S at *
   have hs4:Sep (zf p d::za j (jC p first half x.g x.n 0 S.used S.el rec)::SlA 1 rec (S.recs.map .str)::R) G4:=hs4
   have l4:=za8 p first half x.g x.n 0 S.used S.el rec hel
   have w4:List.take 4 (jC p first half x.g x.n 0 S.used S.el rec)++[eN ses]++List.drop 5 (jC p first half x.g x.n 0 S.used S.el rec)=jC p first half x.g ses 0 S.used S.el rec:=rfl
   have kj4:=hs4.swap.get
   have t5:=hs4.swap.set (cs':=jC p first half x.g ses 0 S.used S.el rec)
   generalize jC p first half x.g x.n 0 S.used S.el rec=J4 at *
   refine goS (nn kj4 (nn l4 w4)) ?_
   (refine goX (nn kj4 (nn l4 w4)) ?_;(repeat' (with_reducible apply Br.mk<;>intro _)))
   exact Fin.eq rfl ⟨rfl,_,⟨j,rec,rfl,rfl⟩,t5.swap⟩
  | some y' =>
   by_cases hlt:x.g<y.g
   · have hlt':((x.g:Int)<(y.g:Int))=True:=eq_true (by omega)
     refine goS trivial ?_
     (refine goX (nn oin (nn ois h6')) ?_;(repeat' (with_reducible apply Br.mk<;>intro _)))
     refine zx fun j hj=>?_
     have t1:=Sep.new (cs:=jC p first half 0 0 0 0 (List.replicate 8 0) .nilS) hj hs2
     have ez:(D.gp p 0::eI first::eI half::D.int .i64 0::D.int .i64 0::D.int .i64 0::D.int .i64 0::(zr 8 (D.int .u8 0)++[D.nilS]))=jC p first half 0 0 0 0 (List.replicate 8 0) .nilS:=rfl
     rw [ez]
     generalize G2.set j _=G3 at t1 ⊢
     have kj:=t1.get
     have l1:=za8 p first half 0 0 0 0 (List.replicate 8 0) .nilS rfl
     have l2:=za8 p first half 0 0 1 0 (List.replicate 8 0) .nilS rfl
     have l3:=za8 p first half y.g y.n 1 0 (List.replicate 8 0) .nilS rfl
     have w5:List.take 5 (jC p first half 0 0 0 0 (List.replicate 8 0) .nilS)++[D.int .i64 1]++List.drop 6 (jC p first half 0 0 0 0 (List.replicate 8 0) .nilS)=jC p first half 0 0 1 0 (List.replicate 8 0) .nilS:=rfl
     have w3:List.take 3 (jC p first half 0 0 1 0 (List.replicate 8 0) .nilS)++[eN y.g,eN y.n]++List.drop 5 (jC p first half 0 0 1 0 (List.replicate 8 0) .nilS)=jC p first half y.g y.n 1 0 (List.replicate 8 0) .nilS:=rfl
     have q5:(List.drop 5 (jC p first half 0 0 1 0 (List.replicate 8 0) .nilS)).head?=some (eN 1):=rfl
     have q5':(List.drop 5 (jC p first half y.g y.n 1 0 (List.replicate 8 0) .nilS)).head?=some (eN 1):=rfl
     have q3:List.take 2 (List.drop 3 (jC p first half y.g y.n 1 0 (List.replicate 8 0) .nilS))=[eN y.g,eN y.n]:=rfl
     have hsec:=zeu y.g y.n 1 (by omega) (by omega) (by decide)
     obtain ⟨hx,hhx⟩:∃ hx,hx=mkH y.g y.n 1:=⟨_,rfl⟩
     rw [← hhx] at hsec
     have hlk:=zfp hx
     have hll:(tx hx 48 56).length=8:=zas hx (by decide)
     have w7:List.take 7 (jC p first half y.g y.n 1 0 (List.replicate 8 0) .nilS)++(tx hx 48 56).map eB++List.drop 15 (jC p first half y.g y.n 1 0 (List.replicate 8 0) .nilS)=jC p first half y.g y.n 1 0 (tx hx 48 56) .nilS:=rfl
     have hss:=zj hx
     have tkl:=zbq hll
     have olk:=zbx (tx hx 48 56)
     generalize List.replicate 8 (0:UInt8)=z8 at *
     generalize jC p first half 0 0 0 0 z8 .nilS=J0 at *
     refine goS (nn kj l1) ?_
     (refine zgi (nn hlt' (nn kj (nn l1 (nn l2 (nn l3 (nn w5 (nn w3 (nn q5 (nn q5' (nn q3 (nn w7 (nn hll (nn tkl (nn olk hss)))))))))))))) (hsec) (hlk) ?_;(repeat' (with_reducible apply Br.mk<;>intro _)))
     have hsc1:=hsc j 1 y.g y.n (tx hx 48 56) (.inr rfl) hll
     have t2:=t1.set (cs':=jC p first half y.g y.n 1 0 (tx hx 48 56) .nilS)
     (refine goM (hsc1) (t2.swap) ?_)
     rintro _ _ G4 ⟨rec,rfl⟩ hs4
     have ej:z2h d first half ses 1 y=⟨y.g,ses,1,(scS d (first+((1:Nat):Int) * half) 1 y.g (tx hx 48 56) (half / 2 - 1)).used,(scS d (first+((1:Nat):Int) * half) 1 y.g (tx hx 48 56) (half / 2 - 1)).el,(scS d (first+((1:Nat):Int) * half) 1 y.g (tx hx 48 56) (half / 2 - 1)).recs⟩:=by rw [hhx];rfl
     have hsd:side=1:=by rw [hside,if_pos (.inr ⟨rfl,hlt⟩)]
     have hhd:hd=y:=by rw [hhead,if_pos hsd]
     rw [hsd,hhd,ej]
     have hel:=zk2 (d:=d) (at_:=first+((1:Nat):Int) * half) (side:=1) (g:=y.g) hll (half / 2 - 1)
     generalize scS d (first+((1:Nat):Int) * half) 1 y.g (tx hx 48 56) (half / 2 - 1)=S at *
     have hs4:Sep (zf p d::za j (jC p first half y.g y.n 1 S.used S.el rec)::SlA 1 rec (S.recs.map .str)::R) G4:=hs4
     have l4:=za8 p first half y.g y.n 1 S.used S.el rec hel
     have w4:List.take 4 (jC p first half y.g y.n 1 S.used S.el rec)++[eN ses]++List.drop 5 (jC p first half y.g y.n 1 S.used S.el rec)=jC p first half y.g ses 1 S.used S.el rec:=rfl
     have kj4:=hs4.swap.get
     have t5:=hs4.swap.set (cs':=jC p first half y.g ses 1 S.used S.el rec)
     generalize jC p first half y.g y.n 1 S.used S.el rec=J4 at *
     refine goS (nn kj4 (nn l4 w4)) ?_
     (refine goX (nn kj4 (nn l4 w4)) ?_;(repeat' (with_reducible apply Br.mk<;>intro _)))
     exact Fin.eq rfl ⟨rfl,_,⟨j,rec,rfl,rfl⟩,t5.swap⟩
   · have hlt':((x.g:Int)<(y.g:Int))=False:=eq_false (by omega)
     refine goS trivial ?_
     (refine goX (nn oin (nn ois h6')) ?_;(repeat' (with_reducible apply Br.mk<;>intro _)))
     refine zx fun j hj=>?_
     have t1:=Sep.new (cs:=jC p first half 0 0 0 0 (List.replicate 8 0) .nilS) hj hs2
     have ez:(D.gp p 0::eI first::eI half::D.int .i64 0::D.int .i64 0::D.int .i64 0::D.int .i64 0::(zr 8 (D.int .u8 0)++[D.nilS]))=jC p first half 0 0 0 0 (List.replicate 8 0) .nilS:=rfl
     rw [ez]
     generalize G2.set j _=G3 at t1 ⊢
     have kj:=t1.get
     have l1:=za8 p first half 0 0 0 0 (List.replicate 8 0) .nilS rfl
     have l2:=za8 p first half 0 0 0 0 (List.replicate 8 0) .nilS rfl
     have l3:=za8 p first half x.g x.n 0 0 (List.replicate 8 0) .nilS rfl
     have w5:List.take 5 (jC p first half 0 0 0 0 (List.replicate 8 0) .nilS)++[D.int .i64 1]++List.drop 6 (jC p first half 0 0 0 0 (List.replicate 8 0) .nilS)=jC p first half 0 0 1 0 (List.replicate 8 0) .nilS:=rfl
     have w3:List.take 3 (jC p first half 0 0 0 0 (List.replicate 8 0) .nilS)++[eN x.g,eN x.n]++List.drop 5 (jC p first half 0 0 0 0 (List.replicate 8 0) .nilS)=jC p first half x.g x.n 0 0 (List.replicate 8 0) .nilS:=rfl
     have q5:(List.drop 5 (jC p first half 0 0 0 0 (List.replicate 8 0) .nilS)).head?=some (eN 0):=rfl
     have q5':(List.drop 5 (jC p first half x.g x.n 0 0 (List.replicate 8 0) .nilS)).head?=some (eN 0):=rfl
     have q3:List.take 2 (List.drop 3 (jC p first half x.g x.n 0 0 (List.replicate 8 0) .nilS))=[eN x.g,eN x.n]:=rfl
     have hsec:=zeu x.g x.n 0 (by omega) (by omega) (by decide)
     obtain ⟨hx,hhx⟩:∃ hx,hx=mkH x.g x.n 0:=⟨_,rfl⟩
     rw [← hhx] at hsec
     have hlk:=zfp hx
     have hll:(tx hx 48 56).length=8:=zas hx (by decide)
     have w7:List.take 7 (jC p first half x.g x.n 0 0 (List.replicate 8 0) .nilS)++(tx hx 48 56).map eB++List.drop 15 (jC p first half x.g x.n 0 0 (List.replicate 8 0) .nilS)=jC p first half x.g x.n 0 0 (tx hx 48 56) .nilS:=rfl
     have hss:=zj hx
     have tkl:=zbq hll
     have olk:=zbx (tx hx 48 56)
     generalize List.replicate 8 (0:UInt8)=z8 at *
     generalize jC p first half 0 0 0 0 z8 .nilS=J0 at *
     refine goS (nn kj l1) ?_
     (refine zgi (nn hlt' (nn kj (nn l1 (nn l2 (nn l3 (nn w5 (nn w3 (nn q5 (nn q5' (nn q3 (nn w7 (nn hll (nn tkl (nn olk hss)))))))))))))) (hsec) (hlk) ?_;(repeat' (with_reducible apply Br.mk<;>intro _)))
     have hsc1:=hsc j 0 x.g x.n (tx hx 48 56) (.inl rfl) hll
     have t2:=t1.set (cs':=jC p first half x.g x.n 0 0 (tx hx 48 56) .nilS)
     (refine goM (hsc1) (t2.swap) ?_)
     rintro _ _ G4 ⟨rec,rfl⟩ hs4
     have ej:z2h d first half ses 0 x=⟨x.g,ses,0,(scS d (first+((0:Nat):Int) * half) 0 x.g (tx hx 48 56) (half / 2 - 1)).used,(scS d (first+((0:Nat):Int) * half) 0 x.g (tx hx 48 56) (half / 2 - 1)).el,(scS d (first+((0:Nat):Int) * half) 0 x.g (tx hx 48 56) (half / 2 - 1)).recs⟩:=by rw [hhx];rfl
     have hsd:side=0:=by rw [hside,if_neg (by simp [hlt])]
     have hhd:hd=x:=by rw [hhead,if_neg (by omega)]
     rw [hsd,hhd,ej]
     have hel:=zk2 (d:=d) (at_:=first+((0:Nat):Int) * half) (side:=0) (g:=x.g) hll (half / 2 - 1)
     generalize scS d (first+((0:Nat):Int) * half) 0 x.g (tx hx 48 56) (half / 2 - 1)=S at *
     have hs4:Sep (zf p d::za j (jC p first half x.g x.n 0 S.used S.el rec)::SlA 1 rec (S.recs.map .str)::R) G4:=hs4
     have l4:=za8 p first half x.g x.n 0 S.used S.el rec hel
     have w4:List.take 4 (jC p first half x.g x.n 0 S.used S.el rec)++[eN ses]++List.drop 5 (jC p first half x.g x.n 0 S.used S.el rec)=jC p first half x.g ses 0 S.used S.el rec:=rfl
     have kj4:=hs4.swap.get
     have t5:=hs4.swap.set (cs':=jC p first half x.g ses 0 S.used S.el rec)
     generalize jC p first half x.g x.n 0 S.used S.el rec=J4 at *
     refine goS (nn kj4 (nn l4 w4)) ?_
     (refine goX (nn kj4 (nn l4 w4)) ?_;(repeat' (with_reducible apply Br.mk<;>intro _)))
     exact Fin.eq rfl ⟨rfl,_,⟨j,rec,rfl,rfl⟩,t5.swap⟩
end Go.Proofs.YtpplfpnjfjnkdaaGreatDoor
namespace Go.Proofs.YtpplfpnjfjnkdaaGreatDoor
open Go Go.E2 C22 C23 CW
set_option maxHeartbeats 4000000
theorem z9e (j p:Nat) (first half:Int) (g ses side used:Nat) (lk:List UInt8) (rec:D):ze1 Tryz.prog f_zz6 [.gp j 0] [za j (jC p first half g ses side used lk rec)] (·=.d (eN g)):=by
 refine zap fol zz6_cp fun R G σ hs=>?_
 have hj:=hs.get
 have q3:(List.drop 3 (jC p first half g ses side used lk rec)).head?=some (eN g):=rfl
 generalize jC p first half g ses side used lk rec=J at *
 refine goS trivial ?_
 (refine goX (nn hj q3) ?_;(repeat' (with_reducible apply Br.mk<;>intro _)))
 exact Fin.eq rfl ⟨rfl,rfl,rfl⟩
theorem zm9 (j p:Nat) (first:Int) (half:Nat) (g ses side used:Nat) (lk:List UInt8) (rec:D) (h1:half<1000000) (h2:used<1000000):ze1 Tryz.prog f_zz36 [.gp j 0] [za j (jC p first half g ses side used lk rec)] (·=.d (eI ((half:Int) / 2 - 1 - used))):=by
 refine zap fol zz36_cp fun R G σ hs=>?_
 have hj:=hs.get
 have q6:(List.drop 6 (jC p first half g ses side used lk rec)).head?=some (eN used):=rfl
 have q0:List.take 3 (jC p first half g ses side used lk rec)=[.gp p 0,eI first,eI half]:=rfl
 have hl:3≤(jC p first half g ses side used lk rec).length:=by simp [jC]
 have hsl:=zhz p first half (by omega)
 have hb:-1≤(half:Int) / 2 - 1∧(half:Int) / 2 - 1<1000000:=by omega
 generalize (half:Int) / 2 - 1=m at *
 generalize jC p first half g ses side used lk rec=J at *
 refine goS trivial ?_
 (refine zb7 (nn hj (nn q6 (nn q0 hl))) (hsl) ?_;(repeat' (with_reducible apply Br.mk<;>intro _)))
 exact Fin.eq rfl ⟨rfl,rfl,rfl⟩
theorem zw9 (j p:Nat) (d:Dk) (first half:Int) (g ses side used:Nat) (lk:List UInt8) (rec:D) (hn:d.steps≤999999000):zaq Tryz.prog f_zz25 [.gp j 0] [zf p d,za j (jC p first half g ses side used lk rec)] (fun r post=>r=.d (eI (sy d).2)∧post=[zf p (sy d).1,za j (jC p first half g ses side used lk rec)]):=by
 refine zu fol zz25_cp fun R G σ hs=>?_
 have hs:Sep (zf p d::za j (jC p first half g ses side used lk rec)::R) G:=hs
 have hj:=hs.swap.get
 have q0:(jC p first half g ses side used lk rec).head?=some (.gp p 0):=rfl
 generalize jC p first half g ses side used lk rec=J at *
 refine goS trivial ?_
 (refine goX (nn hj q0) ?_;(repeat' (with_reducible apply Br.mk<;>intro _)))
 (refine goM (zko p d (by omega)) (hs) ?_)
 rintro _ _ G5 ⟨rfl,rfl⟩ hs5
 refine goS trivial ?_
 (refine goX trivial ?_;(repeat' (with_reducible apply Br.mk<;>intro _)))
 exact Fin.eq rfl ⟨rfl,_,⟨rfl,rfl⟩,hs5⟩
end Go.Proofs.YtpplfpnjfjnkdaaGreatDoor
namespace Go.Proofs.YtpplfpnjfjnkdaaGreatDoor
open Go Go.E2 C22 C23 CW
set_option maxHeartbeats 8000000
theorem z0e {s:List UInt8} {k:Nat} (h:k<(zua s).length):(zua s)[k]=pc s k:=by simp [zua]
theorem z4m (g ses side:Nat) (lk s:List UInt8) (u k:Nat):lkE g ses side lk u (rng s (k+1))=tx (mkF g ses (lkE g ses side lk u (rng s k)) (flg s k) (pc s k) side (u+k)) 16 24:=by
 rw [zjt,zg5,zg6];rfl
theorem z0f (at_ g ses side:Nat) (d:Dk) (lk s:List UInt8) (u k:Nat):zg4 at_ g ses side d lk u (rng s (k+1))=(wr2 (zg4 at_ g ses side d lk u (rng s k)) ((at_+2+2 * (u+k):Nat):Int) (mkF g ses (lkE g ses side lk u (rng s k)) (flg s k) (pc s k) side (u+k))).1:=by
 rw [zjt,znm,zg6];rfl
theorem z9f (s:List UInt8) (k:Nat):((if decide ((k:Int)=0)=true then 1 else 0)+(if decide ((k:Int)=((np s:Nat):Int) - 1)=true then 2 else 0))=flg s k:=by
 unfold flg
 have e1:(decide ((k:Int)=0)=true)=(k=0):=by simp
 have e2:(decide ((k:Int)=((np s:Nat):Int) - 1)=true)=(k+1=np s):=by
  rw [decide_eq_true_eq];apply propext;omega
 simp only [e1,e2]
theorem z17 (p j:Nat) (d:Dk) (n0:Int) (first half:Nat) (g ses side used:Nat) (lk:List UInt8) (rec:D) (s:List UInt8) (recs:List (List UInt8)) (at_:Nat) (hat:at_=first+side * half)
 (hL:Lv d n0) (hn:n0+2 * np s≤900000) (h1:first+2 * half≤100000) (hr:at_+2+2 * (used+np s)≤d.cs.length) (hside:side=0∨side=1) (hlk:lk.length=8) (hg:g<4294967296) (hses:ses<4294967296) (hu:used+np s≤100000) (hs1:s.length≤1000000) (hrl:recs.length≤100000) :
 zaq Tryz.prog f_zz41 [.gp j 0,.str s] [zf p d,za j (jC p first half g ses side used lk rec),SlA 1 rec (recs.map .str)]
  (fun r post=>∃ rec',r=.d (eI 0)∧post=[zf p (zg4 at_ g ses side d lk used (pcs s)),za j (jC p first half g ses side (used+np s) (lkE g ses side lk used (pcs s)) rec'),SlA 1 rec' ((recs++[s]).map .str)]):=by
 refine zu fol zz41_cp fun R G σ hs=>?_
 have hs:Sep (zf p d::za j (jC p first half g ses side used lk rec)::SlA 1 rec (recs.map .str)::R) G:=hs
 have hcut:=zsp s hs1
 have hcl:=zjr s
 have hnp:=zya s
 have hget:∀ k (h:k<(zua s).length),(zua s)[k]=pc s k:=fun k h=>z0e h
 have hpp:pcs s=rng s (np s):=rfl
 rw [hpp]
 generalize zua s=L at *
 refine goS trivial ?_
 (refine zb7 trivial (hcut) ?_;(repeat' (with_reducible apply Br.mk<;>intro _)))
 refine W.loop (fun m st=>∃ (k:Nat) (G':Gh) (b8 b9:Blk),k≤np s∧m=np s - k∧Sep (zf p (zg4 at_ g ses side d lk used (rng s k))::za j (jC p first half g ses side (used+k) (lkE g ses side lk used (rng s k)) rec)::SlA 1 rec (recs.map .str)::R) G' ∧
  st=(E [(15,.d (eI k)),(14,.d (eI (np s))),(13,.d (.list (L.map .str))),(5,.d (.list (L.map .str))),(1,.d (.str s)),(0,.d (.gp j 0))],HB [(8,b8),(9,b9)],σ,G'))
  ⟨_,_,z7 (zkd [] [8,9] rfl).symm,0,G,⟨0,none⟩,⟨0,none⟩,by omega,rfl,hs,rfl⟩ ?_
 rintro m st ⟨k,G',b8,b9,hk,rfl,hs',rfl⟩
 have kj:=hs'.tail.get
 obtain ⟨lkk,hlkk⟩:∃ x,x=lkE g ses side lk used (rng s k):=⟨_,rfl⟩
 have hlkl:lkk.length=8:=by rw [hlkk];exact zc3 _ _ hlk
 obtain ⟨dk,hdk⟩:∃ x,x=zg4 at_ g ses side d lk used (rng s k):=⟨_,rfl⟩
 rw [← hlkk,← hdk] at hs'
 rw [← hlkk] at kj
 have hLk:=ziw (at_:=at_) (g:=g) (ses:=ses) (side:=side) (rng s k) lk used hL (by rw [zg6];omega) (by rw [zg6];omega)
 rw [← hdk,zg6] at hLk
 have jl:=za8 p first half g ses side (used+k) lkk rec hlkl
 by_cases hk2:k=np s
 case pos =>
  subst hk2
  clear hget
  have hkI:(((np s:Nat):Int)<((np s:Nat):Int))=False:=eq_false (by omega)
  have q15:(List.drop 15 (jC p first half g ses side (used+np s) lkk rec)).head?=some rec:=by
   show (List.drop 8 (lkk.map eB++[rec])).head?=some rec
   rw [yloQ (by rw [yk3Q,hlkl])];rfl
  rw [← hlkk,← hdk]
  have hr:Sep (SlA 1 rec (recs.map .str)::za j (jC p first half g ses side (used+np s) lkk rec)::zf p dk::R) G':=hs'.perm pp
  obtain ⟨J0,hJ0⟩:∃ x,x=jC p first half g ses side (used+np s) lkk rec:=⟨_,rfl⟩
  rw [← hJ0] at hr kj q15 jl
  (refine goX (nn hkI (nn kj (nn q15 jl))) ?_;(repeat' (with_reducible apply Br.mk<;>intro _)))
  refine zcb (es2:=[.str s]) (m:=1) hr.gv (zba (es:=[.str s]) rfl) rfl rfl rfl (by rw [z2,yk3Q];omega) fun x' G2 hv2 hto=>?_
  have hr2:=Sep.grow hr hto hv2
  have kj2:=hr2.tail.get
  have m1:=hr2.swap.set (cs':=jC p first half g ses side (used+np s) lkk x')
  have w15:List.take 15 J0++[x']++List.drop 16 J0=jC p first half g ses side (used+np s) lkk x':=by
   have a1:List.drop 16 J0=[]:=yk7Q (by rw [jl];exact Nat.le_refl _)
   have a2:List.take 15 J0=[.gp p 0,eI first,eI half,eN g,eN ses,eI side,eI ((used+np s:Nat):Int)]++lkk.map eB:=by
    rw [hJ0,jC];exact ylnQ (by simp [hlkl])
   rw [a1,a2,ylvQ];rfl
  obtain ⟨bx,capx,csx,hxe,_,_⟩:=hv2.inv (by simp)
  have hes:recs.map D.str++[D.str s]=(recs++[s]).map D.str:=by rw [yk6Q];rfl
  rw [hes] at m1
  generalize (recs.map D.str++[D.str s]).length=nx at hxe
  subst hxe
  refine goS (nn kj2 (nn jl w15)) ?_
  (refine goX (nn kj2 (nn jl w15)) ?_;(repeat' (with_reducible apply Br.mk<;>intro _)))
  exact Fin.eq rfl ⟨rfl,_,⟨_,rfl,rfl⟩,m1.perm (l':=zf p dk::za j (jC p first half g ses side (used+np s) lkk (.gs bx 0 nx capx))::SlA 1 (.gs bx 0 nx capx) ((recs++[s]).map .str)::R) pp⟩
 have hk3:k<np s:=by omega
 have hk4:k<L.length:=by omega
 have hkI:((k:Int)<((np s:Nat):Int))=True:=eq_true (by omega)
 have q3:List.take 2 (List.drop 3 (jC p first half g ses side (used+k) lkk rec))=[eN g,eN ses]:=rfl
 have q7:=zq2 p first half g ses side (used+k) lkk rec hlkl
 have q5:(List.drop 5 (jC p first half g ses side (used+k) lkk rec)).head?=some (eN side):=rfl
 have q6:(List.drop 6 (jC p first half g ses side (used+k) lkk rec)).head?=some (eN (used+k)):=rfl
 have q0:List.take 3 (jC p first half g ses side (used+k) lkk rec)=[.gp p 0,eI first,eI half]:=rfl
 have hgk:=hget k hk4
 have hnf:=zli g ses lkk (pc s k) (decide ((k:Int)=0)) (decide ((k:Int)=((np s:Nat):Int) - 1)) hlkl (zmj s k)
 rw [z9f,← hcl] at hnf
 have hfs:=zt8 (zsu g ses lkk (flg s k) (pc s k)) ⟨hlkl,by
  show (pc s k++List.replicate (30 - (pc s k).length) 0).length=30
  have:=zmj s k
  rw [yk2Q,ylgQ];omega⟩ side (used+k) (by show g<_;omega) (by show ses<_;omega) (by omega) (by omega)
 have hlk8:lkk.take 8=lkk:=yk1Q (by omega)
 have hmk:=z9x g ses lkk (flg s k) (pc s k) side (used+k)
 rw [hlk8] at hmk
 rw [hmk] at hfs
 obtain ⟨x,hx⟩:∃ x,x=mkF g ses lkk (flg s k) (pc s k) side (used+k):=⟨_,rfl⟩
 rw [← hx] at hfs
 have hsl:zw Tryz.prog f_zz63 [eP p first half,eN side,eN (used+k)] (·=.d (eI ((at_+2+2 * (used+k):Nat):Int))):=by
  have h:=zra p first half side (used+k) (by omega) (by omega) hside (by omega)
  have e:(first:Int)+(side:Int) * (half:Int)+2+2 * ((used+k:Nat):Int)=((at_+2+2 * (used+k):Nat):Int):=by
   rw [hat];push_cast;rfl
  rw [e] at h
  exact h
 have hmost:=hL.ok.most
 have hb:=zne p dk first half ((at_+2+2 * (used+k):Nat):Int) x (by have:=hLk.1.st;omega) (by omega)
 obtain ⟨w1,w2,w3,w4⟩:=zje hLk.1 (by omega) (a:=at_+2+2 * (used+k)) (by rw [hLk.2.1];omega) x
 obtain ⟨A,hA⟩:∃ A:Int,A=((at_+2+2 * (used+k):Nat):Int):=⟨_,rfl⟩
 have hdk1:zg4 at_ g ses side d lk used (rng s (k+1))=(wr2 dk A x).1:=by rw [z0f,← hdk,← hlkk,← hx,← hA]
 have hlk1:lkE g ses side lk used (rng s (k+1))=tx x 16 24:=by rw [z4m,← hlkk,← hx]
 rw [← hA] at hsl hb w1
 have htie:=zsi x
 have htl:(tx x 16 24).length=8:=zas x (by decide)
 have tT:=zbq htl
 have oT:=zbx (tx x 16 24)
 have hxl:=zj x
 obtain ⟨fc,hfc⟩:∃ fc,eFr (zsu g ses lkk (flg s k) (pc s k))=.agg fc:=⟨_,rfl⟩
 have hfcc:(eFr (zsu g ses lkk (flg s k) (pc s k))).cells=fc:=by rw [hfc];rfl
 have hfl:fc.length=42:=by
  rw [← hfcc]
  show ([eN g,eN ses]++lkk.map eB++[eB _,eB _]++(pc s k++List.replicate (30 - (pc s k).length) 0).map eB).length=42
  have:=zmj s k
  simp only [yk2Q,yk3Q,List.length_cons,List.length_nil,ylgQ,hlkl];omega
 have hfa:fc.all D.one=true:=by
  rw [← hfcc]
  show ([eN g,eN ses]++lkk.map eB++[eB _,eB _]++(pc s k++List.replicate (30 - (pc s k).length) 0).map eB).all D.one=true
  simp only [ylmQ,zbx,Bool.and_true];rfl
 have tF:List.take 42 fc=fc:=yk1Q (by rw [hfl];exact Nat.le_refl _)
 change zw Tryz.prog f_zz43 [.agg [eN g,eN ses],eDg lkk,.str (pc s k),.bool (decide ((k:Int)=0)),.bool (decide ((k:Int)=(L.length:Int) - 1))] (·=.d (eFr (zsu g ses lkk (flg s k) (pc s k)))) at hnf
 rw [hfc] at hnf hfs
 have z42:List.drop 42 ([D.int .i64 0,.int .i64 0]++zr 40 (.int .u8 0))=[]:=rfl
 have z64:List.drop 64 (zr 64 (D.int .u8 0))=[]:=rfl
 have jl2:=za8 p first half g ses side (used+k) (tx x 16 24) rec htl
 have w7:List.take 7 (jC p first half g ses side (used+k) lkk rec)++(tx x 16 24).map eB++List.drop 15 (jC p first half g ses side (used+k) lkk rec)=jC p first half g ses side (used+k) (tx x 16 24) rec:=by
  have a1:List.drop 15 (jC p first half g ses side (used+k) lkk rec)=[rec]:=by
   show List.drop 8 (lkk.map eB++[rec])=[rec]
   rw [yloQ (by rw [yk3Q,hlkl])]
  rw [a1];rfl
 have q6':(List.drop 6 (jC p first half g ses side (used+k) (tx x 16 24) rec)).head?=some (eN (used+k)):=rfl
 have w6:List.take 6 (jC p first half g ses side (used+k) (tx x 16 24) rec)++[eI (((used+k:Nat):Int)+1)]++List.drop 7 (jC p first half g ses side (used+k) (tx x 16 24) rec)=jC p first half g ses side (used+(k+1)) (tx x 16 24) rec:=rfl
 generalize jC p first half g ses side (used+k) lkk rec=J0 at *
 generalize hJ1:jC p first half g ses side (used+k) (tx x 16 24) rec=J1 at *
 (refine zla (nn hkI (nn hgk (nn kj (nn q3 (nn q7 (nn q5 (nn q6 (nn q0 (nn jl (nn hlkl (nn hfl (nn hfa (nn tF (nn hxl (nn z42 z64))))))))))))))) (hnf) (hfs) (hsl) ?_;(repeat' (with_reducible apply Br.mk<;>intro _)))
 (refine goM (hb) (hs') ?_)
 rintro _ _ G2 ⟨rfl,rfl⟩ hs2
 rw [w1]
 have kj2:=hs2.tail.get
 have m1:=hs2.swap.set (cs':=J1)
 have kj3:=m1.get
 have m2:=hs2.swap.set (cs':=jC p first half g ses side (used+(k+1)) (tx x 16 24) rec)
 refine goS trivial ?_
 (refine zb7 (nn hxl (nn kj2 (nn jl (nn htl (nn tT (nn oT (nn w7 (nn kj3 (nn q6' (nn jl2 w6)))))))))) (htie) ?_;(repeat' (with_reducible apply Br.mk<;>intro _)))
 refine ⟨_,_,?_,z7 rfl,k+1,_,_,_,by omega,rfl,?_,rfl⟩
 · omega
 · rw [hdk1,hlk1]
   exact m2.swap
