/-
 Layer 23: Format,by the program.
 Conditions: of each contract as it says.
-/
import Derived.Test.YtpplfpnjfjnkdaaGreatDoorJ8
set_option linter.unusedSimpArgs false
namespace Go.Proofs.YtpplfpnjfjnkdaaGreatDoor
open Go Go.E2 C22 C23 CW
set_option maxHeartbeats 8000000
theorem zw7 {p:Nat} {d:Dk} {R:List As} {G:Gh} (hs:Sep (zf p d::R) G):Okd d:=by obtain ⟨cb,r,cap,m,hd⟩:=za2.open hs;exact hd.ok
theorem zpa (p:Nat) (d:Dk) (first n:Int) (hn:d.steps≤999990000):zaq Tryz.prog f_zz90 [.gp p 0,eI first,eI n] [zf p d] (fun r post=>r=.d (eI (fmt d first n).2)∧post=[zf p (fmt d first n).1]):=by
 refine zu fol zz90_cp fun R G σ hs=>?_
 have hs:Sep (zf p d::R) G:=hs
 have hok:=zw7 hs
 have hm:=hok.most
 have hF:eF p d first n=if za9 d first n=0 then eP p first (n / 2) else .agg [.nilP,eI 0,eI 0]:=rfl
 by_cases h0:za9 d first n=0
 case neg =>
  have hf:fmt d first n=(d,za9 d first n):=if_pos h0
  rw [hf]
  rw [if_neg h0] at hF
  have h0':=eq_false h0
  have hfd:=(zku p d first n).q hs
  rw [hF] at hfd
  generalize za9 d first n=e at *
  refine goS trivial ?_
  (refine zb7 h0' (hfd) ?_;(repeat' (with_reducible apply Br.mk<;>intro _)))
  exact Fin.eq rfl ⟨rfl,_,⟨rfl,rfl⟩,hs⟩
 obtain ⟨g1,g2,g3,g4⟩:=zeh h0
 rw [if_pos h0] at hF
 obtain ⟨half,hhalf⟩:∃ half:Nat,half=(n / 2).toNat:=⟨_,rfl⟩
 have hhi:n / 2=(half:Int):=by omega
 have hf1:fmt d first n=if 4294967295<zz d first half then (d,2) else
  if (wr2 d first (mkH 1 (zz d first half) 0)).2≠0 then ((wr2 d first (mkH 1 (zz d first half) 0)).1,12) else
  if (wr2 (wr2 d first (mkH 1 (zz d first half) 0)).1 (first+half) z0).2≠0 then ((wr2 (wr2 d first (mkH 1 (zz d first half) 0)).1 (first+half) z0).1,12) else
  sy (wr2 (wr2 d first (mkH 1 (zz d first half) 0)).1 (first+half) z0).1:=by
  unfold fmt
  rw [if_neg (fun h=>h h0),← hhalf,hhi]
 have hfd:=(zku p d first n).q hs
 rw [hF,h0,hhi] at hfd
 have hgr:=zg1 p d first half g2 (by omega) (by omega)
 have hbl:=zh3 d first half
 generalize zz d first half=ses at *
 refine goS trivial ?_
 (refine zb7 trivial (hfd) ?_;(repeat' (with_reducible apply Br.mk<;>intro _)))
 (refine goM (hgr) (hs) ?_)
 rintro _ _ G2 ⟨rfl,rfl⟩ hs2
 have hl2:(hC (z1 (hds d first 0)) (z1 (hds d (first+half) 1))).length=4:=rfl
 have hl3:(sC (z1 (hds d first 0)) (z1 (hds d (first+half) 1))).length=2:=rfl
 have u2:(hC (z1 (hds d first 0)) (z1 (hds d (first+half) 1))).all D.one=true:=rfl
 have u3:(sC (z1 (hds d first 0)) (z1 (hds d (first+half) 1))).all D.one=true:=rfl
 generalize hC (z1 (hds d first 0)) (z1 (hds d (first+half) 1))=H at *
 generalize sC (z1 (hds d first 0)) (z1 (hds d (first+half) 1))=F at *
 by_cases h5:4294967295<ses
 · rw [if_pos h5] at hf1
   rw [hf1]
   have h5':(4294967295<(ses:Int))=True:=eq_true (by omega)
   refine goS (nn hl2 (nn hl3 (nn u2 u3))) ?_
   (refine goX (nn hl2 (nn hl3 (nn u2 (nn u3 h5')))) ?_;(repeat' (with_reducible apply Br.mk<;>intro _)))
   exact Fin.eq rfl ⟨rfl,_,⟨rfl,rfl⟩,hs2⟩
 rw [if_neg h5] at hf1
 have h5':(4294967295<(ses:Int))=False:=eq_false (by omega)
 have hh0:=zfr p first half 0 (by omega) (by omega) (.inl rfl)
 have hh1:=zfr p first half 1 (by omega) (by omega) (.inr rfl)
 have e0:first+((0:Nat):Int) * (half:Int)=first:=by omega
 have e1:first+((1:Nat):Int) * (half:Int)=first+half:=by omega
 rw [e0] at hh0
 rw [e1] at hh1
 have hsec:=zeu 1 ses 0 (by decide) (by omega) (by decide)
 obtain ⟨x,hx⟩:∃ x,x=mkH 1 ses 0:=⟨_,rfl⟩
 rw [← hx] at hsec hf1
 have hw1:=zsw hok (by omega) first x
 obtain ⟨w1,hw1e⟩:∃ w,w=wr2 d first x:=⟨_,rfl⟩
 rw [← hw1e] at hf1 hw1
 have hb1:=zne p d first half first x (by omega) (by omega)
 rw [← hw1e] at hb1
 have hxl:=zj x
 refine goS (nn hl2 (nn hl3 (nn u2 u3))) ?_
 (refine zgi (nn hl2 (nn hl3 (nn u2 (nn u3 (nn h5' hxl))))) (hh0) (hsec) ?_;(repeat' (with_reducible apply Br.mk<;>intro _)))
 (refine goM (hb1) (hs2) ?_)
 rintro _ _ G3 ⟨rfl,rfl⟩ hs3
 by_cases h6:w1.2=0
 case neg =>
  rw [if_pos h6] at hf1
  rw [hf1]
  have h6':=eq_false h6
  refine goS h6' ?_
  (refine goX h6' ?_;(repeat' (with_reducible apply Br.mk<;>intro _)))
  exact Fin.eq rfl ⟨rfl,_,⟨rfl,rfl⟩,hs3⟩
 rw [if_neg (fun h=>h h6)] at hf1
 have h6':=eq_true h6
 have ez:(zr 64 (D.int .u8 0))=z0.1.map eB:=rfl
 have hz0:=zj z0
 have hb2:=zne p w1.1 first half (first+half) z0 (by omega) (by omega)
 have hw2:=zsw hw1.1 (by omega) (first+half) z0
 obtain ⟨w2,hw2e⟩:∃ w,w=wr2 w1.1 (first+half) z0:=⟨_,rfl⟩
 rw [← hw2e] at hf1 hb2 hw2
 have hb2':zaq Tryz.prog f_zz62 [eP p first half,eI (first+half),.agg (zr 64 (D.int .u8 0))] [zf p w1.1] (fun r post=>r=.d (eI w2.2)∧post=[zf p w2.1]):=hb2
 refine goS h6' ?_
 (refine zb7 h6' (hh1) ?_;(repeat' (with_reducible apply Br.mk<;>intro _)))
 (refine goM (hb2') (hs3) ?_)
 rintro _ _ G4 ⟨rfl,rfl⟩ hs4
 by_cases h7:w2.2=0
 case neg =>
  rw [if_pos h7] at hf1
  rw [hf1]
  have h7':=eq_false h7
  refine goS h7' ?_
  (refine goX h7' ?_;(repeat' (with_reducible apply Br.mk<;>intro _)))
  exact Fin.eq rfl ⟨rfl,_,⟨rfl,rfl⟩,hs4⟩
 rw [if_neg (fun h=>h h7)] at hf1
 rw [hf1]
 have h7':=eq_true h7
 refine goS h7' ?_
 (refine goX h7' ?_;(repeat' (with_reducible apply Br.mk<;>intro _)))
 (refine goM (zko p w2.1 (by omega)) (hs4) ?_)
 rintro _ _ G5 ⟨rfl,rfl⟩ hs5
 refine goS trivial ?_
 (refine goX trivial ?_;(repeat' (with_reducible apply Br.mk<;>intro _)))
 exact Fin.eq rfl ⟨rfl,_,⟨rfl,rfl⟩,hs5⟩
end Go.Proofs.YtpplfpnjfjnkdaaGreatDoor
namespace Go.Proofs.YtpplfpnjfjnkdaaGreatDoor
open Go Go.E2 C22 C23 CW
set_option maxHeartbeats 8000000
def jC (p:Nat) (first half:Int) (g ses side used:Nat) (lk:List UInt8) (rec:D):List D:=[.gp p 0,eI first,eI half,eN g,eN ses,eI side,eI used]++lk.map eB++[rec]
theorem zt0 (c1 c5 c3 c4 j p:Nat) (first half:Int) (g ses side used k:Nat) (lk0 lk:List UInt8) (rec:D) (fst:Bool) (_hlk0:lk0.length=8) (hlk:lk.length=8) (hside:side<1000000) (hk:k<1000000) (s:Sec) (R:List As) (G:Gh)
 (hs:Sep (za c1 [.gp j 0]::za c5 [eI k]::za c3 (lk.map eB)::za c4 [.bool fst]::za j (jC p first half g ses side used lk0 rec)::R) G) :
 zld Tryz.prog f_zz9 ([eS s]++[.gp c1 0,.gp c5 0,.gp c3 0,.gp c4 0]) G (·=.d (.bool (fit side k g lk fst s))):=by
 intro σ
 refine zm fol zz9_cp ?_
 have h1:=hs.get
 have h5:=hs.tail.get
 have h3:=hs.tail.tail.get
 have h4:=hs.tail.tail.tail.get
 have hj:=hs.tail.tail.tail.tail.get
 have hss:=zj s
 have hrf:=z15 s
 have hfo:=zq1 s
 have hbg:=zo9 (zal s) hfo
 have hif:=zhx s side k hside hk
 unfold fit
 generalize isF s side k=v at *
 generalize zal s=f at *
 obtain ⟨g',n',l',fl,ln,pc⟩:=f
 obtain ⟨b0,b1,b2,b3,b4,b5,b6,b7,rfl⟩:=ex8 hfo.lk
 have hpl:List.length pc=30:=hfo.pc
 have tP:=zbq hpl
 rw [zo8] at hrf hbg
 show W _ _ (zp.mk (a:=zyq _ fun r σ' G'=>σ'=σ∧G'=G∧r=.d (.bool (v && decide (g'=g) && decide ([b0,b1,b2,b3,b4,b5,b6,b7]=lk) && decide (ln.toNat≤30) && (Fr.begins ⟨g',n',[b0,b1,b2,b3,b4,b5,b6,b7],fl,ln,pc⟩ == fst))))) _
 generalize Fr.begins ⟨g',n',[b0,b1,b2,b3,b4,b5,b6,b7],fl,ln,pc⟩=bg at *
 have hce:=zdm [b0,b1,b2,b3,b4,b5,b6,b7] lk (by rw [hlk];rfl)
 have hce:zi (kr 8 .i) [eB b0,eB b1,eB b2,eB b3,eB b4,eB b5,eB b6,eB b7] (lk.map eB)=some (decide ([b0,b1,b2,b3,b4,b5,b6,b7]=lk)):=hce
 have hlkl:(lk.map eB).length=8:=by rw [yk3Q,hlk]
 have tL:=zbq hlk
 have oL:=zbx lk
 have hjv:∀ i,i<7→zae false 1 (some (jC p first half g ses side used lk0 rec)) i=([.gp p 0,eI first,eI half,eN g,eN ses,eI side,eI used]:List D)[i]?.map .d:=fun i hi=>by
  simp only [zae,zbv,Bool.false_eq_true,if_false,jC,List.head?_drop]
  rw [yk5Q,ylkQ (by simpa using hi)]
 have j5:=hjv 5 (by decide)
 have j3:=hjv 3 (by decide)
 have q5:(List.drop 5 (jC p first half g ses side used lk0 rec)).head?=some (eI side):=rfl
 have q3:(List.drop 3 (jC p first half g ses side used lk0 rec)).head?=some (eN g):=rfl
 generalize jC p first half g ses side used lk0 rec=JC at *
 have hln:za4 .leq (eB ln) (.int .u8 30)=some (.bool (decide (ln.toNat≤30))):=by
  have e:za4 .leq (eB ln) (.int .u8 30)=some (.bool (decide ((ln.toNat:Int)≤30))):=by simp only [eB,go_sem]
  rw [e]
  congr 2
  exact decide_eq_decide.2 (by omega)
 generalize decide ([b0,b1,b2,b3,b4,b5,b6,b7]=lk)=w at *
 generalize decide (ln.toNat≤30)=u at *
 cases v
 · refine goS trivial ?_
   (refine zgi (nn hss (nn hpl (nn tP (nn h1 (nn h5 (nn h3 (nn h4 (nn hj (nn q5 q3))))))))) (hrf) (hif) ?_;(repeat' (with_reducible apply Br.mk<;>intro _)))
   exact Fin.eq rfl ⟨rfl,rfl,rfl⟩
 by_cases hg:g'=g
 case neg =>
  have hg1:((g':Int)=(g:Int))=False:=eq_false (by omega)
  refine goS trivial ?_
  (refine zgi (nn hss (nn hpl (nn tP (nn h1 (nn h5 (nn h3 (nn h4 (nn hj (nn q5 (nn q3 hg1)))))))))) (hrf) (hif) ?_;(repeat' (with_reducible apply Br.mk<;>intro _)))
  exact Fin.eq rfl ⟨rfl,rfl,by rw [decide_eq_false hg];rfl⟩
 have hg1:((g':Int)=(g:Int))=True:=eq_true (by omega)
 rw [decide_eq_true hg]
 cases w
 · refine goS trivial ?_
   (refine zgi (nn hss (nn hpl (nn tP (nn h1 (nn h5 (nn h3 (nn h4 (nn hj (nn q5 (nn q3 (nn hg1 (nn hce (nn hlkl (nn tL oL)))))))))))))) (hrf) (hif) ?_;(repeat' (with_reducible apply Br.mk<;>intro _)))
   exact Fin.eq rfl ⟨rfl,rfl,rfl⟩
 cases u
 · refine goS trivial ?_
   (refine zgi (nn hss (nn hpl (nn tP (nn h1 (nn h5 (nn h3 (nn h4 (nn hj (nn q5 (nn q3 (nn hg1 (nn hce (nn hlkl (nn tL (nn oL hln))))))))))))))) (hrf) (hif) ?_;(repeat' (with_reducible apply Br.mk<;>intro _)))
   exact Fin.eq rfl ⟨rfl,rfl,rfl⟩
 · refine goS trivial ?_
   (refine zla (nn hss (nn hpl (nn tP (nn h1 (nn h5 (nn h3 (nn h4 (nn hj (nn q5 (nn q3 (nn hg1 (nn hce (nn hlkl (nn tL (nn oL hln))))))))))))))) (hrf) (hif) (hbg) ?_;(repeat' (with_reducible apply Br.mk<;>intro _)))
   exact Fin.eq rfl ⟨rfl,rfl,by cases bg<;>cases fst<;>rfl⟩
end Go.Proofs.YtpplfpnjfjnkdaaGreatDoor
namespace Go.Proofs.YtpplfpnjfjnkdaaGreatDoor
open Go Go.E2 C22 C23 CW
set_option maxHeartbeats 16000000
theorem z0c (j:Nat):zaq Tryz.prog f_zz30 [.gp j 0] [] (fun r post=>∃ c1,r=.d (.clo f_zz15 [.gp c1 0])∧post=[za c1 [.gp j 0]]):=by
 refine zu fol zz30_cp fun R G σ hs=>?_
 have hs:Sep R G:=hs
 refine goS trivial ?_
 refine goR trivial ?_
 refine zx fun b1 hb1=>?_
 have hs1:=Sep.new (cs:=[.gp j 0]) hb1 hs
 refine goS trivial ?_
 refine goR trivial ?_
 exact Fin.eq rfl ⟨rfl,_,⟨b1,rfl,rfl⟩,hs1⟩
def hS (o:Option Sec):Sec:=o.getD z0
def mS (o:Option Sec):Nat:=match o with|none=>0|some b=>(zal b).n
theorem zq2 (p:Nat) (first half:Int) (g ses side used:Nat) (lk:List UInt8) (rec:D) (h:lk.length=8):List.take 8 (List.drop 7 (jC p first half g ses side used lk rec))=lk.map eB:=by
 show List.take 8 (lk.map eB++[rec])=_
 rw [ylnQ (by rw [yk3Q,h])]
theorem za8 (p:Nat) (first half:Int) (g ses side used:Nat) (lk:List UInt8) (rec:D) (h:lk.length=8):(jC p first half g ses side used lk rec).length=16:=by
 simp [jC,h]
theorem zw8 (p:Nat) (d:Dk) (first:Int) (half:Nat) (j c1 l:Nat) (g ses side:Nat) (lk0:List UInt8) (X:Nat→As) (at_:Int) (hat:at_=first+side * half) (h1:0≤first) (h2:4≤half) (h3:first+2 * half≤100000) (hside:side=0∨side=1) (hlk0:lk0.length=8) (q:Nat) (hq:q=half / 2 - 1)
 (hX:∀ k R G,Sep (X k::R) G→∃ used rec Y,Sep (zf p d::za c1 [.gp j 0]::za j (jC p first half g ses side used lk0 rec)::Y::R) G)
 (hstep:∀ k lk f b R G,k<q→chS d at_ side g lk0 k=some (lk,f)→zda d at_ side k g lk f=some b→Sep (X k::R) G→∀ σ,zlc Tryz.prog l [eFr (zal b),eDg (tx b 16 24)] σ G fun r lv G2=>lv=σ∧r=.d (.bool true)∧Sep (X (k+1)::R) G2)
 (R:List As) (G:Gh) (σ:List Hp) (hs:Sep (X 0::R) G) :
 zaz Tryz.prog f_zz15 ([.yld l,.gp c1 0].map .d) σ G fun _ σ' G'=>σ'=σ∧∃ k,k≤q∧(chS d at_ side g lk0 k).isSome=true∧(k=q∨chS d at_ side g lk0 (k+1)=none)∧Sep (X k::R) G':=by
 refine zm fol zz15_cp ?_
 obtain ⟨used,rec,Y,hx⟩:=hX 0 R G hs
 have d1:=hx.tail.get
 have dj:=hx.tail.tail.get
 have kl:=zq2 p first half g ses side used lk0 rec hlk0
 have kl8:=zbq hlk0
 have ol:=zbx lk0
 have jl:=za8 p first half g ses side used lk0 rec hlk0
 have kp:List.take 3 (jC p first half g ses side used lk0 rec)=[.gp p 0,eI first,eI half]:=rfl
 generalize jC p first half g ses side used lk0 rec=JC at *
 have hsl:=zhz p first half (by omega)
 have hqi:(half:Int) / 2 - 1=(q:Int):=by omega
 rw [hqi] at hsl
 refine goS trivial ?_
 refine goR (nn d1 (nn dj (nn kl (nn jl (nn ol (nn hlk0 kl8)))))) ?_
 refine zx fun n3 hn3=>?_
 have s3:=Sep.new (cs:=zr 8 (.int .u8 0)) hn3 hs
 generalize G.set n3 _=H3 at s3 ⊢
 refine goS trivial ?_
 refine zx fun n4 hn4=>?_
 have s4:=Sep.new (cs:=[.bool false]) hn4 s3
 generalize H3.set n4 _=H4 at s4 ⊢
 have s4:=s4.swap
 have c3:=s4.get
 have z8:zr 8 (D.int .u8 0)=(List.replicate 8 (0:UInt8)).map eB:=rfl
 have s5:=s4.set (cs':=lk0.map eB)
 have c4:=s5.tail.get
 have s6:=s5.swap.set (cs':=[.bool true])
 simp only [Gh.set_c] at c4
 obtain ⟨used',rec',Y',hx'⟩:=hX 0 _ _ (s6.perm (l':=X 0::za n3 (lk0.map eB)::za n4 [.bool true]::R) pp)
 have e1:=hx'.tail.get
 have ej:=hx'.tail.tail.get
 have kp':List.take 3 (jC p first half g ses side used' lk0 rec')=[.gp p 0,eI first,eI half]:=rfl
 have jl':=za8 p first half g ses side used' lk0 rec' hlk0
 generalize jC p first half g ses side used' lk0 rec'=JC' at *
 have s6:Sep (X 0::za n3 (lk0.map eB)::za n4 [.bool true]::R) _:=s6.perm pp
 have z0':zr 0 (D.int .u8 0)=[]:=rfl
 refine goS (nn c3 (nn c4 (nn hlk0 (nn z0' lan)))) ?_
 generalize (H4.set n3 _).set n4 _=H6 at s6 e1 ej ⊢
 (refine zb7 (nn e1 (nn ej (nn jl' kp'))) (hsl) ?_;(repeat' (with_reducible apply Br.mk<;>intro _)))
 refine W.loop (fun m st=>∃ (k:Nat) (lk:List UInt8) (f:Bool) (b10 b12:Blk) (G1:Gh),k≤q∧m=q - k∧chS d at_ side g lk0 k=some (lk,f)∧lk.length=8∧Sep (X k::za n3 (lk.map eB)::za n4 [.bool f]::R) G1 ∧
  st=(E [(22,.d (eI k)),(21,.d (eI q)),(0,.d (.yld l)),(1,.d (.gp c1 0)),(3,.d (.gp n3 0)),(4,.d (.gp n4 0))],HB [(10,b10),(12,b12)],σ,G1))
  ⟨_,_,z7 (zkd [] [10,12] rfl).symm,0,lk0,true,_,_,H6,by omega,rfl,rfl,hlk0,s6,rfl⟩ ?_
 rintro m st ⟨k,lk,f,b10,b12,G1,hk,rfl,hch,hlk,hs1,rfl⟩
 by_cases h6:(k:Int)<(q:Int)
 case neg =>
  obtain rfl:k=q:=by omega
  (refine goX h6 ?_;(repeat' (with_reducible apply Br.mk<;>intro _)))
  exact Fin.eq rfl ⟨rfl,k,Nat.le_refl _,by rw [hch];rfl,.inl rfl,(hs1.perm (l':=za n3 (lk.map eB)::za n4 [.bool f]::X k::R) pp).tail.tail⟩
 have hk':k<q:=by omega
 have hso:=zra p first half side k (by omega) (by omega) hside (by omega)
 rw [← hat] at hso
 have hatb:0≤at_∧at_+half≤100000:=by rcases hside with rfl|rfl<;>constructor<;>omega
 refine goR h6 ?_
 refine zx fun n5 hn5=>?_
 have t1:=Sep.new (cs:=[.int .i64 0]) hn5 hs1
 generalize G1.set n5 _=H1 at t1 ⊢
 have c5:=t1.get
 refine goS c5 ?_
 have t2:=t1.set (cs':=[eI k])
 generalize H1.set n5 _=H2 at t2 ⊢
 refine goR trivial ?_
 refine zx fun n7 hn7=>?_
 have t3:=Sep.new (cs:=zr 64 (.int .u8 0)) hn7 t2
 generalize H2.set n7 _=H3' at t3 ⊢
 refine goS trivial ?_
 refine goR trivial ?_
 refine zx fun n8 hn8=>?_
 have t4:=Sep.new (cs:=[.bool false]) hn8 t3
 generalize H3'.set n8 _=H4' at t4 ⊢
 refine goS trivial ?_
 refine zx fun n9 hn9=>?_
 have t5:=Sep.new (cs:=[.int .i64 0]) hn9 t4
 generalize H4'.set n9 _=H5 at t5 ⊢
 have c8:=t5.tail.get
 have t6:=t5.swap.set (cs':=[.bool false])
 have c9:=t6.tail.get
 have t7:=t6.swap.set (cs':=[.int .i64 0])
 simp only [Gh.set_c] at c9
 refine goS (nn c8 c9) ?_
 have t8:Sep (X k::za n3 (lk.map eB)::za n4 [.bool f]::za n5 [eI k]::za n7 (z0.1.map eB)::za n8 [.bool false]::za n9 [eN 0]::R) _:=t7.perm (l':=X k::za n3 (lk.map eB)::za n4 [.bool f]::za n5 [eI k]::za n7 (zr 64 (.int .u8 0))::za n8 [.bool false]::za n9 [.int .i64 0]::R) pp
 generalize (H5.set n8 _).set n9 _=H7 at t8 ⊢
 obtain ⟨used2,rec2,Y2,hx2⟩:=hX k _ _ t8
 have f1:=hx2.tail.get
 have fj:=hx2.tail.tail.get
 have kp2:List.take 3 (jC p first half g ses side used2 lk0 rec2)=[.gp p 0,eI first,eI half]:=rfl
 have jl2:=za8 p first half g ses side used2 lk0 rec2 hlk0
 have q2:(List.drop 5 (jC p first half g ses side used2 lk0 rec2)).head?=some (eI side):=rfl
 have c5':=(t8.perm (l':=za n5 [eI k]::X k::za n3 (lk.map eB)::za n4 [.bool f]::za n7 (z0.1.map eB)::za n8 [.bool false]::za n9 [eN 0]::R) pp).get
 generalize jC p first half g ses side used2 lk0 rec2=JC2 at *
 refine goR (nn f1 (nn fj (nn kp2 (nn jl2 (nn q2 c5'))))) ?_
 (refine zb7 (nn f1 (nn fj (nn kp2 (nn jl2 (nn q2 c5'))))) (hso) ?_;(repeat' (with_reducible apply Br.mk<;>intro _)))
 refine zzh (xs:=[eP p first half,eI (at_+2+2 * k),.clo f_zz9 [.gp c1 0,.gp n5 0,.gp n3 0,.gp n4 0]]) (cs:=[]) (fun σ=>zng p first half (at_+2+2 * k) f_zz9 [.gp c1 0,.gp n5 0,.gp n3 0,.gp n4 0] σ H7) (fun _ _ h=>h.1) goD goD ?_
 rintro _ H8 ⟨-,e1',e2',e3',rfl,t9⟩
 have t9:=t9 _ t8
 refine goS trivial ?_
 refine goR trivial ?_
 obtain ⟨l1,hl1⟩:∃ l1:List (Nat×AV),l1=[(41,.d (.clo f_zz32 [.gp e1' 0,.gp e2' 0,.gp e3' 0])),(22,.d (eI k)),(21,.d (eI q)),(0,.d (.yld l)),(1,.d (.gp c1 0)),(3,.d (.gp n3 0)),(4,.d (.gp n4 0)),(5,.d (.gp n5 0)),(7,.d (.gp n7 0)),(8,.d (.gp n8 0)),(9,.d (.gp n9 0))]:=⟨_,rfl⟩
 refine W.weaken (zkc (l':=[(41,.d (.clo f_zz32 [.gp e1' 0,.gp e2' 0,.gp e3' 0])),(22,.d (eI k)),(21,.d (eI q)),(0,.d (.yld l)),(1,.d (.gp c1 0)),(3,.d (.gp n3 0)),(4,.d (.gp n4 0)),(5,.d (.gp n5 0)),(7,.d (.gp n7 0)),(8,.d (.gp n8 0)),(9,.d (.gp n9 0))]) (by (simp -dsimp (disch:=first|omega|(simp only [go_sem];omega)) only [go_sem,seval,Nat.reduceEqDiff,Nat.reduceLeDiff]<;>((repeat' apply And.intro)<;>first|exact VLe.refl _|(apply zaa;omega)|(apply zaa;simp;done)|exact VLe.own _ _|exact VLe.nilown _|exact VLe.norm _)))) ?_
 refine W.rangeF (caps:=[.gp e1' 0,.gp e2' 0,.gp e3' 0]) (zb3 zz32_cp) goD fun l' hlm'=>?_
 rw [← hl1]
 obtain ⟨MO1,hMO1⟩:∃ m0:MO,m0=.loop Tryz.prog (E l1) [42] zao journal_Journal_chain_1_y0b:=⟨_,rfl⟩
 rw [← hMO1]
 have t10:=Sep.newM (o:=MO1) hlm' t9
 obtain ⟨a2,ha2⟩:∃ a2:Int,a2=at_+2+2 * (k:Int):=⟨_,rfl⟩
 rw [← ha2] at t10
 obtain ⟨T,hT⟩:∃ T:Sec→Bool,T=fit side k g lk f:=⟨_,rfl⟩
 obtain ⟨o,ho⟩:∃ o:Nat→Option Sec,o=fun i=>zlk (zg2 d a2 T i):=⟨_,rfl⟩
 have o0:o 0=none:=by rw [ho];rfl
 refine (ziq p d first half a2 (by omega) e1' e2' e3' l' f_zz9 [.gp c1 0,.gp n5 0,.gp n3 0,.gp n4 0] T
  (fun i G'=>Sep (zgu l' MO1::X k::za e3' [.clo f_zz9 [.gp c1 0,.gp n5 0,.gp n3 0,.gp n4 0]]::za e2' [eI a2]::za e1' [.gp p 0,eI first,eI half]::za n3 (lk.map eB)::za n4 [.bool f]::za n5 [eI k]::za n7 ((hS (o i)).1.map eB)::za n8 [.bool (o i).isSome]::za n9 [eN (mS (o i))]::R) G')
  (fun _=>False) _ _ ?_ ?_ ?_ ?_ ?_).mono ?_
 · simp only [o0]
   exact t10.perm pp
 · intro i G' h
   obtain ⟨u,r,Y,hy⟩:=hX k _ _ h.swap
   exact ⟨_,hy.perm (l':=zf p d::za e3' [.clo f_zz9 [.gp c1 0,.gp n5 0,.gp n3 0,.gp n4 0]]::za e2' [eI a2]::za e1' [.gp p 0,eI first,eI half]::za c1 [.gp j 0]::za j (jC p first half g ses side u lk0 r)::Y::zgu l' MO1::za n3 (lk.map eB)::za n4 [.bool f]::za n5 [eI k]::za n7 ((hS (o i)).1.map eB)::za n8 [.bool (o i).isSome]::za n9 [eN (mS (o i))]::R) pp⟩
 · intro i G' h s
   obtain ⟨u,r,Y,hy⟩:=hX k _ _ h.swap
   rw [hT]
   exact zt0 c1 n5 n3 n4 j p first half g ses side u k lk0 lk r f hlk0 hlk (by omega) (by omega) s _ G' (hy.perm (l':=za c1 [.gp j 0]::za n5 [eI k]::za n3 (lk.map eB)::za n4 [.bool f]::za j (jC p first half g ses side u lk0 r)::zf p d::Y::zgu l' MO1::za e3' [.clo f_zz9 [.gp c1 0,.gp n5 0,.gp n3 0,.gp n4 0]]::za e2' [eI a2]::za e1' [.gp p 0,eI first,eI half]::za n7 ((hS (o i)).1.map eB)::za n8 [.bool (o i).isSome]::za n9 [eN (mS (o i))]::R) pp)
 · intro i G' hi h hno
   have e:=zgg hno
   have eo:o (i+1)=o i:=by rw [ho];simp only [e]
   simp only [eo]
   exact h
 · intro i G' hi h hrd hTs σ'
   have e:=zgh hrd hTs
   generalize (rd d (a2+(i:Int))).1=s at *
   have eo:o (i+1)=zel (o i) s:=by rw [ho];simp only [e];rw [zub]
   have hsd:=Sep.dropM h
   have hml:(G'.setM l' none).m l'=none:=by simp [upd]
   have hgm:G'.m l'=some (.loop Tryz.prog (E l1) [42] zao journal_Journal_chain_1_y0b):=by rw [← hMO1];exact h.getM
   refine zf6 fol hgm rfl (zid l1 [(7,.gp n7 0),(8,.gp n8 0),(9,.gp n9 0)] 42 (eS s) (by rw [hl1];simp [E])) ?_
   generalize G'.setM l' none=H9 at hsd hml ⊢
   have hqq:Sep (za n8 [.bool (o i).isSome]::za n7 ((hS (o i)).1.map eB)::za n9 [eN (mS (o i))]::X k::za e3' [.clo f_zz9 [.gp c1 0,.gp n5 0,.gp n3 0,.gp n4 0]]::za e2' [eI a2]::za e1' [.gp p 0,eI first,eI half]::za n3 (lk.map eB)::za n4 [.bool f]::za n5 [eI k]::R) H9:=hsd.perm pp
   have c8:=hqq.get
   have c7:=hqq.tail.get
   have c9:=hqq.tail.tail.get
   have i1:=hqq.set (cs':=[.bool true])
   have c7a:=i1.tail.get
   have c9a:=i1.tail.tail.get
   have i2:=i1.swap.set (cs':=s.1.map eB)
   have c9b:=i2.tail.tail.get
   have i3:=i2.f3.set (cs':=[eN (zal s).n])
   simp only [Gh.set_c] at c7a c9a c9b
   have hss:=zj s
   have hso7:=zj (hS (o i))
   have tS:List.take 64 (s.1.map eB)=s.1.map eB:=yk1Q (by rw [hss];exact Nat.le_refl _)
   have dS:List.drop 64 ((hS (o i)).1.map eB)=[]:=yk7Q (by rw [hso7];exact Nat.le_refl _)
   have hrf:=zd3 s
   obtain ⟨rest,hrest⟩:∃ r,r=(tx s 8 16).map eB++[eB (sb s 24),eB (sb s 25)]++(tx s 26 56).map eB:=⟨_,rfl⟩
   have hrf:zw Tryz.prog f_zz39 [eS s] (·=.d (.agg (eN (be (tx s 0 4))::eN (zal s).n::rest))):=by rw [hrest];exact hrf
   have fin:∀ G',Sep (za n9 [eN (mS (o (i+1)))]::za n7 ((hS (o (i+1))).1.map eB)::za n8 [.bool (o (i+1)).isSome]::X k::za e3' [.clo f_zz9 [.gp c1 0,.gp n5 0,.gp n3 0,.gp n4 0]]::za e2' [eI a2]::za e1' [.gp p 0,eI first,eI half]::za n3 (lk.map eB)::za n4 [.bool f]::za n5 [eI k]::R) G'→G'.m l'=none →
    Sep (zgu l' MO1::X k::za e3' [.clo f_zz9 [.gp c1 0,.gp n5 0,.gp n3 0,.gp n4 0]]::za e2' [eI a2]::za e1' [.gp p 0,eI first,eI half]::za n3 (lk.map eB)::za n4 [.bool f]::za n5 [eI k]::za n7 ((hS (o (i+1))).1.map eB)::za n8 [.bool (o (i+1)).isSome]::za n9 [eN (mS (o (i+1)))]::R) (G'.setM l' (some (.loop Tryz.prog (E l1) [42] zao journal_Journal_chain_1_y0b))):=fun G' hG hm=>by
    rw [← hMO1]
    exact (Sep.newM (o:=MO1) (r:=l') hm hG).perm pp
   rw [eo] at fin ⊢
   cases hoi:o i with
   | none =>
    rw [hoi] at c8 c7 c9 c7a c9a c9b fin hso7 dS
    have hfn:=fin _ i3 (by simp only [Gh.set_m];exact hml)
    simp only [Option.isSome_none] at c8
    refine goS trivial ?_
    (refine zb7 (nn c8 (nn c7 (nn c9 (nn c7a (nn c9a (nn c9b (nn hss (nn hso7 (nn tS (nn dS lan)))))))))) (hrf) ?_;(repeat' (with_reducible apply Br.mk<;>intro _)))
    exact ⟨rfl,.inl ⟨rfl,hfn⟩⟩
   | some b =>
    rw [hoi] at c8 c7 c9 c7a c9a c9b fin hqq hso7 dS
    simp only [Option.isSome_some] at c8
    by_cases hl:(zal b).n<(zal s).n
    · have eb:zel (some b) s=some s:=if_pos hl
      have hl1:(((mS (some b):Nat):Int)<(((zal s).n:Nat):Int))=True:=eq_true (by have:mS (some b)=(zal b).n:=rfl;omega)
      rw [eb] at fin ⊢
      have hfn:=fin _ i3 (by simp only [Gh.set_m];exact hml)
      refine goS trivial ?_
      (refine zb7 (nn c8 (nn c7 (nn c9 (nn c7a (nn c9a (nn c9b (nn hss (nn hso7 (nn tS (nn dS (nn hl1 lan))))))))))) (hrf) ?_;(repeat' (with_reducible apply Br.mk<;>intro _)))
      exact ⟨rfl,.inl ⟨rfl,hfn⟩⟩
    · have eb:zel (some b) s=some b:=if_neg hl
      have hl1:(((mS (some b):Nat):Int)<(((zal s).n:Nat):Int))=False:=eq_false (by have:mS (some b)=(zal b).n:=rfl;omega)
      rw [eb] at fin ⊢
      have hfn:=fin _ (hqq.f3.cons fun _ h=>h.swap) hml
      refine goS trivial ?_
      (refine zb7 (nn c8 (nn c7 (nn c9 (nn hss hl1)))) (hrf) ?_;(repeat' (with_reducible apply Br.mk<;>intro _)))
      exact ⟨rfl,.inl ⟨rfl,hfn⟩⟩
 · rintro r lv G' ⟨rfl,(h|h)⟩
   case inr=>exact h.elim
   refine ⟨rfl,.inl ⟨h.getM,?_⟩⟩
   have hsd:=Sep.dropM h
   generalize G'.setM l' none=H9 at hsd ⊢
   have hft:o 2=zda d at_ side k g lk f:=by rw [ho,hT,ha2];show zlk (List.filter _ (zpm d _ 2))=_;rw [zh2];rfl
   have hch1:chS d at_ side g lk0 (k+1)=(o 2).map fun b=>(tx b 16 24,(zal b).ends):=by
    rw [hft]
    show (match chS d at_ side g lk0 k with|none=>none|some (l,f)=>(zda d at_ side k g l f).map fun b=>(tx b 16 24,(zal b).ends))=_
    rw [hch]
   rw [hl1]
   cases hob:o 2 with
   | none =>
    rw [hob] at hsd hch1
    have hsd:Sep (X k::za e3' [.clo f_zz9 [.gp c1 0,.gp n5 0,.gp n3 0,.gp n4 0]]::za e2' [eI a2]::za e1' [.gp p 0,eI first,eI half]::za n3 (lk.map eB)::za n4 [.bool f]::za n5 [eI k]::za n7 ((hS none).1.map eB)::za n8 [.bool false]::za n9 [eN (mS none)]::R) H9:=hsd
    have hs8:Sep (za n8 [.bool false]::za e3' [.clo f_zz9 [.gp c1 0,.gp n5 0,.gp n3 0,.gp n4 0]]::za e2' [eI a2]::za e1' [.gp p 0,eI first,eI half]::za n3 (lk.map eB)::za n4 [.bool f]::za n5 [eI k]::za n7 ((hS none).1.map eB)::za n9 [eN (mS none)]::X k::R) H9:=hsd.perm pp
    have c8:=hs8.get
    refine goS trivial ?_
    (refine goX c8 ?_;(repeat' (with_reducible apply Br.mk<;>intro _)))
    exact Fin.eq rfl ⟨rfl,k,hk,by rw [hch];rfl,.inr hch1,hs8.tail.tail.tail.tail.tail.tail.tail.tail.tail⟩
   | some b =>
    rw [hob] at hsd hch1
    have hss:=zj b
    have tS:List.take 64 (b.1.map eB)=b.1.map eB:=yk1Q (by rw [hss];exact Nat.le_refl _)
    have hsd:Sep (X k::za e3' [.clo f_zz9 [.gp c1 0,.gp n5 0,.gp n3 0,.gp n4 0]]::za e2' [eI a2]::za e1' [.gp p 0,eI first,eI half]::za n3 (lk.map eB)::za n4 [.bool f]::za n5 [eI k]::za n7 (b.1.map eB)::za n8 [.bool true]::za n9 [eN (mS (some b))]::R) H9:=hsd
    have hs8:Sep (za n3 (lk.map eB)::za n4 [.bool f]::za n7 (b.1.map eB)::za n8 [.bool true]::za e3' [.clo f_zz9 [.gp c1 0,.gp n5 0,.gp n3 0,.gp n4 0]]::za e2' [eI a2]::za e1' [.gp p 0,eI first,eI half]::za n5 [eI k]::za n9 [eN (mS (some b))]::X k::R) H9:=hsd.perm pp
    have c3:=hs8.get
    have c7:=hs8.tail.tail.get
    have c8:=hs8.tail.tail.tail.get
    have hrf:=z15 b
    have hfo:=zq1 b
    have hen:=zw6 (zal b) hfo
    have hti:=zsi b
    have htl:(tx b 16 24).length=8:=zas b (by decide)
    have i1:=hs8.set (cs':=(tx b 16 24).map eB)
    have c4:=i1.tail.get
    have i2:=i1.swap.set (cs':=[.bool (zal b).ends])
    have c3':=i2.tail.get
    simp only [Gh.set_c] at c4 c3'
    have hye:=hstep k lk f b (za n3 ((tx b 16 24).map eB)::za n4 [.bool (zal b).ends]::R) _ hk' hch (by rw [← hft];exact hob) ((i2.perm (l':=za n7 (b.1.map eB)::za n8 [.bool true]::za e3' [.clo f_zz9 [.gp c1 0,.gp n5 0,.gp n3 0,.gp n4 0]]::za e2' [eI a2]::za e1' [.gp p 0,eI first,eI half]::za n5 [eI k]::za n9 [eN (mS (some b))]::X k::za n3 ((tx b 16 24).map eB)::za n4 [.bool (zal b).ends]::R) pp).tail.tail.tail.tail.tail.tail.tail)
    obtain ⟨fc,hfc⟩:∃ fc,eFr (zal b)=.agg fc:=⟨_,rfl⟩
    have hfl:fc.length=42:=by
     have:(eFr (zal b)).cells=fc:=by rw [hfc];rfl
     rw [← this]
     show ([eN (zal b).g,eN (zal b).n]++(zal b).lk.map eB++[eB (zal b).fl,eB (zal b).ln]++(zal b).pc.map eB).length=42
     simp [hfo.lk,hfo.pc]
    have hfa:fc.all D.one=true:=by
     have:(eFr (zal b)).cells=fc:=by rw [hfc];rfl
     rw [← this]
     show ([eN (zal b).g,eN (zal b).n]++(zal b).lk.map eB++[eB (zal b).fl,eB (zal b).ln]++(zal b).pc.map eB).all D.one=true
     simp only [ylmQ,zbx,Bool.and_true];rfl
    have tF:List.take 42 fc=fc:=yk1Q (by rw [hfl];exact Nat.le_refl _)
    have dL:List.drop 8 (lk.map eB)=[]:=yk7Q (by rw [yk3Q,hlk];exact Nat.le_refl _)
    have hlkl:(lk.map eB).length=8:=by rw [yk3Q,hlk]
    have tT:=zbq htl
    have dT:List.drop 8 ((tx b 16 24).map eB)=[]:=yk7Q (by rw [yk3Q,htl];exact Nat.le_refl _)
    rw [hfc] at hrf hen hye
    refine goS trivial ?_
    (refine zla (nn c3 (nn c7 (nn c8 (nn hss (nn tS (nn hfl (nn hfa (nn tF (nn dL (nn hlkl (nn hlk (nn htl (nn tT (nn dT (nn c4 (nn c3' lan)))))))))))))))) (hrf) (hti) (hen) ?_;(repeat' (with_reducible apply Br.mk<;>intro _)))
    apply wC_y (hye _) goD (by simp -dsimp (disch:=first|omega|(simp only [go_sem];omega)) only [go_sem,seval,Nat.reduceEqDiff,Nat.reduceLeDiff]<;>rfl)
    rintro r G2 ⟨rfl,hG2⟩
    refine goS trivial ?_
    (refine goX trivial ?_;(repeat' (with_reducible apply Br.mk<;>intro _)))
    refine ⟨_,_,?_,z7 (by rfl),k+1,tx b 16 24,(zal b).ends,b10,⟨b12.g+1,some fc⟩,G2,by omega,rfl,hch1,htl,hG2,rfl⟩
    omega
end Go.Proofs.YtpplfpnjfjnkdaaGreatDoor
namespace Go.Proofs.YtpplfpnjfjnkdaaGreatDoor
open Go Go.E2 C22 C23 CW
set_option maxHeartbeats 16000000
theorem zt1 (l:List (Nat×AV)) (l':List (Nat×D)) (p q:Nat) (x y:D) (_hpq:p≠q) (h:∀ p∈l',E l p.1=.d p.2):∀ i,VLe (zen (zd0 (E l)) [p,q] [x,y] i) (E ((q,.d y)::(p,.d x)::l'.map fun p=>(p.1,.d p.2)) i):=by
 intro i
 have:=zl1 l l' h i
 simp only [zen,upd,E]
 split
 · exact .refl _
 · split
   · exact .refl _
   · exact this
theorem Sep.toEx {α:Type} {A:α→As} {R:List As} {G:Gh} {x:α} (h:Sep (A x::R) G):Sep ((fun G=>∃ x,A x G)::R) G:=by
 obtain ⟨G1,G2,h1,h2,h3,h4,h5⟩:=h
 exact ⟨G1,G2,h1,h2,h3,⟨x,h4⟩,h5⟩
def XL (l:Nat) (M:MO) (p:Nat) (d:Dk) (s1 s2 s3 s4 c1 j:Nat) (first half:Int) (g ses side:Nat) (lk0:List UInt8) (S:Sc) (rec:D):List As :=
 [zgu l M,zf p d,za s1 [.gp j 0],za c1 [.gp j 0],za j (jC p first half g ses side S.used lk0 rec),SlA 1 rec (S.recs.map .str),za s2 [.str S.txt],za s3 [eI S.k],za s4 (S.el.map eB)]
def XS (l:Nat) (M:MO) (p:Nat) (d:Dk) (s1 s2 s3 s4 c1 j:Nat) (first half:Int) (g ses side:Nat) (lk0:List UInt8) (S:Sc):As :=
 fun G=>∃ rec,z09 (XL l M p d s1 s2 s3 s4 c1 j first half g ses side lk0 S rec) G
theorem XS.out {l:Nat} {M:MO} {p:Nat} {d:Dk} {s1 s2 s3 s4 c1 j:Nat} {first half:Int} {g ses side:Nat} {lk0:List UInt8} {S:Sc} {R:List As} {G:Gh} (h:Sep (XS l M p d s1 s2 s3 s4 c1 j first half g ses side lk0 S::R) G) :
 ∃ rec,Sep (XL l M p d s1 s2 s3 s4 c1 j first half g ses side lk0 S rec++R) G:=by
 obtain ⟨rec,h⟩:=Sep.ex h
 exact ⟨rec,h.app⟩
theorem XS.into {l:Nat} {M:MO} {p:Nat} {d:Dk} {s1 s2 s3 s4 c1 j:Nat} {first half:Int} {g ses side:Nat} {lk0:List UInt8} {S:Sc} {R:List As} {G:Gh} {rec:D} (h:Sep (XL l M p d s1 s2 s3 s4 c1 j first half g ses side lk0 S rec++R) G) :
 Sep (XS l M p d s1 s2 s3 s4 c1 j first half g ses side lk0 S::R) G:=Sep.toEx (A:=fun rec=>z09 (XL l M p d s1 s2 s3 s4 c1 j first half g ses side lk0 S rec)) (Sep.of_app h)
theorem z4l (p:Nat) (d:Dk) (first:Int) (half:Nat) (j:Nat) (g ses side:Nat) (lk0:List UInt8) (at_:Int) (hat:at_=first+side * half) (h1:0≤first) (h2:4≤half) (h3:first+2 * half≤100000) (hside:side=0∨side=1) (hlk0:lk0.length=8) (q:Nat) (hq:q=half / 2 - 1) :
 zaq Tryz.prog f_zz37 [.gp j 0] [zf p d,za j (jC p first half g ses side 0 lk0 .nilS)] (fun _ post=>∃ rec,post=[zf p d,za j (jC p first half g ses side (scS d at_ side g lk0 q).used (scS d at_ side g lk0 q).el rec),SlA 1 rec ((scS d at_ side g lk0 q).recs.map .str)]):=by
 refine zu fol zz37_cp fun R G σ hs=>?_
 have hs:Sep (zf p d::za j (jC p first half g ses side 0 lk0 .nilS)::R) G:=hs
 have kl:=zq2 p first half g ses side 0 lk0 .nilS hlk0
 have kl8:=zbq hlk0
 have ol:=zbx lk0
 have jl:=za8 p first half g ses side 0 lk0 .nilS hlk0
 refine goS trivial ?_
 refine goR trivial ?_
 refine zx fun s1 hn1=>?_
 have t1:=Sep.new (cs:=[.gp j 0]) hn1 hs
 generalize G.set s1 _=G1 at t1 ⊢
 refine goS trivial ?_
 refine goR trivial ?_
 refine zx fun s2 hn2=>?_
 have t2:=Sep.new (cs:=[.str []]) hn2 t1
 generalize G1.set s2 _=G2 at t2 ⊢
 refine goS trivial ?_
 refine goR trivial ?_
 refine zx fun s3 hn3=>?_
 have t3:=Sep.new (cs:=[.int .i64 0]) hn3 t2
 generalize G2.set s3 _=G3 at t3 ⊢
 have t3:=t3.swap
 have c2:=t3.get
 have t4:=t3.set (cs':=[.str []])
 have c3:=t4.tail.get
 have t5:=t4.swap.set (cs':=[.int .i64 0])
 simp only [Gh.set_c] at c3
 refine goS (nn c2 c3) ?_
 generalize (G3.set s2 _).set s3 _=G4 at t5 ⊢
 have t5:Sep (za s1 [.gp j 0]::za j (jC p first half g ses side 0 lk0 .nilS)::zf p d::za s2 [.str []]::za s3 [eI 0]::R) G4:=t5.perm (l':=za s1 [.gp j 0]::za j (jC p first half g ses side 0 lk0 .nilS)::zf p d::za s2 [.str []]::za s3 [.int .i64 0]::R) pp
 have d1:=t5.get
 have dj:=t5.tail.get
 refine goR (nn d1 (nn dj (nn kl (nn jl (nn ol (nn hlk0 kl8)))))) ?_
 refine zx fun s4 hn4=>?_
 have t6:=Sep.new (cs:=zr 8 (.int .u8 0)) hn4 t5
 generalize G4.set s4 _=G5 at t6 ⊢
 have c4:=t6.get
 have t7:=t6.set (cs':=lk0.map eB)
 have z0':zr 0 (D.int .u8 0)=[]:=rfl
 refine goS (nn c4 (nn hlk0 (nn z0' lan))) ?_
 generalize G5.set s4 _=G6 at t7 ⊢
 have d1':=t7.tail.get
 refine goR d1' ?_
 (refine goM (z0c j) ((show Sep ([]++_) G6 from t7)) ?_)
 rintro _ _ G7 ⟨c1,rfl,rfl⟩ t8
 refine goS trivial ?_
 refine goR trivial ?_
 obtain ⟨l0,hl0⟩:∃ l0:List (Nat×AV),l0=[(12,.d (.clo f_zz15 [.gp c1 0])),(4,.d (.gp s4 0)),(3,.d (.gp s3 0)),(2,.d (.gp s2 0)),(1,.d (.gp s1 0))]:=⟨_,rfl⟩
 refine W.weaken (zkc (l':=[(12,.d (.clo f_zz15 [.gp c1 0])),(4,.d (.gp s4 0)),(3,.d (.gp s3 0)),(2,.d (.gp s2 0)),(1,.d (.gp s1 0))]) (by (simp -dsimp (disch:=first|omega|(simp only [go_sem];omega)) only [go_sem,seval,Nat.reduceEqDiff,Nat.reduceLeDiff]<;>((repeat' apply And.intro)<;>first|exact VLe.refl _|(apply zaa;omega)|(apply zaa;simp;done)|exact VLe.own _ _|exact VLe.nilown _|exact VLe.norm _)))) ?_
 refine W.rangeF (caps:=[.gp c1 0]) (zb3 zz15_cp) goD fun l hlm=>?_
 rw [← hl0]
 obtain ⟨M,hM⟩:∃ m0:MO,m0=.loop Tryz.prog (E l0) [13,14] zbm journal_Journal_scan_y0b:=⟨_,rfl⟩
 rw [← hM]
 have t8:Sep (za c1 [.gp j 0]::za s4 (lk0.map eB)::za s1 [.gp j 0]::za j (jC p first half g ses side 0 lk0 .nilS)::zf p d::za s2 [.str []]::za s3 [eI 0]::R) G7:=t8
 have t9:=Sep.newM (o:=M) hlm (Sep.slNil (sz:=1) t8)
 have t10:Sep (XL l M p d s1 s2 s3 s4 c1 j first half g ses side lk0 (scS d at_ side g lk0 0) .nilS++R) _:=t9.perm (l':=zgu l M::zf p d::za s1 [.gp j 0]::za c1 [.gp j 0]::za j (jC p first half g ses side 0 lk0 .nilS)::SlA 1 .nilS []::za s2 [.str []]::za s3 [eI 0]::za s4 (lk0.map eB)::R) pp
 refine (zw8 p d first half j c1 l g ses side lk0 (fun k=>XS l M p d s1 s2 s3 s4 c1 j first half g ses side lk0 (scS d at_ side g lk0 k)) at_ hat h1 h2 h3 hside hlk0 q hq ?_ ?_ R _ _ (XS.into t10)).mono ?_
 · intro k R G h
   obtain ⟨rec,h⟩:=XS.out h
   refine ⟨(scS d at_ side g lk0 k).used,rec,z09 [zgu l M,za s1 [.gp j 0],SlA 1 rec ((scS d at_ side g lk0 k).recs.map .str),za s2 [.str (scS d at_ side g lk0 k).txt],za s3 [eI (scS d at_ side g lk0 k).k],za s4 ((scS d at_ side g lk0 k).el.map eB)],?_⟩
   have h:Sep (zgu l M::zf p d::za s1 [.gp j 0]::za c1 [.gp j 0]::za j (jC p first half g ses side (scS d at_ side g lk0 k).used lk0 rec)::SlA 1 rec ((scS d at_ side g lk0 k).recs.map .str)::za s2 [.str (scS d at_ side g lk0 k).txt]::za s3 [eI (scS d at_ side g lk0 k).k]::za s4 ((scS d at_ side g lk0 k).el.map eB)::R) G:=h
   have h2:Sep (zgu l M::za s1 [.gp j 0]::SlA 1 rec ((scS d at_ side g lk0 k).recs.map .str)::za s2 [.str (scS d at_ side g lk0 k).txt]::za s3 [eI (scS d at_ side g lk0 k).k]::za s4 ((scS d at_ side g lk0 k).el.map eB)::zf p d::za c1 [.gp j 0]::za j (jC p first half g ses side (scS d at_ side g lk0 k).used lk0 rec)::R) G:=h.perm pp
   exact (Sep.of_app (l:=[zgu l M,za s1 [.gp j 0],SlA 1 rec ((scS d at_ side g lk0 k).recs.map .str),za s2 [.str (scS d at_ side g lk0 k).txt],za s3 [eI (scS d at_ side g lk0 k).k],za s4 ((scS d at_ side g lk0 k).el.map eB)]) h2).f4.f4.f4
 · intro k lk f b R G hk hch hfa h σ'
   obtain ⟨rec,h⟩:=XS.out h
   have h:Sep (zgu l M::zf p d::za s1 [.gp j 0]::za c1 [.gp j 0]::za j (jC p first half g ses side (scS d at_ side g lk0 k).used lk0 rec)::SlA 1 rec ((scS d at_ side g lk0 k).recs.map .str)::za s2 [.str (scS d at_ side g lk0 k).txt]::za s3 [eI (scS d at_ side g lk0 k).k]::za s4 ((scS d at_ side g lk0 k).el.map eB)::R) G:=h
   have hel:=zk2 (d:=d) (at_:=at_) (side:=side) (g:=g) hlk0 k
   have htx:=zx7 (d:=d) (at_:=at_) (side:=side) (g:=g) (lk:=lk0) k
   have hrl:=zsz (d:=d) (at_:=at_) (side:=side) (g:=g) (lk:=lk0) k
   have hkk:=z9y (d:=d) (at_:=at_) (side:=side) (g:=g) (lk:=lk0) k (by rw [hch];rfl)
   rw [znl hch hfa]
   obtain ⟨_,hfit⟩:=zx6 hfa
   have hln:(zal b).ln.toNat≤30:=by
    unfold fit at hfit
    simp only [yk9Q,decide_eq_true_eq] at hfit
    exact hfit.1.2
   generalize scS d at_ side g lk0 k=S at *
   have hsd:=Sep.dropM h
   have hml:(G.setM l none).m l=none:=by simp [upd]
   have hgm:G.m l=some (.loop Tryz.prog (E l0) [13,14] zbm journal_Journal_scan_y0b):=by rw [← hM];exact h.getM
   refine zf6 fol hgm rfl (zt1 l0 [(4,.gp s4 0),(3,.gp s3 0),(2,.gp s2 0),(1,.gp s1 0)] 13 14 (eFr (zal b)) (eDg (tx b 16 24)) (by decide) (by rw [hl0];simp [E])) ?_
   generalize G.setM l none=G9 at hsd hml ⊢
   have hfo:=zq1 b
   have hbg:=zo9 (zal b) hfo
   have hen:=zw6 (zal b) hfo
   have hct:=ztz (zal b) hfo hln
   have hcl:(zal b).content.length≤30:=by
    show ((tx b 26 56).take _).length≤30
    rw [yk4Q,zas b (by decide)];omega
   have htl:(tx b 16 24).length=8:=zas b (by decide)
   obtain ⟨fc,hfc⟩:∃ fc,eFr (zal b)=.agg fc:=⟨_,rfl⟩
   have hfcc:(eFr (zal b)).cells=fc:=by rw [hfc];rfl
   have hfl:fc.length=42:=by
    rw [← hfcc]
    show ([eN (zal b).g,eN (zal b).n]++(zal b).lk.map eB++[eB (zal b).fl,eB (zal b).ln]++(zal b).pc.map eB).length=42
    simp [hfo.lk,hfo.pc]
   have hfa:fc.all D.one=true:=by
    rw [← hfcc]
    show ([eN (zal b).g,eN (zal b).n]++(zal b).lk.map eB++[eB (zal b).fl,eB (zal b).ln]++(zal b).pc.map eB).all D.one=true
    simp only [ylmQ,zbx,Bool.and_true];rfl
   have tF:List.take 42 fc=fc:=yk1Q (by rw [hfl];exact Nat.le_refl _)
   have tT:=zbq htl
   have oT:=zbx (tx b 16 24)
   rw [hfc] at hbg hen hct
   have hq0:Sep (za s2 [.str S.txt]::za s3 [eI S.k]::za s1 [.gp j 0]::za j (jC p first half g ses side S.used lk0 rec)::za s4 (S.el.map eB)::zf p d::za c1 [.gp j 0]::SlA 1 rec (S.recs.map .str)::R) G9:=hsd.perm pp
   obtain ⟨t,ht⟩:∃ t,t=if (zal b).begins=true then [] else S.txt:=⟨_,rfl⟩
   have htl2:t.length≤30 * k:=by rw [ht];split;exact Nat.zero_le _;exact htx
   have hB:scB S b=⟨t++(zal b).content,S.k+1,if (zal b).ends=true then S.k+1 else S.used,if (zal b).ends=true then S.recs++[t++(zal b).content] else S.recs,if (zal b).ends=true then tx b 16 24 else S.el⟩:=by rw [ht];rfl
   rw [hB]
   cases hbb:(zal b).begins with
   | false =>
    rw [hbb] at hbg ht
    have ht:t=S.txt:=ht
    have c20:=hq0.get
    have hx:=hq0
    rw [← ht] at hx c20
    have c2:=hx.get
    have hadd:t.length+(zal b).content.length<4611686018427387904:=by omega
    have i1:=hx.set (cs':=[.str (t++(zal b).content)])
    have c3:=i1.tail.get
    have i2:=i1.swap.set (cs':=[.int .i64 ((S.k:Int)+1)])
    simp only [Gh.set_c] at c3
    have hce:za s3 [.int .i64 ((S.k:Int)+1)]=za s3 [eI ((S.k+1:Nat):Int)]:=rfl
    rw [hce] at i2
    have i4:=i2.f3
    have d1:=i4.get
    have i5:=i2.f4
    have dj:=i5.get
    simp only [Gh.set_c] at d1 dj
    have q15:(List.drop 15 (jC p first half g ses side S.used lk0 rec)).head?=some rec:=by
     show (List.drop 8 (lk0.map eB++[rec])).head?=some rec
     rw [yloQ (by rw [yk3Q,hlk0])];rfl
    have c3':=i2.get
    have c2':=i2.tail.get
    simp only [Gh.set_c] at c2' c3'
    cases hee:(zal b).ends with
    | false =>
     rw [hee] at hen
     refine goS (nn hfl (nn hfa (nn htl (nn hfc c20)))) ?_
     (refine zla (nn hfl (nn hfa (nn tF (nn htl (nn tT (nn oT (nn c20 (nn c2 (nn c3 hadd))))))))) (hbg) (hct) (hen) ?_;(repeat' (with_reducible apply Br.mk<;>intro _)))
     refine ⟨rfl,rfl,XS.into (rec:=rec) ?_⟩
     rw [← hM]
     exact (Sep.newM (o:=M) (r:=l) (by simp only [Gh.set_m];exact hml) i2).perm (l':=zgu l M::zf p d::za s1 [.gp j 0]::za c1 [.gp j 0]::za j (jC p first half g ses side S.used lk0 rec)::SlA 1 rec (S.recs.map .str)::za s2 [.str (t++(zal b).content)]::za s3 [eI ((S.k+1:Nat):Int)]::za s4 (S.el.map eB)::R) pp
    | true =>
     rw [hee] at hen
     refine goS (nn hfl (nn hfa (nn htl (nn hfc c20)))) ?_
     (refine zla (nn hfl (nn hfa (nn tF (nn htl (nn tT (nn oT (nn c20 (nn c2 (nn c3 (nn hadd (nn d1 (nn dj (nn q15 (nn c2' c3')))))))))))))) (hbg) (hct) (hen) ?_;(repeat' (with_reducible apply Br.mk<;>intro _)))
     have hr:Sep (SlA 1 rec (S.recs.map .str)::za s1 [.gp j 0]::za s3 [eI ((S.k+1:Nat):Int)]::za j (jC p first half g ses side S.used lk0 rec)::za s4 (S.el.map eB)::za s2 [.str (t++(zal b).content)]::zf p d::za c1 [.gp j 0]::R) _:=i2.perm pp
     have hml3:(((G9.set s2 (some [.str (t++(zal b).content)])).set s3 (some [.int .i64 ((S.k:Int)+1)]))).m l=none:=by simp only [Gh.set_m];exact hml
     refine zcb (es2:=[.str (t++(zal b).content)]) (m:=1) hr.gv (zba (es:=[.str (t++(zal b).content)]) rfl) rfl rfl rfl (by rw [z2,yk3Q];omega) fun x' G2 hv2 hto=>?_
     have hr2:=Sep.grow hr hto hv2
     have hm2:G2.m l=none:=by rw [hto.m];exact hml3
     have k1:=hr2.tail.get
     have k3:=hr2.tail.tail.get
     have kj:=hr2.tail.tail.tail.get
     obtain ⟨bx,capx,csx,hxe,_,_⟩:=hv2.inv (by simp)
     have hes:(S.recs.map D.str++[D.str (t++(zal b).content)])=(S.recs++[t++(zal b).content]).map D.str:=by rw [yk6Q];rfl
     rw [hes] at hr2
     generalize (S.recs.map D.str++[D.str (t++(zal b).content)]).length=nx at hxe
     subst hxe
     have m0:Sep (za j (jC p first half g ses side S.used lk0 rec)::za s4 (S.el.map eB)::SlA 1 (.gs bx 0 nx capx) ((S.recs++[t++(zal b).content]).map .str)::za s1 [.gp j 0]::za s3 [eI ((S.k+1:Nat):Int)]::za s2 [.str (t++(zal b).content)]::zf p d::za c1 [.gp j 0]::R) G2:=hr2.perm pp
     have jl3:=za8 p first half g ses side S.used lk0 rec hlk0
     have jl4:=za8 p first half g ses side S.used lk0 (.gs bx 0 nx capx) hlk0
     have w15:List.take 15 (jC p first half g ses side S.used lk0 rec)++[.gs bx 0 nx capx]++List.drop 16 (jC p first half g ses side S.used lk0 rec)=jC p first half g ses side S.used lk0 (.gs bx 0 nx capx):=by
      have a1:List.drop 16 (jC p first half g ses side S.used lk0 rec)=[]:=yk7Q (by rw [jl3];exact Nat.le_refl _)
      have a2:List.take 15 (jC p first half g ses side S.used lk0 rec)=[.gp p 0,eI first,eI half,eN g,eN ses,eI side,eI S.used]++lk0.map eB:=by
       rw [jC];exact ylnQ (by simp [hlk0])
      rw [a1,a2,ylvQ];rfl
     have w6:List.take 6 (jC p first half g ses side S.used lk0 (.gs bx 0 nx capx))++[eI ((S.k+1:Nat):Int)]++List.drop 7 (jC p first half g ses side S.used lk0 (.gs bx 0 nx capx))=jC p first half g ses side (S.k+1) lk0 (.gs bx 0 nx capx):=rfl
     have m1:=m0.set (cs':=jC p first half g ses side S.used lk0 (.gs bx 0 nx capx))
     have kj1:=m1.get
     have k11:=m1.tail.tail.tail.get
     have k31:=m1.tail.tail.tail.tail.get
     have m2:=m0.set (cs':=jC p first half g ses side (S.k+1) lk0 (.gs bx 0 nx capx))
     have k42:=m2.tail.get
     have m3:=m2.swap.set (cs':=(tx b 16 24).map eB)
     simp only [Gh.set_c] at k11 k31 k42
     have hell:(S.el.map eB).length=8:=by rw [yk3Q,hel]
     have dE:List.drop 8 (S.el.map eB)=[]:=yk7Q (by rw [hell];exact Nat.le_refl _)
     generalize jC p first half g ses side S.used lk0 rec=JC0 at *
     generalize jC p first half g ses side S.used lk0 (.gs bx 0 nx capx)=JC1 at *
     refine goS (nn d1 (nn c3' (nn k1 (nn k3 (nn kj (nn jl3 (nn jl4 (nn w15 (nn w6 (nn k11 (nn k31 (nn k42 (nn hell (nn hel (nn dE (nn htl (nn tT oT))))))))))))))))) ?_
     (refine goX (nn d1 (nn c3' (nn k1 (nn k3 (nn kj (nn jl3 (nn jl4 (nn w15 (nn w6 (nn k11 (nn k31 (nn k42 (nn hell (nn hel (nn dE (nn htl (nn tT (nn oT lan)))))))))))))))))) ?_;(repeat' (with_reducible apply Br.mk<;>intro _)))
     refine ⟨rfl,rfl,XS.into (rec:=.gs bx 0 nx capx) ?_⟩
     rw [← hM]
     exact (Sep.newM (o:=M) (r:=l) (by simp only [Gh.set_m];exact hm2) m3).perm (l':=zgu l M::zf p d::za s1 [.gp j 0]::za c1 [.gp j 0]::za j (jC p first half g ses side (S.k+1) lk0 (.gs bx 0 nx capx))::SlA 1 (.gs bx 0 nx capx) ((S.recs++[t++(zal b).content]).map .str)::za s2 [.str (t++(zal b).content)]::za s3 [eI ((S.k+1:Nat):Int)]::za s4 ((tx b 16 24).map eB)::R) pp
   | true =>
    rw [hbb] at hbg ht
    have ht:t=[]:=ht
    have c20:=hq0.get
    have hx:=hq0
    rw [ht,List.nil_append]
    have c2:=hx.get
    have hadd:([]:List UInt8).length+(zal b).content.length<4611686018427387904:=by simp only [List.length_nil];omega
    have i1:=hx.set (cs':=[.str ((zal b).content)])
    have c3:=i1.tail.get
    have i2:=i1.swap.set (cs':=[.int .i64 ((S.k:Int)+1)])
    simp only [Gh.set_c] at c3
    have hce:za s3 [.int .i64 ((S.k:Int)+1)]=za s3 [eI ((S.k+1:Nat):Int)]:=rfl
    rw [hce] at i2
    have i4:=i2.f3
    have d1:=i4.get
    have i5:=i2.f4
    have dj:=i5.get
    simp only [Gh.set_c] at d1 dj
    have q15:(List.drop 15 (jC p first half g ses side S.used lk0 rec)).head?=some rec:=by
     show (List.drop 8 (lk0.map eB++[rec])).head?=some rec
     rw [yloQ (by rw [yk3Q,hlk0])];rfl
    have c3':=i2.get
    have c2':=i2.tail.get
    simp only [Gh.set_c] at c2' c3'
    cases hee:(zal b).ends with
    | false =>
     rw [hee] at hen
     refine goS (nn hfl (nn hfa (nn htl (nn hfc c20)))) ?_
     (refine zla (nn hfl (nn hfa (nn tF (nn htl (nn tT (nn oT (nn c20 (nn c2 (nn lna (nn c3 hadd)))))))))) (hbg) (hct) (hen) ?_;(repeat' (with_reducible apply Br.mk<;>intro _)))
     refine ⟨rfl,rfl,XS.into (rec:=rec) ?_⟩
     rw [← hM]
     exact (Sep.newM (o:=M) (r:=l) (by simp only [Gh.set_m];exact hml) i2).perm (l':=zgu l M::zf p d::za s1 [.gp j 0]::za c1 [.gp j 0]::za j (jC p first half g ses side S.used lk0 rec)::SlA 1 rec (S.recs.map .str)::za s2 [.str ((zal b).content)]::za s3 [eI ((S.k+1:Nat):Int)]::za s4 (S.el.map eB)::R) pp
    | true =>
     rw [hee] at hen
     refine goS (nn hfl (nn hfa (nn htl (nn hfc c20)))) ?_
     (refine zla (nn hfl (nn hfa (nn tF (nn htl (nn tT (nn oT (nn c20 (nn c2 (nn lna (nn c3 (nn hadd (nn d1 (nn dj (nn q15 (nn c2' c3'))))))))))))))) (hbg) (hct) (hen) ?_;(repeat' (with_reducible apply Br.mk<;>intro _)))
     have hr:Sep (SlA 1 rec (S.recs.map .str)::za s1 [.gp j 0]::za s3 [eI ((S.k+1:Nat):Int)]::za j (jC p first half g ses side S.used lk0 rec)::za s4 (S.el.map eB)::za s2 [.str ((zal b).content)]::zf p d::za c1 [.gp j 0]::R) _:=i2.perm pp
     have hml3:(((G9.set s2 (some [.str ((zal b).content)])).set s3 (some [.int .i64 ((S.k:Int)+1)]))).m l=none:=by simp only [Gh.set_m];exact hml
     refine zcb (es2:=[.str ((zal b).content)]) (m:=1) hr.gv (zba (es:=[.str ((zal b).content)]) rfl) rfl rfl rfl (by rw [z2,yk3Q];omega) fun x' G2 hv2 hto=>?_
     have hr2:=Sep.grow hr hto hv2
     have hm2:G2.m l=none:=by rw [hto.m];exact hml3
     have k1:=hr2.tail.get
     have k3:=hr2.tail.tail.get
     have kj:=hr2.tail.tail.tail.get
     obtain ⟨bx,capx,csx,hxe,_,_⟩:=hv2.inv (by simp)
     have hes:(S.recs.map D.str++[D.str ((zal b).content)])=(S.recs++[(zal b).content]).map D.str:=by rw [yk6Q];rfl
     rw [hes] at hr2
     generalize (S.recs.map D.str++[D.str ((zal b).content)]).length=nx at hxe
     subst hxe
     have m0:Sep (za j (jC p first half g ses side S.used lk0 rec)::za s4 (S.el.map eB)::SlA 1 (.gs bx 0 nx capx) ((S.recs++[(zal b).content]).map .str)::za s1 [.gp j 0]::za s3 [eI ((S.k+1:Nat):Int)]::za s2 [.str ((zal b).content)]::zf p d::za c1 [.gp j 0]::R) G2:=hr2.perm pp
     have jl3:=za8 p first half g ses side S.used lk0 rec hlk0
     have jl4:=za8 p first half g ses side S.used lk0 (.gs bx 0 nx capx) hlk0
     have w15:List.take 15 (jC p first half g ses side S.used lk0 rec)++[.gs bx 0 nx capx]++List.drop 16 (jC p first half g ses side S.used lk0 rec)=jC p first half g ses side S.used lk0 (.gs bx 0 nx capx):=by
      have a1:List.drop 16 (jC p first half g ses side S.used lk0 rec)=[]:=yk7Q (by rw [jl3];exact Nat.le_refl _)
      have a2:List.take 15 (jC p first half g ses side S.used lk0 rec)=[.gp p 0,eI first,eI half,eN g,eN ses,eI side,eI S.used]++lk0.map eB:=by
       rw [jC];exact ylnQ (by simp [hlk0])
      rw [a1,a2,ylvQ];rfl
     have w6:List.take 6 (jC p first half g ses side S.used lk0 (.gs bx 0 nx capx))++[eI ((S.k+1:Nat):Int)]++List.drop 7 (jC p first half g ses side S.used lk0 (.gs bx 0 nx capx))=jC p first half g ses side (S.k+1) lk0 (.gs bx 0 nx capx):=rfl
     have m1:=m0.set (cs':=jC p first half g ses side S.used lk0 (.gs bx 0 nx capx))
     have kj1:=m1.get
     have k11:=m1.tail.tail.tail.get
     have k31:=m1.tail.tail.tail.tail.get
     have m2:=m0.set (cs':=jC p first half g ses side (S.k+1) lk0 (.gs bx 0 nx capx))
     have k42:=m2.tail.get
     have m3:=m2.swap.set (cs':=(tx b 16 24).map eB)
     simp only [Gh.set_c] at k11 k31 k42
     have hell:(S.el.map eB).length=8:=by rw [yk3Q,hel]
     have dE:List.drop 8 (S.el.map eB)=[]:=yk7Q (by rw [hell];exact Nat.le_refl _)
     generalize jC p first half g ses side S.used lk0 rec=JC0 at *
     generalize jC p first half g ses side S.used lk0 (.gs bx 0 nx capx)=JC1 at *
     refine goS (nn d1 (nn c3' (nn k1 (nn k3 (nn kj (nn jl3 (nn jl4 (nn w15 (nn w6 (nn k11 (nn k31 (nn k42 (nn hell (nn hel (nn dE (nn htl (nn tT oT))))))))))))))))) ?_
     (refine goX (nn d1 (nn c3' (nn k1 (nn k3 (nn kj (nn jl3 (nn jl4 (nn w15 (nn w6 (nn k11 (nn k31 (nn k42 (nn hell (nn hel (nn dE (nn htl (nn tT (nn oT lan)))))))))))))))))) ?_;(repeat' (with_reducible apply Br.mk<;>intro _)))
     refine ⟨rfl,rfl,XS.into (rec:=.gs bx 0 nx capx) ?_⟩
     rw [← hM]
     exact (Sep.newM (o:=M) (r:=l) (by simp only [Gh.set_m];exact hm2) m3).perm (l':=zgu l M::zf p d::za s1 [.gp j 0]::za c1 [.gp j 0]::za j (jC p first half g ses side (S.k+1) lk0 (.gs bx 0 nx capx))::SlA 1 (.gs bx 0 nx capx) ((S.recs++[(zal b).content]).map .str)::za s2 [.str ((zal b).content)]::za s3 [eI ((S.k+1:Nat):Int)]::za s4 ((tx b 16 24).map eB)::R) pp
 · rintro r lv G' ⟨rfl,k,hk,hks,hend,h⟩
   obtain ⟨rec,h⟩:=XS.out h
   have h:Sep (zgu l M::zf p d::za s1 [.gp j 0]::za c1 [.gp j 0]::za j (jC p first half g ses side (scS d at_ side g lk0 k).used lk0 rec)::SlA 1 rec ((scS d at_ side g lk0 k).recs.map .str)::za s2 [.str (scS d at_ side g lk0 k).txt]::za s3 [eI (scS d at_ side g lk0 k).k]::za s4 ((scS d at_ side g lk0 k).el.map eB)::R) G':=h
   have hel:=zk2 (d:=d) (at_:=at_) (side:=side) (g:=g) hlk0 k
   have e:scS d at_ side g lk0 q=scS d at_ side g lk0 k:=by
    rcases hend with rfl|h
    · rfl
    · exact zsy h q hk
   rw [e]
   refine ⟨rfl,.inl ⟨h.getM,?_⟩⟩
   have hsd:=Sep.dropM h
   generalize G'.setM l none=G9 at hsd ⊢
   generalize scS d at_ side g lk0 k=S at *
   have hsd:Sep (za j (jC p first half g ses side S.used lk0 rec)::za s1 [.gp j 0]::za s4 (S.el.map eB)::za c1 [.gp j 0]::za s2 [.str S.txt]::za s3 [eI S.k]::zf p d::SlA 1 rec (S.recs.map .str)::R) G9:=hsd.perm pp
   have dj:=hsd.get
   have d1:=hsd.tail.get
   have d4:=hsd.tail.tail.get
   have jl2:=za8 p first half g ses side S.used lk0 rec hlk0
   have hst:List.take 7 (jC p first half g ses side S.used lk0 rec)++S.el.map eB++List.drop 15 (jC p first half g ses side S.used lk0 rec)=jC p first half g ses side S.used S.el rec:=by
    have:List.drop 15 (jC p first half g ses side S.used lk0 rec)=[rec]:=by
     show List.drop 8 (lk0.map eB++[rec])=[rec]
     rw [yloQ (by rw [yk3Q,hlk0])]
    rw [this];rfl
   have hs2:=hsd.set (cs':=jC p first half g ses side S.used S.el rec)
   generalize jC p first half g ses side S.used lk0 rec=JC at *
   have tE:=zbq hel
   have oE:=zbx S.el
   rw [hl0]
   refine goS trivial ?_
   (refine goX (nn dj (nn d1 (nn d4 (nn jl2 (nn hel (nn tE (nn oE hst))))))) ?_;(repeat' (with_reducible apply Br.mk<;>intro _)))
   exact Fin.eq rfl ⟨rfl,_,⟨rec,rfl⟩,(hs2.perm (l':=za s1 [.gp j 0]::za s4 (S.el.map eB)::za c1 [.gp j 0]::za s2 [.str S.txt]::za s3 [eI S.k]::zf p d::za j (jC p first half g ses side S.used S.el rec)::SlA 1 rec (S.recs.map .str)::R) pp).tail.tail.tail.tail.tail⟩
