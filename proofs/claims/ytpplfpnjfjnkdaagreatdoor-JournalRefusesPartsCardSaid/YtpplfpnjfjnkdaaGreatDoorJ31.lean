/-
 Layer 23: the reference: numbers,and parts of a disk.
 Conditions: of each contract as it says.
-/
import Derived.Test.YtpplfpnjfjnkdaaGreatDoorJ25
import Derived.Test.YtpplfpnjfjnkdaaGreatDoorF22ra
set_option linter.unusedSimpArgs false
namespace Go.Proofs.YtpplfpnjfjnkdaaGreatDoor
open Go Go.E2 C22 C23 CW
set_option maxHeartbeats 4000000
set_option maxRecDepth 100000 in
theorem z9k (a b c d:Nat):16777216 * (a:Int)+65536 * (b:Int)+256 * (c:Int)+(d:Int)=(((((a * 256+b) * 256+c) * 256+d:Nat)):Int):=by omega
theorem zkt (b:List UInt8) (h:b.length=4):zw Tryz.prog f_zz50 [.str b] (·=.d (eN (be b))):=by
 refine zh fol zz50_cp ?_
 obtain ⟨x0,x1,x2,x3,hb⟩:∃ x0 x1 x2 x3,b=[x0,x1,x2,x3]:=by
  match b,h with
  | [a,b,c,d],_=>exact ⟨a,b,c,d,rfl⟩
 have hbe:be b=((x0.toNat * 256+x1.toNat) * 256+x2.toNat) * 256+x3.toNat:=by rw [hb];simp [be]
 have h0:=UInt8.toNat_lt x0
 have h1:=UInt8.toNat_lt x1
 have h2:=UInt8.toNat_lt x2
 have h3:=UInt8.toNat_lt x3
 have g0:b[0]=x0:=by simp [hb]
 have g1:b[1]=x1:=by simp [hb]
 have g2:b[2]=x2:=by simp [hb]
 have g3:b[3]=x3:=by simp [hb]
 rw [hbe]
 clear hbe hb
 refine goS trivial ?_
 (refine goX (nn g0 (nn g1 (nn g2 g3))) ?_;(repeat' (with_reducible apply Br.mk<;>intro _)))
 exact Fin.p rfl (iE (z9k _ _ _ _))
def NL (L:D):Prop:=L=.nilS∨∃ es,L=.list es
def eRJ (p:Nat) (first half:Int) (side g ses:Nat) (ch:List UInt8) (used:Nat) (L:D):D:=.agg [.gp p 0,eI first,eI half,eN side,eN g,eN ses,.str ch,eN used,L]
theorem zpd (p:Nat) (first half:Int) (side g ses:Nat) (ch:List UInt8) (used:Nat) (L:D) (s:Nat) (hL:NL L) (h1:0≤first∧first<1000000) (h2:0≤half∧half<1000000) (h3:s=0∨s=1):zw Tryz.prog f_zz23 [eRJ p first half side g ses ch used L,eI s] (·=.d (eI (first+s * half))):=by
 refine zh fol zz23_cp ?_
 have hb:(s:Int) * half=0∨(s:Int) * half=half:=by rcases h3 with rfl|rfl<;>simp
 rcases hL with rfl|⟨es,rfl⟩
 all_goals
  simp only [eRJ]
  refine goS trivial ?_
  (refine goX trivial ?_;(repeat' (with_reducible apply Br.mk<;>intro _)))
  exact Fin.p rfl rfl
theorem zpe (p:Nat) (first:Int) (half:Nat) (side g ses:Nat) (ch:List UInt8) (used:Nat) (L:D) (hL:NL L) (h2:4≤half∧half<1000000):zw Tryz.prog f_zz7 [eRJ p first half side g ses ch used L] (·=.d (eI ((half / 2 - 1:Nat):Int))):=by
 refine zh fol zz7_cp ?_
 have et:((half:Int) - 2).tdiv 2=((half / 2 - 1:Nat):Int):=by rw [ylqQ (by omega)];omega
 rcases hL with rfl|⟨es,rfl⟩
 all_goals
  simp only [eRJ]
  refine goS trivial ?_
  (refine goX et ?_;(repeat' (with_reducible apply Br.mk<;>intro _)))
  exact Fin.p rfl rfl
theorem zna (p:Nat) (d:Dk) (first n:Int):ze1 Tryz.prog f_zz70 [.gp p 0,eI first,eI n] [zd2 p d] (fun r=>r=.tup [if za9 d first n=0 then eRJ p first (n / 2) 0 0 0 [] 0 .nilS else .agg [.nilP,eI 0,eI 0,eI 0,eI 0,eI 0,.str [],eI 0,.nilS],eI (za9 d first n)]):=by
 refine zap fol zz70_cp fun R G σ hs=>?_
 obtain ⟨cb,cap,hd⟩:=zil.open hs
 have hc:=hd.cell
 have hm:=hd.ok.most
 have hE:za9 d first n=if n<8∨first<0∨(d.cs.length:Int)<first∨(d.cs.length:Int) - first<n then 1 else if d.dead=true then 12 else 0:=rfl
 by_cases c1:n<8∨first<0∨(d.cs.length:Int)<first∨(d.cs.length:Int) - first<n
 · rw [if_pos c1] at hE
   rw [hE,if_neg (by decide)]
   refine goS trivial ?_
   (refine goX hc ?_;(repeat' (with_reducible apply Br.mk<;>intro _)))
   all_goals first|exact Fin.eq rfl ⟨rfl,rfl,rfl⟩|(exfalso;omega)
 rw [if_neg c1] at hE
 have c2:(n<8)=False:=eq_false (by omega)
 have c3:(first<0)=False:=eq_false (by omega)
 have c4:((d.cs.length:Int)<first)=False:=eq_false (by omega)
 have c5:((d.cs.length:Int) - first<n)=False:=eq_false (by omega)
 have e2:n.tdiv 2=n / 2:=ylqQ (by omega)
 by_cases c6:d.dead=true
 · rw [if_pos c6] at hE
   rw [hE,if_neg (by decide)]
   refine goS trivial ?_
   (refine goX (nn hc (nn c2 (nn c3 (nn c4 (nn c5 c6))))) ?_;(repeat' (with_reducible apply Br.mk<;>intro _)))
   all_goals first|exact Fin.eq rfl ⟨rfl,rfl,rfl⟩|(exfalso;omega)
 · rw [if_neg c6] at hE
   rw [hE,if_pos rfl]
   have c6:d.dead=false:=by simpa using c6
   refine goS trivial ?_
   (refine goX (nn hc (nn c2 (nn c3 (nn c4 (nn c5 (nn c6 e2)))))) ?_;(repeat' (with_reducible apply Br.mk<;>intro _)))
   all_goals first|exact Fin.eq rfl ⟨rfl,rfl,rfl⟩|(exfalso;omega)
end Go.Proofs.YtpplfpnjfjnkdaaGreatDoor
namespace Go.Proofs.YtpplfpnjfjnkdaaGreatDoor
open Go Go.E2 C22 C23 CW
set_option maxHeartbeats 16000000
def FDc (i:Bool) (S:Sec) (g n m:Nat):List D:=.bool i::(S.1.map eB++[eN g,eN n,eN m])
theorem zcr (i:Bool) (S:Sec) (g n m:Nat):(FDc i S g n m).length=68:=by simp [FDc,S.2]
theorem zfq (i:Bool) (S:Sec) (g n m:Nat):(FDc i S g n m).all D.one=true:=by
 show (true && (S.1.map eB++[eN g,eN n,eN m]).all D.one)=true
 rw [ylmQ,zbx];rfl
theorem zq7 (S:Sec) (l:List D) (k:Nat):List.drop (64+k) (S.1.map eB++l)=List.drop k l:=by
 have:=List.drop_append (l₁:=S.1.map eB) (l₂:=l) (i:=64+k)
 rw [this,yk7Q (by rw [yk3Q,S.2];omega),yk3Q,S.2,List.nil_append,Nat.add_sub_cancel_left]
theorem z4u (S:Sec) (l:List D) (k:Nat):List.take (64+k) (S.1.map eB++l)=S.1.map eB++List.take k l:=by
 have:=List.take_append (l₁:=S.1.map eB) (l₂:=l) (i:=64+k)
 rw [this,yk1Q (by rw [yk3Q,S.2];omega),yk3Q,S.2,Nat.add_sub_cancel_left]
theorem zd4 (i:Bool) (S:Sec) (g n m:Nat):(FDc i S g n m).head?=some (.bool i)∧(List.drop 65 (FDc i S g n m)).head?=some (eN g)∧(List.drop 66 (FDc i S g n m)).head?=some (eN n)∧(List.drop 67 (FDc i S g n m)).head?=some (eN m):=by
 refine ⟨rfl,?_,?_,?_⟩
 · show (List.drop (64+0) _).head?=_
   rw [zq7];rfl
 · show (List.drop (64+1) _).head?=_
   rw [zq7];rfl
 · show (List.drop (64+2) _).head?=_
   rw [zq7];rfl
theorem FDc_m (i:Bool) (S:Sec) (g n m m':Nat):List.take 67 (FDc i S g n m)++[eN m']++List.drop 68 (FDc i S g n m)=FDc i S g n m':=by
 show D.bool i::List.take (64+2) _++_++List.drop (64+3) _=_
 rw [z4u,zq7];simp [FDc]
theorem FDc_n (i:Bool) (S:Sec) (g n m n':Nat):List.take 66 (FDc i S g n m)++[eN n']++List.drop 67 (FDc i S g n m)=FDc i S g n' m:=by
 show D.bool i::List.take (64+1) _++_++List.drop (64+2) _=_
 rw [z4u,zq7];simp [FDc]
theorem FDc_g (i:Bool) (S:Sec) (g n m g':Nat):List.take 65 (FDc i S g n m)++[eN g']++List.drop 66 (FDc i S g n m)=FDc i S g' n m:=by
 show D.bool i::List.take (64+0) _++_++List.drop (64+1) _=_
 rw [z4u,zq7];simp [FDc]
theorem FDc_S (i:Bool) (S S':Sec) (g n m:Nat):List.take 1 (FDc i S g n m)++S'.1.map eB++List.drop 65 (FDc i S g n m)=FDc i S' g n m:=by
 show [D.bool i]++_++List.drop (64+0) _=_
 rw [zq7];simp [FDc]
theorem zge (p:Nat) (d:Dk) (first half:Int) (side g ses:Nat) (ch:List UInt8) (used:Nat) (L:D) (s:Nat) (hL:NL L) (h1:0≤first∧first<1000000) (h2:0≤half∧half<1000000) (h3:s=0∨s=1) :
 ze1 Tryz.prog f_zz3 [eRJ p first half side g ses ch used L,eI s] [zd2 p d] (fun r=>∃ S,r=.d (.agg (FDc (z1 (hds d (first+s * half) s)).isSome S (hO (z1 (hds d (first+s * half) s))).g (hO (z1 (hds d (first+s * half) s))).n (most ((hds d (first+s * half) s).map (·.n)))))):=by
 refine zap fol zz3_cp fun R G σ hs=>?_
 have hat:=zpd p first half side g ses ch used L s hL h1 h2 h3
 obtain ⟨at_,ha⟩:∃ a,a=first+s * half:=⟨_,rfl⟩
 have hab:0≤at_∧at_<3000000:=by rcases h3 with rfl|rfl<;>constructor<;>omega
 rw [← ha] at hat ⊢
 obtain ⟨jc,hjc⟩:∃ jc,eRJ p first half side g ses ch used L=.agg jc:=⟨_,rfl⟩
 have hj0:jc.head?=some (.gp p 0):=by
  have:jc=(eRJ p first half side g ses ch used L).cells:=by rw [hjc];rfl
  rw [this];rfl
 have hjl:jc.length=9:=by
  have:jc=(eRJ p first half side g ses ch used L).cells:=by rw [hjc];rfl
  rw [this];rfl
 have hja:jc.all D.one=true:=by
  have:jc=(eRJ p first half side g ses ch used L).cells:=by rw [hjc];rfl
  rw [this];rcases hL with rfl|⟨es,rfl⟩<;>rfl
 have hjt:List.take 9 jc=jc:=yk1Q (by omega)
 rw [hjc] at hat ⊢
 have ez:(D.bool false::(zr 64 (D.int .u8 0)++[D.int .i64 0,D.int .i64 0,D.int .i64 0]))=FDc false z0 0 0 0:=rfl
 have hzl:=zcr false z0 0 0 0
 have hza:=zfq false z0 0 0 0
 have hzt:List.take 68 (FDc false z0 0 0 0)=FDc false z0 0 0 0:=yk1Q (by rw [hzl];exact Nat.le_refl _)
 have hzd:List.drop 68 (FDc false z0 0 0 0)=[]:=yk7Q (by rw [hzl];exact Nat.le_refl _)
 have ez:(D.bool false::(zr 64 (D.int .u8 0)++[D.int .i64 0,D.int .i64 0,D.int .i64 0]))=FDc false z0 0 0 0:=rfl
 obtain ⟨o,ho⟩:∃ o:Nat→List Hd,o=fun k=>(zg2 d at_ (fun x=>isH x s) k).map hdOf:=⟨_,rfl⟩
 have ho2:o 2=hds d at_ s:=by rw [ho];show ((zpm d at_ 2).filter _).map hdOf=_;rw [zh2];rfl
 rw [← ho2]
 (refine goX (nn hja hjl) ?_;(repeat' (with_reducible apply Br.mk<;>intro _)))
 refine W.loop (fun m st=>∃ (k:Nat) (S:Sec) (b7:Blk),k≤2∧m=2 - k ∧
  st=(E [(6,.d (eI k)),(5,.ptr 0 5 1 0),(4,.ptr 0 4 1 0),(2,.ptr 0 2 1 0),(1,.d (eI s))],HB [(2,⟨1,some jc⟩),(4,⟨1,some (FDc false z0 0 0 0)⟩),(5,⟨1,some (FDc (z1 (o k)).isSome S (hO (z1 (o k))).g (hO (z1 (o k))).n (most ((o k).map (·.n))))⟩),(7,b7)],σ,G))
  ⟨_,_,z7 ((zkd [(2,⟨1,some jc⟩),(4,⟨1,some (FDc false z0 0 0 0)⟩),(5,⟨1,some (FDc false z0 0 0 0)⟩)] [7] rfl).symm.trans (by rw [ho];rfl)),0,z0,⟨0,none⟩,by omega,rfl,rfl⟩ ?_
 rintro m st ⟨k,S,b7,hk,rfl,rfl⟩
 by_cases hk2:k=2
 · subst hk2
   have hkI:(((2:Nat):Int)<2)=False:=eq_false (by decide)
   have hl:=zcr (z1 (o 2)).isSome S (hO (z1 (o 2))).g (hO (z1 (o 2))).n (most ((o 2).map (·.n)))
   have ha1:=zfq (z1 (o 2)).isSome S (hO (z1 (o 2))).g (hO (z1 (o 2))).n (most ((o 2).map (·.n)))
   have hzl:=zcr false z0 0 0 0
   obtain ⟨F,hF⟩:∃ F,F=FDc (z1 (o 2)).isSome S (hO (z1 (o 2))).g (hO (z1 (o 2))).n (most ((o 2).map (·.n))):=⟨_,rfl⟩
   rw [← hF] at hl ha1 ⊢
   generalize FDc false z0 0 0 0=Z at hzl ⊢
   have ht:List.take 68 F=F:=yk1Q (by omega)
   have hzd:List.drop 68 Z=[]:=yk7Q (by omega)
   (refine goX (nn hkI (nn hl (nn ha1 (nn ht (nn hzd (nn hzl lan)))))) ?_;(repeat' (with_reducible apply Br.mk<;>intro _)))
   exact Fin.eq (r:=.d (.agg F)) (goE (nn hl (nn ha1 ht))) ⟨rfl,rfl,S,by rw [hF]⟩
 have hkI:((k:Int)<2)=True:=eq_true (by omega)
 have hread:=(zm7 p d (at_+k)).q hs
 have heG:eGot (rd d (at_+k))=.agg ((rd d (at_+k)).1.1.map eB++[.int .i64 (rd d (at_+k)).2]):=rfl
 rw [heG] at hread
 have hps:=zgh (d:=d) (at_:=at_) (T:=fun x=>isH x s) (k:=k)
 have hpk:=zgg (d:=d) (at_:=at_) (T:=fun x=>isH x s) (k:=k)
 have hlt:=zjc (rd d (at_+k)).1 (a:=8) (b:=12) (by decide) rfl
 have hlt2:=zjc (rd d (at_+k)).1 (a:=12) (b:=16) (by decide) rfl
 have hH:=zq4 (rd d (at_+k)).1 s (by omega)
 have ht1:=zcq (rd d (at_+k)).1 8 12 (by decide) (by decide)
 have ht2:=zcq (rd d (at_+k)).1 12 16 (by decide) (by decide)
 have hn1:=zkt (tx (rd d (at_+k)).1 8 12) (zas _ (by decide))
 have hn2:=zkt (tx (rd d (at_+k)).1 12 16) (zas _ (by decide))
 have hhd:hdOf (rd d (at_+k)).1=⟨be (tx (rd d (at_+k)).1 8 12),be (tx (rd d (at_+k)).1 12 16)⟩:=rfl
 have hol:o (k+1)=if (rd d (at_+k)).2=0∧isH (rd d (at_+k)).1 s=true then o k++[hdOf (rd d (at_+k)).1] else o k:=by
  by_cases h:(rd d (at_+k)).2=0∧isH (rd d (at_+k)).1 s=true
  · rw [if_pos h,ho];simp only;rw [hps h.1 h.2,yk6Q];rfl
  · rw [if_neg h,ho];simp only;rw [hpk h]
 clear hps hpk
 have gl:=zj (rd d (at_+k)).1
 generalize (rd d (at_+k)).1=X at *
 generalize (rd d (at_+k)).2=e at *
 obtain ⟨GC,hGC⟩:∃ GC,GC=X.1.map eB++[D.int .i64 e]:=⟨_,rfl⟩
 have g1:GC.length=65:=by rw [hGC,yk2Q,gl];rfl
 have g2:GC.all D.one=true:=by rw [hGC,ylmQ,zbx];rfl
 have g3:(List.drop 64 GC).head?=some (.int .i64 e):=by rw [hGC,yloQ gl];rfl
 have g4:List.take 64 GC=X.1.map eB:=by rw [hGC,ylnQ gl]
 have g5:List.take 65 GC=GC:=yk1Q (by omega)
 rw [← hGC] at hread
 have z65:List.drop 65 (zr 64 (D.int .u8 0)++[D.int .i64 0])=[]:=rfl
 by_cases ce:e=0
 case neg =>
  have ce':=eq_false ce
  rw [if_neg (fun h=>ce h.1)] at hol
  (refine zgi (nn hkI (nn hja (nn hjl (nn hjt (nn hj0 (nn g1 (nn g2 (nn g3 (nn g4 (nn g5 (nn z65 (nn ce' lan)))))))))))) (hat) (hread) ?_;(repeat' (with_reducible apply Br.mk<;>intro _)))
  refine ⟨_,_,?_,z7 (by rw [hol]),k+1,S,_,by omega,rfl,rfl⟩
  omega
 have ce':=eq_true ce
 by_cases ch:isH X s=true
 case neg =>
  rw [Bool.not_eq_true] at ch
  rw [if_neg (fun h=>by rw [ch] at h;cases h.2)] at hol
  rw [ch] at hH
  (refine zla (nn hkI (nn hja (nn hjl (nn hjt (nn hj0 (nn g1 (nn g2 (nn g3 (nn g4 (nn g5 (nn z65 (nn ce' lan)))))))))))) (hat) (hread) (hH) ?_;(repeat' (with_reducible apply Br.mk<;>intro _)))
  refine ⟨_,_,?_,z7 (by rw [hol]),k+1,S,_,by omega,rfl,rfl⟩
  omega
 rw [if_pos ⟨ce,ch⟩] at hol
 rw [ch] at hH
 have hbs:z1 (o (k+1))=zc9 (z1 (o k)) (hdOf X):=by rw [hol,zpn]
 have hms:most ((o (k+1)).map (·.n))=max (most ((o k).map (·.n))) (hdOf X).n:=by rw [hol,yk6Q];exact zk0 _ _
 rw [hhd] at hbs hms
 clear hol hhd
 generalize be (tx X 8 12)=gX at *
 generalize be (tx X 12 16)=nX at *
 generalize hmo:most ((o k).map (·.n))=mo at *
 generalize z1 (o k)=b at *
 obtain ⟨is,his⟩:∃ is,is=b.isSome:=⟨_,rfl⟩
 rw [← his]
 have hmx:max (mo:Int) (nX:Int)=((max mo nX:Nat):Int):=by omega
 obtain ⟨F0,hF0⟩:∃ F,F=FDc is S (hO b).g (hO b).n mo:=⟨_,rfl⟩
 obtain ⟨F1,hF1⟩:∃ F,F=FDc is S (hO b).g (hO b).n (max mo nX):=⟨_,rfl⟩
 obtain ⟨F2,hF2⟩:∃ F,F=FDc true S (hO b).g (hO b).n (max mo nX):=⟨_,rfl⟩
 obtain ⟨F3,hF3⟩:∃ F,F=FDc true X (hO b).g (hO b).n (max mo nX):=⟨_,rfl⟩
 obtain ⟨F4,hF4⟩:∃ F,F=FDc true X gX (hO b).n (max mo nX):=⟨_,rfl⟩
 obtain ⟨F5,hF5⟩:∃ F,F=FDc true X gX nX (max mo nX):=⟨_,rfl⟩
 have l0:F0.length=68:=by rw [hF0];exact zcr _ _ _ _ _
 have l1:F1.length=68:=by rw [hF1];exact zcr _ _ _ _ _
 have l2:F2.length=68:=by rw [hF2];exact zcr _ _ _ _ _
 have l3:F3.length=68:=by rw [hF3];exact zcr _ _ _ _ _
 have l4:F4.length=68:=by rw [hF4];exact zcr _ _ _ _ _
 have m0:(List.drop 67 F0).head?=some (eN mo):=by rw [hF0];exact (zd4 _ _ _ _ _).2.2.2
 have w1:List.take 67 F0++[eN (max mo nX)]++List.drop 68 F0=F1:=by rw [hF0,hF1];exact FDc_m _ _ _ _ _ _
 have r0:F1.head?=some (.bool is):=by rw [hF1];exact (zd4 _ _ _ _ _).1
 have r1:(List.drop 65 F1).head?=some (eN (hO b).g):=by rw [hF1];exact (zd4 _ _ _ _ _).2.1
 have r2:(List.drop 66 F1).head?=some (eN (hO b).n):=by rw [hF1];exact (zd4 _ _ _ _ _).2.2.1
 have w2:D.bool true::List.drop 1 F1=F2:=by rw [hF1,hF2];rfl
 have w3:List.take 1 F2++X.1.map eB++List.drop 65 F2=F3:=by rw [hF2,hF3];exact FDc_S _ _ _ _ _ _
 have w4:List.take 65 F3++[eN gX]++List.drop 66 F3=F4:=by rw [hF3,hF4];exact FDc_g _ _ _ _ _ _
 have w5:List.take 66 F4++[eN nX]++List.drop 67 F4=F5:=by rw [hF4,hF5];exact FDc_n _ _ _ _ _ _
 have e1:zc9 b ⟨gX,nX⟩=some ⟨gX,nX⟩→some (FDc (z1 (o (k+1))).isSome X (hO (z1 (o (k+1)))).g (hO (z1 (o (k+1)))).n (most ((o (k+1)).map (·.n))))=some F5:=by
  intro h;rw [hbs,hms,h,hF5];rfl
 have e2:zc9 b ⟨gX,nX⟩=b→some (FDc (z1 (o (k+1))).isSome S (hO (z1 (o (k+1)))).g (hO (z1 (o (k+1)))).n (most ((o (k+1)).map (·.n))))=some F1:=by
  intro h;rw [hbs,hms,h,hF1,his]
 rw [← hF0]
 clear hF0 hF1 hF2 hF3 hF4 hF5 hbs hms
 cases b with
 | none =>
  obtain rfl:is=false:=his
  have e1:=e1 rfl
  (refine zla (nn hkI (nn hja (nn hjl (nn hjt (nn hj0 (nn g1 (nn g2 (nn g3 (nn g4 (nn g5 (nn z65 (nn ce' lan)))))))))))) (hat) (hread) (hH) ?_;(repeat' (with_reducible apply Br.mk<;>intro _)))
  (refine zuj (nn g1 (nn g3 (nn g4 (nn l0 (nn l1 (nn l2 (nn l3 (nn l4 (nn m0 (nn w1 (nn w2 (nn w3 (nn w4 (nn w5 (nn r0 (nn r1 (nn r2 (nn hmx gl)))))))))))))))))) (ht1) (ht2) (hn1) (hn2) ?_;(repeat' (with_reducible apply Br.mk<;>intro _)))
  refine ⟨_,_,?_,z7 (by rw [e1]),k+1,X,_,by omega,rfl,rfl⟩
  omega
 | some q =>
  obtain rfl:is=true:=his
  have eO:hO (some q)=q:=rfl
  rw [eO] at r1 r2
  have eb:zc9 (some q) ⟨gX,nX⟩=if q.lt ⟨gX,nX⟩=true then some ⟨gX,nX⟩ else some q:=rfl
  have elt:q.lt ⟨gX,nX⟩=(decide (q.g<gX) || (decide (q.g=gX) && decide (q.n<nX))):=rfl
  by_cases cg:q.g<gX
  · have c1:((q.g:Int)<(gX:Int))=True:=eq_true (by omega)
    have e1:=e1 (by rw [eb,elt,decide_eq_true cg,Bool.true_or,if_pos rfl])
    (refine zla (nn hkI (nn hja (nn hjl (nn hjt (nn hj0 (nn g1 (nn g2 (nn g3 (nn g4 (nn g5 (nn z65 (nn ce' lan)))))))))))) (hat) (hread) (hH) ?_;(repeat' (with_reducible apply Br.mk<;>intro _)))
    (refine zuj (nn g1 (nn g3 (nn g4 (nn l0 (nn l1 (nn l2 (nn l3 (nn l4 (nn m0 (nn w1 (nn w2 (nn w3 (nn w4 (nn w5 (nn r0 (nn r1 (nn r2 (nn hmx (nn gl c1))))))))))))))))))) (ht1) (ht2) (hn1) (hn2) ?_;(repeat' (with_reducible apply Br.mk<;>intro _)))
    refine ⟨_,_,?_,z7 (by rw [e1]),k+1,X,_,by omega,rfl,rfl⟩
    omega
  have c1:((q.g:Int)<(gX:Int))=False:=eq_false (by omega)
  by_cases cq:gX=q.g
  case neg =>
   have c2:((gX:Int)=(q.g:Int))=False:=eq_false (by omega)
   have e2:=e2 (by rw [eb,elt,decide_eq_false cg,decide_eq_false (fun h=>cq h.symm)];rfl)
   (refine zla (nn hkI (nn hja (nn hjl (nn hjt (nn hj0 (nn g1 (nn g2 (nn g3 (nn g4 (nn g5 (nn z65 (nn ce' lan)))))))))))) (hat) (hread) (hH) ?_;(repeat' (with_reducible apply Br.mk<;>intro _)))
   (refine zuj (nn g1 (nn g3 (nn g4 (nn l0 (nn l1 (nn l2 (nn l3 (nn l4 (nn m0 (nn w1 (nn w2 (nn w3 (nn w4 (nn w5 (nn r0 (nn r1 (nn r2 (nn hmx (nn gl (nn c1 c2)))))))))))))))))))) (ht1) (ht2) (hn1) (hn2) ?_;(repeat' (with_reducible apply Br.mk<;>intro _)))
   refine ⟨_,_,?_,z7 (by rw [e2]),k+1,S,_,by omega,rfl,rfl⟩
   omega
  have c2:((gX:Int)=(q.g:Int))=True:=eq_true (by omega)
  by_cases cn:q.n<nX
  · have c3:((q.n:Int)<(nX:Int))=True:=eq_true (by omega)
    have e1:=e1 (by rw [eb,elt,decide_eq_true cn,decide_eq_true cq.symm,if_pos (by simp)])
    (refine zla (nn hkI (nn hja (nn hjl (nn hjt (nn hj0 (nn g1 (nn g2 (nn g3 (nn g4 (nn g5 (nn z65 (nn ce' lan)))))))))))) (hat) (hread) (hH) ?_;(repeat' (with_reducible apply Br.mk<;>intro _)))
    (refine zuj (nn g1 (nn g3 (nn g4 (nn l0 (nn l1 (nn l2 (nn l3 (nn l4 (nn m0 (nn w1 (nn w2 (nn w3 (nn w4 (nn w5 (nn r0 (nn r1 (nn r2 (nn hmx (nn gl (nn c1 (nn c2 c3))))))))))))))))))))) (ht1) (ht2) (hn1) (hn2) ?_;(repeat' (with_reducible apply Br.mk<;>intro _)))
    refine ⟨_,_,?_,z7 (by rw [e1]),k+1,X,_,by omega,rfl,rfl⟩
    omega
  · have c3:((q.n:Int)<(nX:Int))=False:=eq_false (by omega)
    have e2:=e2 (by rw [eb,elt,decide_eq_false cg,decide_eq_false cn,Bool.and_false];rfl)
    (refine zla (nn hkI (nn hja (nn hjl (nn hjt (nn hj0 (nn g1 (nn g2 (nn g3 (nn g4 (nn g5 (nn z65 (nn ce' lan)))))))))))) (hat) (hread) (hH) ?_;(repeat' (with_reducible apply Br.mk<;>intro _)))
    (refine zuj (nn g1 (nn g3 (nn g4 (nn l0 (nn l1 (nn l2 (nn l3 (nn l4 (nn m0 (nn w1 (nn w2 (nn w3 (nn w4 (nn w5 (nn r0 (nn r1 (nn r2 (nn hmx (nn gl (nn c1 (nn c2 c3))))))))))))))))))))) (ht1) (ht2) (hn1) (hn2) ?_;(repeat' (with_reducible apply Br.mk<;>intro _)))
    refine ⟨_,_,?_,z7 (by rw [e2]),k+1,S,_,by omega,rfl,rfl⟩
    omega
end Go.Proofs.YtpplfpnjfjnkdaaGreatDoor
namespace Go.Proofs.YtpplfpnjfjnkdaaGreatDoor
open Go Go.E2 C22 C23 CW
set_option maxHeartbeats 16000000
def zt3 (d:Dk) (at_:Int) (side:Nat):Nat→Nat
 | 0=>0
 | k+1=>if (rd d (at_+2+(k:Int))).2=0∧isF (rd d (at_+2+(k:Int))).1 side (k / 2)=true then max (zt3 d at_ side k) (be (tx (rd d (at_+2+(k:Int))).1 4 8)) else zt3 d at_ side k
theorem zsn (d:Dk) (at_:Int) (side:Nat):∀ j,zt3 d at_ side (2 * j)=zkz d at_ side j
 | 0=>rfl
 | j+1=>by
   have ih:=zsn d at_ side j
   have e0:(2 * j) / 2=j:=by omega
   have e1:(2 * j+1) / 2=j:=by omega
   have a0:at_+2+((2 * j:Nat):Int)=at_+2+2 * (j:Int):=by omega
   have a1:at_+2+((2 * j+1:Nat):Int)=at_+2+2 * (j:Int)+1:=by omega
   show zt3 d at_ side (2 * j+1+1)=max (zkz d at_ side j) (most (fns d (at_+2+2 * (j:Int)) side j))
   simp only [zt3,ih,e0,e1,a0,a1,fns,zpl]
   generalize (rd d (at_+2+2 * (j:Int))).2=x0
   generalize (rd d (at_+2+2 * (j:Int))).1=s0
   generalize (rd d (at_+2+2 * (j:Int)+1)).2=x1
   generalize (rd d (at_+2+2 * (j:Int)+1)).1=s1
   by_cases c0:x0=0<;>by_cases c1:x1=0<;>cases h0:isF s0 side j<;>cases h1:isF s1 side j<;>simp [c0,c1,h0,h1,most,Nat.max_assoc]
theorem zxl (d:Dk) (at_:Int) (side:Nat):∀ k,zt3 d at_ side k<4294967296
 | 0=>Nat.zero_lt_succ _
 | k+1=>by
   have ih:=zxl d at_ side k
   have:=zjc (rd d (at_+2+(k:Int))).1 (a:=4) (b:=8) (by decide) rfl
   simp only [zt3]
   split
   · exact Nat.max_lt.2 ⟨ih,this⟩
   · exact ih
theorem zjb (p:Nat) (d:Dk) (first:Int) (half:Nat) (side g ses:Nat) (ch:List UInt8) (used:Nat) (L:D) (s:Nat) (hL:NL L) (h1:0≤first∧first<1000000) (h2:4≤half∧half<1000000) (h3:s=0∨s=1) :
 ze1 Tryz.prog f_zz1 [eRJ p first half side g ses ch used L,eI s] [zd2 p d] (·=.d (eN (zkz d (first+s * half) s (half / 2 - 1)))):=by
 refine zap fol zz1_cp fun R G σ hs=>?_
 have hat:=zpd p first half side g ses ch used L s hL h1 (by omega) h3
 have hsl:=zpe p first half side g ses ch used L hL h2
 obtain ⟨at_,ha⟩:∃ a,a=first+s * half:=⟨_,rfl⟩
 have hab:0≤at_∧at_<3000000:=by rcases h3 with rfl|rfl<;>constructor<;>omega
 rw [← ha] at hat ⊢
 obtain ⟨jc,hjc⟩:∃ jc,eRJ p first half side g ses ch used L=.agg jc:=⟨_,rfl⟩
 have hj0:jc.head?=some (.gp p 0):=by
  have:jc=(eRJ p first half side g ses ch used L).cells:=by rw [hjc];rfl
  rw [this];rfl
 have hjl:jc.length=9:=by
  have:jc=(eRJ p first half side g ses ch used L).cells:=by rw [hjc];rfl
  rw [this];rfl
 have hja:jc.all D.one=true:=by
  have:jc=(eRJ p first half side g ses ch used L).cells:=by rw [hjc];rfl
  rw [this];rcases hL with rfl|⟨es,rfl⟩<;>rfl
 have hjt:List.take 9 jc=jc:=yk1Q (by omega)
 rw [hjc] at hat hsl ⊢
 obtain ⟨q,hq⟩:∃ q,q=half / 2 - 1:=⟨_,rfl⟩
 rw [← hq] at hsl ⊢
 rw [← zsn]
 (refine goX (nn hja hjl) ?_;(repeat' (with_reducible apply Br.mk<;>intro _)))
 refine W.loop (fun m st=>∃ (k:Nat) (b7:Blk),k≤2 * q∧m=2 * q - k ∧
  st=(E [(6,.d (eI k)),(5,.d (eN (zt3 d at_ s k))),(2,.ptr 0 2 1 0),(1,.d (eI s))],HB [(2,⟨1,some jc⟩),(7,b7)],σ,G))
  ⟨_,_,z7 (zkd [(2,⟨1,some jc⟩)] [7] rfl).symm,0,⟨0,none⟩,by omega,rfl,rfl⟩ ?_
 rintro m st ⟨k,b7,hk,rfl,rfl⟩
 have hlt:=zxl d at_ s k
 by_cases hk2:k=2 * q
 · subst hk2
   have hkI:(((2 * q:Nat):Int)<2 * (q:Int))=False:=eq_false (by omega)
   (refine zb7 (nn hkI (nn hja (nn hjl hjt))) (hsl) ?_;(repeat' (with_reducible apply Br.mk<;>intro _)))
   exact Fin.eq rfl ⟨rfl,rfl,rfl⟩
 have hkI:((k:Int)<2 * (q:Int))=True:=eq_true (by omega)
 have e33:(k:Int).tdiv 2=((k / 2:Nat):Int):=by rw [ylqQ (by omega)];omega
 have hread:=(zm7 p d (at_+2+k)).q hs
 have heG:eGot (rd d (at_+2+k))=.agg ((rd d (at_+2+k)).1.1.map eB++[.int .i64 (rd d (at_+2+k)).2]):=rfl
 rw [heG] at hread
 have hH:=zhy (rd d (at_+2+k)).1 s (k / 2) (by omega) (by omega)
 have ht1:=zcq (rd d (at_+2+k)).1 4 8 (by decide) (by decide)
 have hn1:=zkt (tx (rd d (at_+2+k)).1 4 8) (zas _ (by decide))
 have hlt2:=zjc (rd d (at_+2+k)).1 (a:=4) (b:=8) (by decide) rfl
 have hol:zt3 d at_ s (k+1)=if (rd d (at_+2+k)).2=0∧isF (rd d (at_+2+k)).1 s (k / 2)=true then max (zt3 d at_ s k) (be (tx (rd d (at_+2+k)).1 4 8)) else zt3 d at_ s k:=rfl
 have gl:=zj (rd d (at_+2+k)).1
 generalize (rd d (at_+2+k)).1=X at *
 generalize (rd d (at_+2+k)).2=e at *
 generalize zt3 d at_ s k=mo at *
 obtain ⟨GC,hGC⟩:∃ GC,GC=X.1.map eB++[D.int .i64 e]:=⟨_,rfl⟩
 have g1:GC.length=65:=by rw [hGC,yk2Q,gl];rfl
 have g2:GC.all D.one=true:=by rw [hGC,ylmQ,zbx];rfl
 have g3:(List.drop 64 GC).head?=some (.int .i64 e):=by rw [hGC,yloQ gl];rfl
 have g4:List.take 64 GC=X.1.map eB:=by rw [hGC,ylnQ gl]
 have g5:List.take 65 GC=GC:=yk1Q (by omega)
 rw [← hGC] at hread
 have z65:List.drop 65 (zr 64 (D.int .u8 0)++[D.int .i64 0])=[]:=rfl
 by_cases ce:e=0
 case neg =>
  have ce':=eq_false ce
  rw [if_neg (fun h=>ce h.1)] at hol
  (refine zla (nn hkI (nn hja (nn hjl (nn hjt (nn hj0 (nn g1 (nn g2 (nn g3 (nn g4 (nn g5 (nn z65 (nn ce' lan)))))))))))) (hsl) (hat) (hread) ?_;(repeat' (with_reducible apply Br.mk<;>intro _)))
  refine ⟨_,_,?_,z7 rfl,k+1,_,by omega,rfl,rfl⟩
  omega
 have ce':=eq_true ce
 by_cases ch:isF X s (k / 2)=true
 case neg =>
  rw [Bool.not_eq_true] at ch
  rw [if_neg (fun h=>by rw [ch] at h;cases h.2)] at hol
  rw [ch] at hH
  (refine zuj (nn hkI (nn hja (nn hjl (nn hjt (nn hj0 (nn g1 (nn g2 (nn g3 (nn g4 (nn g5 (nn z65 (nn ce' (nn e33 lan))))))))))))) (hsl) (hat) (hread) (hH) ?_;(repeat' (with_reducible apply Br.mk<;>intro _)))
  refine ⟨_,_,?_,z7 rfl,k+1,_,by omega,rfl,rfl⟩
  omega
 rw [if_pos ⟨ce,ch⟩] at hol
 rw [ch] at hH
 generalize be (tx X 4 8)=nX at *
 have hmx:max (mo:Int) (nX:Int)=((zt3 d at_ s (k+1):Nat):Int):=by omega
 (refine zuj (nn hkI (nn hja (nn hjl (nn hjt (nn hj0 (nn g1 (nn g2 (nn g3 (nn g4 (nn g5 (nn z65 (nn ce' (nn e33 lan))))))))))))) (hsl) (hat) (hread) (hH) ?_;(repeat' (with_reducible apply Br.mk<;>intro _)))
 (refine zgi (nn g1 (nn g4 hmx)) (ht1) (hn1) ?_;(repeat' (with_reducible apply Br.mk<;>intro _)))
 refine ⟨_,_,?_,z7 rfl,k+1,_,by omega,rfl,rfl⟩
 omega
theorem zmd (p:Nat) (d:Dk) (first:Int) (half:Nat) (side g ses:Nat) (ch:List UInt8) (used:Nat) (L:D) (hL:NL L) (h1:0≤first∧first<1000000) (h2:4≤half∧half<1000000) :
 ze1 Tryz.prog f_zz2 [eRJ p first half side g ses ch used L] [zd2 p d] (·=.d (eN (zz d first half))):=by
 refine zap fol zz2_cp fun R G σ hs=>?_
 have hs2:Sep (zd2 p d::R) G:=hs
 obtain ⟨S0,hh0⟩:∃ S,True:=⟨z0,trivial⟩
 have ha:=zge p d first half side g ses ch used L 0 hL h1 (by omega) (.inl rfl)
 have hb:=zge p d first half side g ses ch used L 1 hL h1 (by omega) (.inr rfl)
 have sa:=(zjb p d first half side g ses ch used L 0 hL h1 h2 (.inl rfl)).q hs
 have sb:=(zjb p d first half side g ses ch used L 1 hL h1 h2 (.inr rfl)).q hs
 have e0:first+((0:Nat):Int) * (half:Int)=first:=by omega
 have e1:first+((1:Nat):Int) * (half:Int)=first+half:=by omega
 rw [e0] at ha sa
 rw [e1] at hb sb
 have hB:zz d first half=max (max (most ((hds d first 0).map (·.n))) (zkz d first 0 (half / 2 - 1))) (max (most ((hds d (first+half) 1).map (·.n))) (zkz d (first+half) 1 (half / 2 - 1)))+1:=rfl
 have b1:=zsv d first 0
 have b2:=zsv d (first+half) 1
 have b3:=zk1 d first 0 (half / 2 - 1)
 have b4:=zk1 d (first+half) 1 (half / 2 - 1)
 generalize zz d first half=B at *
 generalize (z1 (hds d first 0)).isSome=i0 at *
 generalize (z1 (hds d (first+half) 1)).isSome=i1 at *
 generalize hO (z1 (hds d first 0))=q0 at *
 generalize hO (z1 (hds d (first+half) 1))=q1 at *
 generalize most ((hds d first 0).map (·.n))=n0 at *
 generalize most ((hds d (first+half) 1).map (·.n))=n1 at *
 generalize zkz d first 0 (half / 2 - 1)=m0 at *
 generalize zkz d (first+half) 1 (half / 2 - 1)=m1 at *
 have x1:max (n0:Int) (m0:Int)=((max n0 m0:Nat):Int):=by omega
 have x2:max (n1:Int) (m1:Int)=((max n1 m1:Nat):Int):=by omega
 have x3:max ((max n0 m0:Nat):Int) ((max n1 m1:Nat):Int)=((max (max n0 m0) (max n1 m1):Nat):Int):=by omega
 obtain ⟨jc,hjc⟩:∃ jc,eRJ p first half side g ses ch used L=.agg jc:=⟨_,rfl⟩
 have hjl:jc.length=9:=by
  have:jc=(eRJ p first half side g ses ch used L).cells:=by rw [hjc];rfl
  rw [this];rfl
 have hja:jc.all D.one=true:=by
  have:jc=(eRJ p first half side g ses ch used L).cells:=by rw [hjc];rfl
  rw [this];rcases hL with rfl|⟨es,rfl⟩<;>rfl
 have hjt:List.take 9 jc=jc:=yk1Q (by omega)
 rw [hjc] at ha hb sa sb ⊢
 have hzl:([D.bool false]++zr 64 (.int .u8 0)++[D.int .i64 0,.int .i64 0,.int .i64 0]).length=68:=rfl
 have hzd:List.drop 68 ([D.bool false]++zr 64 (.int .u8 0)++[D.int .i64 0,.int .i64 0,.int .i64 0])=[]:=rfl
 (refine goX (nn hja (nn hjl hjt)) ?_;(repeat' (with_reducible apply Br.mk<;>intro _)))
 refine zi5 (xs:=[.agg jc,eI ((0:Nat):Int)]) (Q:=fun r G'=>G'=G∧∃ S,r=.d (.agg (FDc i0 S q0.g q0.n n0))) (fun σ=>(ha.q hs σ).mono fun r σ' G' ⟨a,b,c⟩=>⟨a,b,c⟩) (fun _ _ h=>by rw [h.1];exact zez.refl _) goD goD ?_
 rintro _ G2 ⟨hG2,S1,rfl⟩
 rw [hG2]
 have l0:=zcr i0 S1 q0.g q0.n n0
 have o0:=zfq i0 S1 q0.g q0.n n0
 have r0:=(zd4 i0 S1 q0.g q0.n n0).2.2.2
 generalize FDc i0 S1 q0.g q0.n n0=F0 at *
 have t0:List.take 68 F0=F0:=yk1Q (by omega)
 refine goS (nn l0 (nn o0 t0)) ?_
 (refine goX (nn hja (nn hjl (nn hjt (nn l0 (nn o0 t0))))) ?_;(repeat' (with_reducible apply Br.mk<;>intro _)))
 refine zi5 (xs:=[.agg jc,eI ((1:Nat):Int)]) (Q:=fun r G'=>G'=G∧∃ S,r=.d (.agg (FDc i1 S q1.g q1.n n1))) (fun σ=>(hb.q hs σ).mono fun r σ' G' ⟨a,b,c⟩=>⟨a,b,c⟩) (fun _ _ h=>by rw [h.1];exact zez.refl _) goD goD ?_
 rintro _ G3 ⟨hG3,S2,rfl⟩
 rw [hG3]
 have l1:=zcr i1 S2 q1.g q1.n n1
 have o1:=zfq i1 S2 q1.g q1.n n1
 have r1:=(zd4 i1 S2 q1.g q1.n n1).2.2.2
 generalize FDc i1 S2 q1.g q1.n n1=F1 at *
 have t1:List.take 68 F1=F1:=yk1Q (by omega)
 refine goS (nn l1 (nn o1 t1)) ?_
 (refine zgi (nn hja (nn hjl (nn hjt (nn l0 (nn l1 (nn r0 (nn r1 (nn o1 (nn t1 (nn x1 (nn x2 x3))))))))))) (sa) (sb) ?_;(repeat' (with_reducible apply Br.mk<;>intro _)))
 exact Fin.eq rfl ⟨rfl,rfl,iE (by omega)⟩
