/-
 Layer 52 (house),continued: what yields the free slots;small functions.
 Conditions: of each contract as it says.
-/
import Derived.Test.YtailhmffljoojaaK1
set_option linter.unusedSimpArgs false
namespace Go.Proofs.Ytailhmffljoojaa
open Go Go.E2 C22 C52
set_option maxHeartbeats 1000000
abbrev eSy (e:Int) (b:Str):D:=.agg [.int .i64 e,.str b,.nilS,.int .i64 0]
structure Ask where
 kind:Int
 r:Rf
 keep:Int
 til:Int
 tag:Int
 b:Str
 frm:Int
 cnt:Int
 wid:Int
abbrev eA (a:Ask) (u v:List D):D:=.agg [.int .i64 a.kind,.int .i64 a.r.k,.int .i64 a.r.o,.int .i64 a.r.n,.int .i64 a.r.p,.int .i64 a.keep,.int .i64 a.til,.int .i64 a.tag,.str a.b,.int .i64 a.frm,.int .i64 a.cnt,.int .i64 a.wid,.list u,.list v]
def Tms (a:Ask):Prop:=0≤a.keep∧a.keep≤a.til∧a.til≤1000000
instance (a:Ask):Decidable (Tms a):=by unfold Tms;exact inferInstance
def Pos (r:Rf):Prop:=(r.k=1∨r.k=2)∧(0≤r.o∧r.o≤1099511627776)∧(0≤r.n∧r.n≤1099511627776)∧(0≤r.p∧r.p≤23)
instance (r:Rf):Decidable (Pos r):=by unfold Pos;exact inferInstance
theorem dE {p q:Prop} [Decidable p] [Decidable q] (h:p↔q):AV.d (.bool (decide p))=.d (.bool (decide q)):=by rw [decide_eq_decide.2 h]
theorem dT {q:Prop} [Decidable q] (h:q):AV.d (.bool true)=.d (.bool (decide q)):=by rw [decide_eq_true h]
theorem dF {q:Prop} [Decidable q] (h:¬ q):AV.d (.bool false)=.d (.bool (decide q)):=by rw [decide_eq_false h]
theorem zak (e:Int):za2 Try.prog f_zz59 [.int .i64 e] (·=.d (eSy e [])):=by
 refine zan fol zz59_cp ?_
 refine goS trivial ?_
 refine goR trivial ?_
 exact Fin.p rfl rfl
theorem zod (a:Ask) (u v:List D):za2 Try.prog f_zz56 [eA a u v] (·=.d (.bool (decide (Tms a)))):=by
 refine zan fol zz56_cp ?_
 refine goS trivial ?_
 (refine goX trivial ?_;(repeat' (with_reducible apply Br.mk<;>intro _)))
 all_goals exact Fin.p rfl (by first|exact dE (by unfold Tms;omega)|exact dF (by unfold Tms;omega)|exact dT (by unfold Tms;omega))
theorem zi2 (n m:Int):za2 Try.prog f_zz30 [.int .i64 n,.int .i64 m] (·=.d (.bool (decide (0≤n∧n≤m)))):=by
 refine zan fol zz30_cp ?_
 refine goS trivial ?_
 (refine goX trivial ?_;(repeat' (with_reducible apply Br.mk<;>intro _)))
 all_goals exact Fin.p rfl (by first|exact dE (by omega)|exact dF (by omega)|exact dT (by omega))
theorem zi3 (r:Rf):za2 Try.prog f_zz48 [eRf r] (·=.d (.bool (decide (Pos r)))):=by
 refine zan fol zz48_cp ?_
 refine goS trivial ?_
 (refine z63 trivial (zi2 r.o 1099511627776) (zi2 r.n 1099511627776) (zi2 r.p 23) ?_;(repeat' (with_reducible apply Br.mk<;>intro _)))
 all_goals exact Fin.p rfl (by first|exact dE (by unfold Pos;omega)|exact dF (by unfold Pos;omega)|exact dT (by unfold Pos;omega))
theorem zoe (b1 u n t cap:Nat) (hn:n≤250) (h1:1≤n) (ht:t≤n) (l:Nat) (J:Nat→Gh→Prop) (σ:List Hp) (G:Gh) (hJ:J 0 G)
 (hb:∀ i G',J i G'→∃ R,Sep (ze b1 [.gs u 0 n cap]::SlA 1 (.gs u 0 n cap) (uL n t)::R) G')
 (hskip:∀ i G',i<t→J i G'→J (i+1) G')
 (hstep:∀ i G',t≤i→i<n→J i G'→∀ σ,zia Try.prog l [.int .i64 i] σ G' fun r lv G2=>lv=σ∧(r=.d (.bool true)∧J (i+1) G2)) :
 zam Try.prog f_zz15 ([.yld l,.gp b1 0].map .d) σ G fun _ σ' G'=>σ'=σ∧J n G':=by
 refine zbv fol zz15_cp ?_
 obtain ⟨R,hs⟩:=hb 0 G hJ
 have hc:=hs.get
 refine goS trivial ?_
 refine goR hc ?_
 refine W.loop (fun z st=>∃ (k:Nat) (G1:Gh),k≤n∧z=n - k∧J k G1 ∧
  st=(E [(0,.d (.yld l)),(5,.d (.gs u 0 n cap)),(6,.d (.int .i64 n)),(7,.d (.int .i64 k))],HB [],σ,G1))
  ⟨_,_,zgr,0,G,by omega,rfl,hJ,rfl⟩ ?_
 rintro z st ⟨k,G1,hk,rfl,hJ1,rfl⟩
 refine goR trivial ?_
 refine zdt (fun h4=>?_) (fun h4=>?_)
 · have hk':k<n:=by omega
   obtain ⟨R1,hs1⟩:=hb k G1 hJ1
   obtain ⟨bu,capu,csu,hxu,hbu,hrowu⟩:=(Sep.gv hs1.tail).inv (by intro h;have:=congrArg List.length h;rw [zff ht] at this;simp at this;omega)
   rw [zff ht] at hxu hrowu
   cases hxu
   have hread:=zw7 hrowu ht hk'
   by_cases h5:k<t
   · have e5:decide (k<t)=true:=by simp [h5]
     rw [e5] at hread
     refine goR (nn hbu hread) ?_
     exact zgg.mk ⟨n - (k+1),_,by omega,zgr,k+1,_,by omega,rfl,hskip k _ h5 hJ1,rfl⟩
   · have e5:decide (k<t)=false:=by simp [h5]
     rw [e5] at hread
     refine goR (nn hbu hread) ?_
     have hst:=hstep k G1 (by omega) hk' hJ1
     apply z37 (hst _)
     focus (simp -dsimp (disch:=first|omega|(simp only [go_sem];omega)) only [go_sem,seval,Nat.reduceEqDiff,Nat.reduceLeDiff]<;>fail)
     focus (simp -dsimp (disch:=first|omega|(simp only [go_sem];omega)) only [go_sem,seval,Nat.reduceEqDiff,Nat.reduceLeDiff]<;>rfl)
     rintro r G2 ⟨rfl,hJ2⟩
     refine goS trivial ?_
     refine goR trivial ?_
     exact zgg.mk ⟨n - (k+1),_,by omega,zgr,k+1,_,by omega,rfl,hJ2,rfl⟩
 · have e1:k=n:=by omega
   subst e1
   refine goR trivial ?_
   exact Fin.eq rfl ⟨rfl,hJ1⟩
end Go.Proofs.Ytailhmffljoojaa
namespace Go.Proofs.Ytailhmffljoojaa
open Go Go.E2 C22 C52
set_option maxHeartbeats 1000000
set_option maxRecDepth 20000 in
theorem ztx (n:Nat) (hn:n≤1):za2 Try.prog f_zz38 [.int .u64 n] (·=.d (.int .i64 n)):=by
 rcases (by omega:n=0∨n=1) with rfl|rfl
 all_goals
  refine zan fol zz38_cp ?_
  refine goS trivial ?_
  refine goR trivial ?_
  exact Fin.p rfl rfl
theorem zvc (n:Nat) (hn:n≤1):za2 Try.prog f_zz49 [.int .u64 n] (·=.d (.int .i64 n)):=by
 refine zan fol zz49_cp ?_
 refine goS trivial ?_
 (refine zd5 trivial (ztx n hn) ?_;(repeat' (with_reducible apply Br.mk<;>intro _)))
 exact Fin.p rfl rfl
theorem z1n (x:D) (n:Nat) (hn:n≤1):za2 Try.prog f_zz3 [x,.int .i64 0,.int .i64 n,.fn f_zz12] (·=.tup []):=by
 refine zan fol zz3_cp ?_
 refine goS trivial ?_
 refine goR trivial ?_
 refine W.loop (fun z st=>st=(E [(2,.d (.int .i64 n)),(8,.d (.int .i64 1))],HB [],[],noGh)) ⟨0,_,zgr,rfl⟩ ?_
 rintro z st rfl
 have e:((1:Int)<(n:Int))=False:=eq_false (by omega)
 refine goR e ?_
 exact Fin.p rfl rfl
theorem zvd (x:D) (n k:Nat) (hn:n≤1):za2 Try.prog f_zz9 [x,.int .i64 0,.int .i64 n,.int .i64 k,.fn f_zz12] (·=.tup []):=by
 refine zan fol zz9_cp ?_
 refine goS trivial ?_
 refine goR trivial ?_
 refine W.loop (fun z st=>st=(E [(0,.d x),(1,.d (.int .i64 0)),(2,.d (.int .i64 n)),(4,.d (.fn f_zz12))],HB [],[],noGh)) ⟨0,_,zgr,rfl⟩ ?_
 rintro z st rfl
 have e:((n:Int)≤12)=True:=eq_true (by omega)
 have e':((n:Int) - 0≤12)=True:=eq_true (by omega)
 rcases (by omega:n=0∨n=1) with rfl|rfl
 all_goals
  (refine zd5 (nn e e') (z1n x _ hn) ?_;(repeat' (with_reducible apply Br.mk<;>intro _)))
  exact Fin.p rfl rfl
theorem zty:za2 Try.prog f_zz4 [.nilS,.fn f_zz12] (·=.tup []):=by
 refine zan fol zz4_cp ?_
 refine goS trivial ?_
 (refine zki trivial (zvc 0 (by omega)) (zvd .nilS 0 0 (by omega)) ?_;(repeat' (with_reducible apply Br.mk<;>intro _)))
 exact Fin.p rfl rfl
theorem ztz (b cap:Nat):za2 Try.prog f_zz4 [.gs b 0 1 cap,.fn f_zz12] (·=.tup []):=by
 refine zan fol zz4_cp ?_
 refine goS trivial ?_
 (refine zki trivial (zvc 1 (by omega)) (zvd (.gs b 0 1 cap) 1 1 (by omega)) ?_;(repeat' (with_reducible apply Br.mk<;>intro _)))
 exact Fin.p rfl rfl
def hO (o:Option En) (x:D):List D:=match o with|none=>[]|some e=>[eHd e x]
theorem zgc (hb q mr n bx t capx:Nat) (o:Option En) (x:D) (hx:x=.gs bx 0 t capx) :
 zt Try.prog f_zz16 [.gp hb 0] [HmA hb q mr n,MpA mr (mO o x)] (fun r post=>∃ y,r=.d y∧(o=none→y=.nilS)∧post=[HmA hb q mr n,MpA mr (mO o x),SlA 9 y (hO o x)]):=by
 subst hx
 refine zj fol zz16_cp fun R G σ hs=>?_
 have hs:Sep (HmA hb q mr n::MpA mr (mO o (.gs bx 0 t capx))::R) G:=hs
 have hc:=Sep.get (b:=hb) (cs:=[.gp q 0,.int .i64 n,.mref mr]) hs
 refine goS trivial ?_
 refine goR hc ?_
 have hs5:Sep (MpA mr (mO o (.gs bx 0 t capx))::HmA hb q mr n::R) G:=hs.swap
 refine zms (Sep.map hs5) fun it X hit hr=>?_
 have hs6:=Sep.rngNew hs5 hit hr
 have hs7:=Sep.slNil (sz:=9) hs6
 generalize G.setM it (some X)=G3 at hs7 ⊢
 refine goS trivial ?_
 refine goR trivial ?_
 refine W.loop (fun z st=>∃ (b:Bool) (b5:Blk) (y:D) (G:Gh),z=(if b then 0 else 1)∧(o=none→y=.nilS) ∧
  Sep (SlA 9 y (if b then hO o (.gs bx 0 t capx) else [])::zmu [.i,.i,.i,.i] eRf id mr it (mO o (.gs bx 0 t capx)) (if b then (mO o (.gs bx 0 t capx)).map (·.1) else [])::HmA hb q mr n::R) G ∧
  st=(E [(3,.d y),(10,.d (.gp it 0))],HB [(5,b5)],σ,G))
  ⟨_,_,zby (zhg [] [5] rfl).symm,false,_,.nilS,G3,rfl,fun _=>rfl,hs7,rfl⟩ ?_
 clear hs7 hs6 hs5 hr
 rintro z st ⟨b,b5,y,G4,rfl,hy0,hs7,rfl⟩
 refine goR trivial ?_
 refine zmt (Sep.rngl hs7.tail) (fun hall=>?_) (fun a v X' hav hns hr' hent=>?_)
 · have hs8:Sep (HmA hb q mr n::MpA mr (mO o (.gs bx 0 t capx))::SlA 9 y (hO o (.gs bx 0 t capx))::R) G4:=by
    have hb':(if b then hO o (.gs bx 0 t capx) else [])=hO o (.gs bx 0 t capx):=by
     cases b with
     | true=>rfl
     | false =>
      cases o with
      | none=>rfl
      | some e=>exact absurd (hall (e.r,eHd e (.gs bx 0 t capx)) (by simp [mO])) (by simp)
    rw [hb'] at hs7
    exact (Sep.rngEnd hs7.swap).perm pp
   have hgv:=Sep.gv hs8.tail.tail
   cases o with
   | none =>
    obtain rfl:=hy0 rfl
    refine goS trivial ?_
    (refine zd5 trivial (zty) ?_;(repeat' (with_reducible apply Br.mk<;>intro _)))
    exact Fin.eq rfl ⟨rfl,_,⟨_,rfl,fun _=>rfl,rfl⟩,hs8⟩
   | some e =>
    obtain ⟨bz,capz,cz,hz,_,_⟩:=hgv.inv (by simp [hO])
    subst hz
    have hl1:(hO (some e) (.gs bx 0 t capx)).length=1:=rfl
    rw [hl1] at hs8 ⊢
    refine goS trivial ?_
    (refine zd5 trivial (ztz bz capz) ?_;(repeat' (with_reducible apply Br.mk<;>intro _)))
    exact Fin.eq rfl ⟨rfl,_,⟨_,rfl,fun h=>by simp at h,rfl⟩,hs8⟩
 · obtain ⟨e,rfl⟩:∃ e,o=some e:=by
    cases o with
    | none=>simp [mO] at hav
    | some e=>exact ⟨e,rfl⟩
   obtain ⟨rfl,rfl⟩:a=e.r∧v=eHd e (.gs bx 0 t capx):=by simpa [mO] using hav
   cases b with
   | true=>exact absurd (by simp [mO]) hns
   | false =>
   have hs8:=Sep.rngSet (.inr rfl) hs7.swap hr'
   generalize G4.setM it (some X')=G5 at hs8 hent ⊢
   simp only [Bool.false_eq_true,if_false,List.nil_append] at hs8
   simp only [id_eq] at hent ⊢
   have hs9:Sep (SlA 9 y []::zmu [.i,.i,.i,.i] eRf id mr it (mO (some e) (.gs bx 0 t capx)) [e.r]::HmA hb q mr n::R) G5:=hs8.swap
   have hgv:=Sep.gv hs9
   rcases hgv.shape with rfl|⟨b0,n0,c0,rfl⟩
   all_goals
    refine goS hent ?_
    refine goR hent ?_
    refine zcg (es2:=[eHd e (.gs bx 0 t capx)]) (m:=1) hgv (zcb (es:=[eHd e (.gs bx 0 t capx)]) rfl) rfl rfl rfl (by rw [z8];simp) fun x' G6 hv2 hto=>?_
    have hs10:=Sep.grow hs9 hto hv2
    rcases hv2.shape with rfl|⟨b1,n1,c1,rfl⟩
    all_goals
     refine goS trivial ?_
     refine goR trivial ?_
     exact zgg.mk ⟨0,_,by simp,zby rfl,true,_,_,_,rfl,fun h=>by simp at h,hs10,rfl⟩
end Go.Proofs.Ytailhmffljoojaa
namespace Go.Proofs.Ytailhmffljoojaa
open Go Go.E2 C22 C52
set_option maxHeartbeats 1000000
theorem zxb {c:List Str} {k:Nat} (h:k<c.length):(List.replicate k ([]:Str)++c.drop k).length=c.length:=by simp;omega
theorem zof (hb q mr n bx cap:Nat) (m:Int) (e:En) (c:List Str) (hc:zmc n (some e) c) (hm:m≤100000000) (hn:n≤250) :
 zt Try.prog f_zz21 [.gp hb 0,eHd e (.gs bx 0 (zu e.b.length) cap)] [HmA hb q mr n,zaw q m c,MpA mr (mO (some e) (.gs bx 0 (zu e.b.length) cap)),SlA 1 (.gs bx 0 (zu e.b.length) cap) (aL (zu e.b.length))]
  (fun r post=>r=.d (.int .i64 0)∧post=[HmA hb q mr n,zaw q (m+100) (List.replicate n []),MpA mr []]):=by
 refine zj fol zz21_cp fun R G σ hs=>?_
 have hcl:=hc.len
 have htk:zu e.b.length≤n:=hc.2.2.1
 have hke:=zue hc
 have h432:=hc.2.1
 have hw:zu e.b.length≤9:=by unfold zu;omega
 have hw1:1≤zu e.b.length:=by unfold zu;omega
 generalize htt:zu e.b.length=T at *
 have hs:Sep (HmA hb q mr n::zaw q m c::MpA mr (mO (some e) (.gs bx 0 T cap))::SlA 1 (.gs bx 0 T cap) (aL T)::R) G:=hs
 have hne:aL T≠[]:=by
  intro h
  have:=congrArg List.length h
  rw [zbb] at this
  simp at this
  omega
 refine goS trivial ?_
 refine goR trivial ?_
 refine W.loop (fun z st=>∃ (k:Nat) (G:Gh),k≤T∧z=T - k ∧
  Sep (zaw q (m+6 * k) (List.replicate k []++c.drop k)::HmA hb q mr n::MpA mr (mO (some e) (.gs bx 0 T cap))::SlA 1 (.gs bx 0 T cap) (aL T)::R) G ∧
  st=(E [(0,.d (.gp hb 0)),(3,.ptr 0 3 1 0),(9,.d (.gs bx 0 T cap)),(10,.d (.int .i64 T)),(11,.d (.int .i64 k))],HB [(3,⟨1,some [.int .i64 e.r.k,.int .i64 e.r.o,.int .i64 e.r.n,.int .i64 e.r.p,.int .i64 e.keep,.int .i64 e.til,.int .i64 e.tag,.int .i64 e.b.length,.gs bx 0 T cap]⟩)],σ,G))
  ⟨_,_,zby rfl,0,G,by omega,rfl,by simpa using hs.swap,rfl⟩ ?_
 rintro z st ⟨k,G1,hk,rfl,hs1,rfl⟩
 refine goR trivial ?_
 refine zdt (fun h4=>?_) (fun h4=>?_)
 · have hk':k<T:=by omega
   obtain ⟨bx',cap',cs',hx',hbx',hrow'⟩:=(Sep.gv hs1.tail.tail.tail).inv hne
   rw [zbb] at hx' hrow'
   cases hx'
   have hread:=zew hrow' hk'
   have hch:=Sep.get (b:=hb) (cs:=[.gp q 0,.int .i64 n,.mref mr]) hs1.tail
   have hlen:=zxb (c:=c) (k:=k) (by omega)
   refine goR (nn hbx' (nn hread hch)) ?_
   (refine goM (ztp q (m+6 * k) (List.replicate k []++c.drop k) (by omega) k (by omega)) (hs1) ?_)
   rintro _ _ G2 ⟨rfl,rfl⟩ hs2
   rw [zr7 (by omega)] at hs2
   refine goS trivial ?_
   refine goR trivial ?_
   have hs3:Sep (zaw q (m+6 * ((k+1:Nat):Int)) (List.replicate (k+1) []++c.drop (k+1))::HmA hb q mr n::MpA mr (mO (some e) (.gs bx 0 T cap))::SlA 1 (.gs bx 0 T cap) (aL T)::R) G2:=Sep.slt_mono (by omega) hs2
   exact zgg.mk ⟨T - (k+1),_,by omega,zby rfl,k+1,_,by omega,rfl,hs3,rfl⟩
 · obtain rfl:k=T:=by omega
   have hch:=Sep.get (b:=hb) (cs:=[.gp q 0,.int .i64 n,.mref mr]) hs1.tail
   rw [hke] at hs1
   have hs2:Sep (MpA mr (mO (some e) (.gs bx 0 k cap))::HmA hb q mr n::zaw q (m+100) (List.replicate n [])::SlA 1 (.gs bx 0 k cap) (aL k)::R) G1:=(Sep.slt_mono (k:=m+100) (by omega) hs1).perm pp
   refine goR hch ?_
   refine zwp (emb:=eRf) (vf:=id) (Sep.map hs2) e.r fun M hM=>?_
   have hs3:=Sep.mapSet hs2 hM
   have hd:mdel (mO (some e) (.gs bx 0 k cap)) e.r=[]:=by simp [mO,mdel]
   rw [hd] at hs3
   refine goS trivial ?_
   refine goR trivial ?_
   have hs4:Sep (HmA hb q mr n::zaw q (m+100) (List.replicate n [])::MpA mr []::SlA 1 (.gs bx 0 k cap) (aL k)::R) (G1.setM mr (some M)):=hs3.perm pp
   exact Fin.eq rfl ⟨rfl,_,⟨rfl,rfl⟩,(hs4.cons fun _ h=>h.cons fun _ h=>h.cons fun _ h=>h.tail)⟩
theorem zxc (hb q mr n bx cap:Nat) (m:Int) (e:En) (c:List Str) (hc:zmc n (some e) c) (hm:m≤100000000) (hn:n≤250) :
 zt Try.prog f_zz29 [.gp hb 0,eHd e (.gs bx 0 (zu e.b.length) cap)] [HmA hb q mr n,zaw q m c,SlA 1 (.gs bx 0 (zu e.b.length) cap) (aL (zu e.b.length))]
  (fun r post=>r=.tup [.str e.b,.int .i64 0]∧post=[HmA hb q mr n,zaw q m c,SlA 1 (.gs bx 0 (zu e.b.length) cap) (aL (zu e.b.length))]):=by
 refine zj fol zz29_cp fun R G σ hs=>?_
 have hcl:=hc.len
 have htk:zu e.b.length≤n:=hc.2.2.1
 have h432:=hc.2.1
 have h11:=hc.1
 have hT:zu e.b.length=(e.b.length+53) / 54+1:=rfl
 have hget:∀ k,k+1<zu e.b.length→∃ h:k+1<c.length,c[k+1]'h=C52.part e.b k:=by
  intro k hk
  refine ⟨by omega,?_⟩
  obtain ⟨_,_,h2,x,_,rfl⟩:=hc
  exact zud e.b (by omega) (by omega) x
 have hend:=zuf e.b
 generalize htt:zu e.b.length=T at *
 have hs:Sep (HmA hb q mr n::zaw q m c::SlA 1 (.gs bx 0 T cap) (aL T)::R) G:=hs
 have hne:aL T≠[]:=by
  intro h
  have:=congrArg List.length h
  rw [zbb] at this
  simp at this
  omega
 obtain ⟨bx0,cap0,cs0,hx0,hbx0,hrow0⟩:=(Sep.gv hs.tail.tail).inv hne
 rw [zbb] at hx0 hrow0
 cases hx0
 have hfit:=hrow0.fit
 have hc1:(cap=1)=False:=eq_false (by omega)
 refine goS trivial ?_
 refine goR hc1 ?_
 refine W.loop (fun z st=>∃ (k:Nat) (es:List D) (G:Gh) (b3:Blk),k≤T - 1∧z=T - k∧es=(e.b.take (54 * k)).map eB ∧
  Sep (HmA hb q mr n::zaw q m c::SlA 1 (.gs bx 0 T cap) (aL T)::R) G ∧
  st=(E [(0,.d (.gp hb 0)),(6,.own 1 es),(13,.d (.gs bx 1 (T - 1) (cap - 1))),(14,.d (.int .i64 ((T - 1:Nat):Int))),(15,.d (.int .i64 k))],HB [(3,b3)],σ,G))
  ⟨_,_,zby rfl,0,[],G,_,by omega,rfl,by simp,hs,rfl⟩ ?_
 rintro z st ⟨k,es,G1,b3,hk,rfl,rfl,hs1,rfl⟩
 refine goR trivial ?_
 refine zdt (fun h4=>?_) (fun h4=>?_)
 · have hk':k+1<T:=by omega
   obtain ⟨bx',cap',cs',hx',hbx',hrow'⟩:=(Sep.gv hs1.tail.tail).inv hne
   rw [zbb] at hx' hrow'
   cases hx'
   have hread:=zew hrow' hk'
   have hread2:(cs'.drop (1+k * 1)).head?=some (.int .i64 ((k+1:Nat):Int)):=by rw [show 1+k * 1=(k+1) * 1 by omega];exact hread
   have hch:=Sep.get (b:=hb) (cs:=[.gp q 0,.int .i64 n,.mref mr]) hs1
   obtain ⟨hkc,hg⟩:=hget k hk'
   have hsg:=ziz q m c (by omega) (k+1) (by omega)
   rw [hg,if_neg (by simp [C52.part])] at hsg
   refine goR (nn hbx' (nn hread2 hch)) ?_
   (refine goM (hsg) (hs1.swap) ?_)
   rintro _ _ G2 ⟨rfl,rfl⟩ hs2
   have hs2:Sep (HmA hb q mr n::zaw q m c::SlA 1 (.gs bx 0 T cap) (aL T)::R) G2:=hs2.swap
   have hst:=zr8 e.b k
   have hl1:(e.b.take (54 * k)).length≤432:=by rw [List.length_take];omega
   have hl2:((e.b.drop (54 * k)).take 54).length≤54:=by rw [List.length_take];omega
   have hp:C52.part e.b k=2::(e.b.drop (54 * k)).take 54:=rfl
   rw [hp]
   generalize e.b.take (54 * k)=acc at *
   generalize (e.b.drop (54 * k)).take 54=ck at *
   have hmb:(acc.length+ck.length) * 1≤mostBytes:=by rw [z8];omega
   have hap:zah 1 1 (.own 1 (acc.map eB)) (.str ck)=some (.own 1 ((e.b.take (54 * (k+1))).map eB)):=by
    rw [zli 1 (acc.map eB) ck (by omega) (by rw [List.length_map];exact hmb),← hst,List.map_append];rfl
   refine goS hap ?_
   refine goR hap ?_
   exact zgg.mk ⟨T - (k+1),_,by omega,zby rfl,k+1,_,_,_,by omega,rfl,rfl,hs2,rfl⟩
 · obtain rfl:k=(e.b.length+53) / 54:=by omega
   rw [hend]
   refine goR trivial ?_
   exact Fin.eq rfl ⟨rfl,_,⟨rfl,rfl⟩,hs1⟩
end Go.Proofs.Ytailhmffljoojaa
namespace Go.Proofs.Ytailhmffljoojaa
open Go Go.E2 C22 C52
set_option maxHeartbeats 1000000
theorem zks {l:Nat} (h:1≤l):2≤zu l:=by unfold zu;omega
theorem zrt {l:Nat} (h:l≤432):zu l≤9:=by unfold zu;omega
theorem Sep.hs1 {hb n:Nat} {m:Int} {e:En} {R:List As} {G:Gh} (h:Sep (HsA hb n m (some e)::R) G):∃ q mr bx cap c,zmc n (some e) c ∧
 Sep (HmA hb q mr n::zaw q m c::MpA mr [(e.r,eHd e (.gs bx 0 (zu e.b.length) cap))]::SlA 1 (.gs bx 0 (zu e.b.length) cap) (aL (zu e.b.length))::R) G:=by
 obtain ⟨q,mr,x,c,hc,h1⟩:=Sep.hs h
 have hne:aL (tO (some e))≠[]:=by
  intro h
  have:=congrArg List.length h
  rw [zbb] at this
  have:=zks hc.1
  simp [tO] at *
  omega
 obtain ⟨bx,cap,cs,hx,_,_⟩:=(Sep.gv h1.tail.tail.tail).inv hne
 rw [zbb] at hx
 subst hx
 exact ⟨q,mr,bx,cap,c,hc,h1⟩
theorem Sep.of_hs1 {hb q mr n bx cap:Nat} {m:Int} {c:List Str} {e:En} {R:List As} {G:Gh} (hc:zmc n (some e) c)
 (h:Sep (HmA hb q mr n::zaw q m c::MpA mr [(e.r,eHd e (.gs bx 0 (zu e.b.length) cap))]::SlA 1 (.gs bx 0 (zu e.b.length) cap) (aL (zu e.b.length))::R) G):Sep (HsA hb n m (some e)::R) G :=
 Sep.of_hs (o:=some e) hc h
theorem Sep.hs0 {hb n:Nat} {m:Int} {R:List As} {G:Gh} (h:Sep (HsA hb n m none::R) G):∃ q mr,Sep (HmA hb q mr n::zaw q m (List.replicate n [])::MpA mr []::R) G:=by
 obtain ⟨q,mr,x,c,hc,h1⟩:=Sep.hs h
 have hc:c=List.replicate n []:=hc
 subst hc
 exact ⟨q,mr,h1.cons fun _ h=>h.cons fun _ h=>h.cons fun _ h=>h.tail⟩
theorem Sep.of_hs0 {hb q mr n:Nat} {m:Int} {R:List As} {G:Gh} (h:Sep (HmA hb q mr n::zaw q m (List.replicate n [])::MpA mr []::R) G):Sep (HsA hb n m none::R) G :=
 Sep.of_hs (o:=none) (x:=.nilS) rfl (h.cons fun _ h=>h.cons fun _ h=>h.cons fun _ h=>Sep.slNil h)
theorem zru (hb n:Nat) (m:Int) (o:Option En) (h1:1≤n) (hn:n≤250) (hm:m≤100000000) :
 zt Try.prog f_zz24 [.gp hb 0] [HsA hb n m o] (fun r post=>∃ y,r=.tup [y,.int .i64 0]∧(o=none→y=.nilS)∧post=[HsA hb n m o]):=by
 refine zj fol zz24_cp fun R G σ hs=>?_
 cases o with
 | none =>
  obtain ⟨q,mr,h2⟩:=Sep.hs0 hs
  have hc:=Sep.get (b:=hb) (cs:=[.gp q 0,.int .i64 n,.mref mr]) h2
  refine goS trivial ?_
  refine goR hc ?_
  (refine goM (ziz q m (List.replicate n []) (by omega) 0 (by rw [List.length_replicate];omega)) (h2.swap) ?_)
  rintro _ _ G2 ⟨rfl,rfl⟩ h3
  have h3:Sep (zaw q m (List.replicate n [])::HmA hb q mr n::MpA mr []::R) G2:=h3
  rw [List.getElem_replicate,if_pos rfl]
  refine goS trivial ?_
  refine goR trivial ?_
  have h3':Sep (HmA hb q mr n::MpA mr []::zaw q m (List.replicate n [])::R) G2:=h3.perm pp
  (refine goM (zgc hb q mr n 0 0 0 none _ rfl) ((show Sep ([HmA hb q mr n,MpA mr (mO none (.gs 0 0 0 0))]++(zaw q m (List.replicate n [])::R)) G2 from h3')) ?_)
  rintro _ _ G4 ⟨y,rfl,hy,rfl⟩ h4
  obtain rfl:=hy rfl
  have h4:Sep (HmA hb q mr n::MpA mr []::SlA 9 .nilS []::zaw q m (List.replicate n [])::R) G4:=h4
  refine goS trivial ?_
  refine goR trivial ?_
  refine W.loop (fun z st=>st=(E [(6,.d .nilS),(22,.d (.int .i64 0)),(23,.d (.int .i64 0))],HB [],σ,G4)) ⟨0,_,zgr,rfl⟩ ?_
  rintro z st rfl
  refine goR trivial ?_
  have h5:Sep (HmA hb q mr n::zaw q m (List.replicate n [])::MpA mr []::SlA 9 .nilS []::R) G4:=h4.perm pp
  exact Fin.eq rfl ⟨rfl,_,⟨_,rfl,fun _=>rfl,rfl⟩,Sep.of_hs0 (h5.cons fun _ h=>h.cons fun _ h=>h.cons fun _ h=>h.tail)⟩
 | some e =>
  obtain ⟨q,mr,bx,cap,c,hct,h2⟩:=Sep.hs1 hs
  have hc:=Sep.get (b:=hb) (cs:=[.gp q 0,.int .i64 n,.mref mr]) h2
  have hcl:=hct.len
  generalize hT:zu e.b.length=T at *
  refine goS trivial ?_
  refine goR hc ?_
  (refine goM (ziz q m c (by omega) 0 (by omega)) (h2.swap) ?_)
  rintro _ _ G2 ⟨rfl,rfl⟩ h3
  have h3:Sep (zaw q m c::HmA hb q mr n::MpA mr [(e.r,eHd e (.gs bx 0 T cap))]::SlA 1 (.gs bx 0 T cap) (aL T)::R) G2:=h3
  have hee:((if c[0]=[] then 8 else 0:Int)=12)=False:=eq_false (by split<;>omega)
  generalize (if c[0]=[] then 8 else 0:Int)=er at *
  refine goS hee ?_
  refine goR hee ?_
  have h3':Sep (HmA hb q mr n::MpA mr [(e.r,eHd e (.gs bx 0 T cap))]::zaw q m c::SlA 1 (.gs bx 0 T cap) (aL T)::R) G2:=h3.perm pp
  (refine goM (zgc hb q mr n bx T cap (some e) _ rfl) ((show Sep ([HmA hb q mr n,MpA mr (mO (some e) (.gs bx 0 T cap))]++(zaw q m c::SlA 1 (.gs bx 0 T cap) (aL T)::R)) G2 from h3')) ?_)
  rintro _ _ G4 ⟨y,rfl,_,rfl⟩ h4
  have h4:Sep (HmA hb q mr n::MpA mr [(e.r,eHd e (.gs bx 0 T cap))]::SlA 9 y [eHd e (.gs bx 0 T cap)]::zaw q m c::SlA 1 (.gs bx 0 T cap) (aL T)::R) G4:=h4
  obtain ⟨by_,capy,cy,hy,hby,hrow⟩:=(Sep.gv h4.tail.tail).inv (by simp)
  have hl1:[eHd e (.gs bx 0 T cap)].length=1:=rfl
  rw [hl1] at hy hrow
  subst hy
  have hf9:9≤cy.length:=hrow.fits (i:=0) (by simp)
  have hidx:List.take 9 cy=(eHd e (.gs bx 0 T cap)).cells:=by have:=hrow.get (i:=0) (by simp);simpa using this
  have hidx:List.take 9 cy=[.int .i64 e.r.k,.int .i64 e.r.o,.int .i64 e.r.n,.int .i64 e.r.p,.int .i64 e.keep,.int .i64 e.til,.int .i64 e.tag,.int .i64 e.b.length,.gs bx 0 T cap]:=hidx
  refine goS trivial ?_
  refine goR trivial ?_
  refine W.loop (fun z st=>∃ (b:Bool) (w:AV) (bk:Blk),z=(if b then 0 else 1)∧(w=.d .nilS∧b=false∨b=true∧∃ es,w=.own 8 es)∧st=(E [(6,w),(21,.d (.gs by_ 0 1 capy)),(22,.d (.int .i64 1)),(23,.d (.int .i64 (if b then 1 else 0)))],HB [(8,bk)],σ,G4))
   ⟨_,_,zby (zhg [] [8] rfl).symm,false,_,_,rfl,.inl ⟨rfl,rfl⟩,rfl⟩ ?_
  rintro z st ⟨b,w,bk,rfl,hw,rfl⟩
  have h5:Sep (HmA hb q mr n::zaw q m c::MpA mr [(e.r,eHd e (.gs bx 0 T cap))]::SlA 1 (.gs bx 0 T cap) (aL T)::SlA 9 (.gs by_ 0 1 capy) [eHd e (.gs bx 0 T cap)]::R) G4:=h4.perm pp
  subst hT
  have h6:=Sep.of_hs1 hct h5
  rcases hw with ⟨rfl,rfl⟩|⟨rfl,es,rfl⟩
  · refine goR (nn hby (nn hf9 hidx)) ?_
    exact zgg.mk ⟨0,_,by simp,zby rfl,true,_,_,rfl,.inr ⟨rfl,_,rfl⟩,rfl⟩
  · refine goR trivial ?_
    exact Fin.eq rfl ⟨rfl,_,⟨_,rfl,fun h=>by simp at h,rfl⟩,h6.cons fun _ h=>h.tail⟩
def zas (tick:Int) (o:Option En):Option En:=match o with|none=>none|some e=>if e.til<tick then none else some e
theorem zna (hb n:Nat) (m:Int) (o:Option En) (tick:Int) (t0:0≤tick) (t1:tick≤1000000) (h1:1≤n) (hn:n≤250) (hm:m≤10000000) :
 zt Try.prog f_zz25 [.gp hb 0,.int .i64 tick] [HsA hb n m o] (fun r post=>∃ y,r=.tup [y,.int .i64 0]∧(∀ e,o=some e→e.til<tick→y=.list [eRf e.r])∧post=[HsA hb n (m+100) (zas tick o)]):=by
 refine zj fol zz25_cp fun R G σ hs=>?_
 have e0:(tick<0)=False:=eq_false (by omega)
 have e1:(1000000<tick)=False:=eq_false (by omega)
 refine goS trivial ?_
 refine goR (nn e0 e1) ?_
 (refine goM (zru hb n m o h1 hn (by omega)) (hs) ?_)
 rintro _ _ G1 ⟨y0,rfl,_,rfl⟩ hs1
 have hs1:Sep (HsA hb n m o::R) G1:=hs1
 refine goS trivial ?_
 refine goR trivial ?_
 cases o with
 | none =>
  obtain ⟨q,mr,h2⟩:=Sep.hs0 hs1
  have h3':Sep (HmA hb q mr n::MpA mr []::zaw q m (List.replicate n [])::R) G1:=h2.perm pp
  (refine goM (zgc hb q mr n 0 0 0 none _ rfl) ((show Sep ([HmA hb q mr n,MpA mr (mO none (.gs 0 0 0 0))]++(zaw q m (List.replicate n [])::R)) G1 from h3')) ?_)
  rintro _ _ G4 ⟨y,rfl,hy,rfl⟩ h4
  obtain rfl:=hy rfl
  have h4:Sep (HmA hb q mr n::MpA mr []::SlA 9 .nilS []::zaw q m (List.replicate n [])::R) G4:=h4
  refine goS trivial ?_
  refine goR trivial ?_
  refine W.loop (fun z st=>st=(E [(8,.d .nilS),(28,.d (.int .i64 0)),(29,.d (.int .i64 0))],HB [],σ,G4)) ⟨0,_,zgr,rfl⟩ ?_
  rintro z st rfl
  refine goR trivial ?_
  have h5:Sep (zaw q m (List.replicate n [])::HmA hb q mr n::MpA mr []::SlA 9 .nilS []::R) G4:=h4.perm pp
  have h6:=(Sep.slt_mono (k:=m+100) (by omega) h5).swap
  exact Fin.eq rfl ⟨rfl,_,⟨_,rfl,fun e he=>by simp at he,rfl⟩,Sep.of_hs0 (h6.cons fun _ h=>h.cons fun _ h=>h.cons fun _ h=>h.tail)⟩
 | some e =>
  obtain ⟨q,mr,bx,cap,c,hct,h2⟩:=Sep.hs1 hs1
  have hcl:=hct.len
  obtain ⟨T,hT⟩:∃ T,T=zu e.b.length:=⟨_,rfl⟩
  rw [← hT] at h2
  have h3':Sep (HmA hb q mr n::MpA mr [(e.r,eHd e (.gs bx 0 T cap))]::zaw q m c::SlA 1 (.gs bx 0 T cap) (aL T)::R) G1:=h2.perm pp
  (refine goM (zgc hb q mr n bx T cap (some e) _ rfl) ((show Sep ([HmA hb q mr n,MpA mr (mO (some e) (.gs bx 0 T cap))]++(zaw q m c::SlA 1 (.gs bx 0 T cap) (aL T)::R)) G1 from h3')) ?_)
  rintro _ _ G4 ⟨y,rfl,_,rfl⟩ h4
  have h4:Sep (HmA hb q mr n::MpA mr [(e.r,eHd e (.gs bx 0 T cap))]::SlA 9 y [eHd e (.gs bx 0 T cap)]::zaw q m c::SlA 1 (.gs bx 0 T cap) (aL T)::R) G4:=h4
  obtain ⟨by_,capy,cy,hy,hby,hrow⟩:=(Sep.gv h4.tail.tail).inv (by simp)
  have hl1:[eHd e (.gs bx 0 T cap)].length=1:=rfl
  rw [hl1] at hy hrow
  subst hy
  have hf9:9≤cy.length:=hrow.fits (i:=0) (by simp)
  have hidx:List.take 9 cy=(eHd e (.gs bx 0 T cap)).cells:=by have:=hrow.get (i:=0) (by simp);simpa using this
  have hidx:List.take 9 cy=[.int .i64 e.r.k,.int .i64 e.r.o,.int .i64 e.r.n,.int .i64 e.r.p,.int .i64 e.keep,.int .i64 e.til,.int .i64 e.tag,.int .i64 e.b.length,.gs bx 0 T cap]:=hidx
  refine goS trivial ?_
  refine goR trivial ?_
  refine W.loop (fun z st=>∃ (b:Bool) (w:AV) (bk:Blk) (G:Gh),z=(if b then 0 else 1) ∧
   (b=false∧w=.d .nilS∧G=G4∨b=true∧∃ y,(w=.d y∧¬ e.til<tick∨∃ es,w=.own 4 es∧y=.list es)∧(e.til<tick→y=.list [eRf e.r])∧Sep (HsA hb n (m+100) (zas tick (some e))::R) G) ∧
   st=(E [(0,.d (.gp hb 0)),(1,.d (.int .i64 tick)),(8,w),(27,.d (.gs by_ 0 1 capy)),(28,.d (.int .i64 1)),(29,.d (.int .i64 (if b then 1 else 0)))],HB [(10,bk)],σ,G))
   ⟨_,_,zby (zhg [] [10] rfl).symm,false,_,_,G4,rfl,.inl ⟨rfl,rfl,rfl⟩,rfl⟩ ?_
  rintro z st ⟨b,w,bk,G5,rfl,hw,rfl⟩
  rcases hw with ⟨rfl,rfl,rfl⟩|⟨rfl,y,hw,hyl,h6⟩
  · by_cases ht:e.til<tick
    · have ht':(tick≤e.til)=False:=eq_false (by omega)
      refine goR (nn hby (nn hf9 (nn hidx ht'))) ?_
      have h5:Sep (HmA hb q mr n::zaw q m c::MpA mr [(e.r,eHd e (.gs bx 0 T cap))]::SlA 1 (.gs bx 0 T cap) (aL T)::SlA 9 (.gs by_ 0 1 capy) [eHd e (.gs bx 0 T cap)]::R) G5:=h4.perm pp
      subst hT
      (refine goM (zof hb q mr n bx cap m e c hct (by omega) hn) (h5) ?_)
      rintro _ _ G6 ⟨rfl,rfl⟩ h6
      have h6:Sep (HmA hb q mr n::zaw q (m+100) (List.replicate n [])::MpA mr []::SlA 9 (.gs by_ 0 1 capy) [eHd e (.gs bx 0 (zu e.b.length) cap)]::R) G6:=h6
      have hp:zas tick (some e)=none:=by unfold zas;simp only;rw [if_pos ht]
      rw [hp]
      have h7:Sep (HsA hb n (m+100) none::R) G6:=Sep.of_hs0 (h6.cons fun _ h=>h.cons fun _ h=>h.cons fun _ h=>h.tail)
      refine goS trivial ?_
      refine goR trivial ?_
      exact zgg.mk ⟨0,_,by simp,zby rfl,true,_,_,_,rfl,.inr ⟨rfl,_,.inr ⟨_,rfl,rfl⟩,fun _=>rfl,h7⟩,rfl⟩
    · have ht':(tick≤e.til)=True:=eq_true (by omega)
      refine goR (nn hby (nn hf9 (nn hidx ht'))) ?_
      have h5:Sep (HmA hb q mr n::zaw q m c::MpA mr [(e.r,eHd e (.gs bx 0 T cap))]::SlA 1 (.gs bx 0 T cap) (aL T)::SlA 9 (.gs by_ 0 1 capy) [eHd e (.gs bx 0 T cap)]::R) G5:=h4.perm pp
      subst hT
      have h6:Sep (HsA hb n (m+100) (some e)::R) G5:=(Sep.hs_mono (by omega) (Sep.of_hs1 hct h5)).cons fun _ h=>h.tail
      have hp:zas tick (some e)=some e:=by unfold zas;simp only;rw [if_neg ht]
      rw [hp]
      exact zgg.mk ⟨0,_,by simp,zby rfl,true,_,_,_,rfl,.inr ⟨rfl,_,.inl ⟨rfl,ht⟩,fun h=>absurd h ht,h6⟩,rfl⟩
  · rcases hw with ⟨rfl,ht⟩|⟨es,rfl,rfl⟩
    · refine goR trivial ?_
      exact Fin.eq rfl ⟨rfl,_,⟨_,rfl,fun e' he h=>by cases he;exact absurd h ht,rfl⟩,h6⟩
    · refine goR trivial ?_
      exact Fin.eq rfl ⟨rfl,_,⟨_,rfl,fun e' he h=>by cases he;exact hyl h,rfl⟩,h6⟩
end Go.Proofs.Ytailhmffljoojaa
