/-
 Layer 22 (slots) on a disk that works: what each call does,by what the slots hold.
 Conditions: of each contract as it says.
-/
import Derived.Test.YtailhmffljoojaaF22x
import Derived.Test.YtailhmffljoojaaS52
import Derived.Test.YtailhmffljoojaaT52h
set_option linter.unusedSimpArgs false
namespace Go.Proofs.Ytailhmffljoojaa
open Go Go.E2 C22
set_option maxHeartbeats 1000000
def zaw (q:Nat) (m:Int) (c:List Str):As:=fun G=>∃ p d,SlD d m c∧zvt [StA q p 0 c.length,zaa p d] G
theorem Sep.slt {q:Nat} {m:Int} {c:List Str} {R:List As} {G:Gh} (h:Sep (zaw q m c::R) G):∃ p d,SlD d m c∧Sep (StA q p 0 c.length::zaa p d::R) G:=by
 obtain ⟨G1,G2,h1,h2,h3,⟨p,d,hd,h4⟩,h5⟩:=h
 exact ⟨p,d,hd,Sep.app (l:=[_,_]) ⟨G1,G2,h1,h2,h3,h4,h5⟩⟩
theorem Sep.of_slt {q p:Nat} {d:Dk} {m:Int} {c:List Str} {R:List As} {G:Gh} (hd:SlD d m c) (h:Sep (StA q p 0 c.length::zaa p d::R) G):Sep (zaw q m c::R) G:=by
 have:=Sep.of_app (l:=[StA q p 0 c.length,zaa p d]) h
 exact this.imp fun G hG=>⟨p,d,hd,hG⟩
theorem ziz (q:Nat) (m:Int) (c:List Str) (hm:m≤600000000) (i:Nat) (hi:i<c.length) :
 zt Try.prog f_zz39 [.gp q 0,.int .i64 i] [zaw q m c] (fun r post=>r=.tup [.str c[i],.int .i64 (if c[i]=[] then 8 else 0)]∧post=[zaw q m c]):=by
 intro R G σ hs
 obtain ⟨p,d,hd,h⟩:=Sep.slt hs
 have hl:=hd.len
 have hmo:=hd.lv.ok.most
 refine (zw4 q p d 0 c.length i (by omega) (by omega) R G σ h).mono fun r σ' G' ⟨h1,post,⟨h2,h3⟩,h4⟩=>⟨h1,_,⟨?_,rfl⟩,?_⟩
 · rw [h2,hd.get (by omega) hi]
   split
   · rename_i e;rw [e]
   · rfl
 · subst h3;exact Sep.of_slt hd h4
theorem zm8 (q:Nat) (m:Int) (c:List Str) (hm:m≤600000000) (i:Nat) (hi:i<c.length) (b:Str) (h1:1≤b.length) (h2:b.length≤55) :
 zt Try.prog f_zz40 [.gp q 0,.int .i64 i,.str b] [zaw q m c] (fun r post=>r=.d (.int .i64 0)∧post=[zaw q (m+6) (c.set i b)]):=by
 intro R G σ hs
 obtain ⟨p,d,hd,h⟩:=Sep.slt hs
 have hl:=hd.len
 have hmo:=hd.lv.ok.most
 have hst:=hd.lv.st
 obtain ⟨k1,k2⟩:=hd.put hm hi h2 h1
 refine (z1e q p d 0 c.length i b (by omega) (by omega) (by omega) R G σ h).mono fun r σ' G' ⟨h1,post,⟨h2,h3⟩,h4⟩=>⟨h1,_,⟨?_,rfl⟩,?_⟩
 · rw [h2,k1]
 · subst h3;exact Sep.of_slt k2 (by rw [List.length_set];exact h4)
theorem ztp (q:Nat) (m:Int) (c:List Str) (hm:m≤600000000) (i:Nat) (hi:i<c.length) :
 zt Try.prog f_zz31 [.gp q 0,.int .i64 i] [zaw q m c] (fun r post=>r=.d (.int .i64 0)∧post=[zaw q (m+6) (c.set i [])]):=by
 intro R G σ hs
 obtain ⟨p,d,hd,h⟩:=Sep.slt hs
 have hl:=hd.len
 have hmo:=hd.lv.ok.most
 have hst:=hd.lv.st
 obtain ⟨k1,k2⟩:=hd.kill hm hi
 refine (zw3 q p d 0 c.length i (by omega) (by omega) (by omega) R G σ h).mono fun r σ' G' ⟨h1,post,⟨h2,h3⟩,h4⟩=>⟨h1,_,⟨?_,rfl⟩,?_⟩
 · rw [h2,k1]
 · subst h3;exact Sep.of_slt k2 (by rw [List.length_set];exact h4)
theorem lvF {n:Nat} (h1:1≤n) (h2:n≤65536):Lv (zdb n) 0:=⟨zl7 h1 h2,rfl,rfl,fun c hc=>by obtain rfl:=(List.mem_replicate.1 hc).2;rfl,by simp [zdb]⟩
theorem zw5 (p:Nat) (d:Dk) (m:Int) (hd:Lv d m) (h0:0≤m) (hm:m≤500000000) (n:Nat) (h1:1≤n) (hl:2 * n≤d.cs.length) :
 zt Try.prog f_zz54 [.gp p 0,.int .i64 0,.int .i64 n] [zaa p d] (fun r post=>r=.d (.int .i64 0)∧∃ d',SlD d' (m+2 * n+1) (List.replicate n [])∧post=[zaa p d']):=by
 intro R G σ hs
 have hst:=hd.st
 obtain ⟨k1,k2⟩:=SlD.fmt hd h0 (by omega) h1 hl
 refine (zl0 p d 0 n (by omega) R G σ hs).mono fun r σ' G' ⟨h1,post,⟨h2,h3⟩,h4⟩=>⟨h1,_,⟨by rw [h2,k1],_,k2,rfl⟩,by subst h3;exact h4⟩
theorem ztq (p:Nat) (d:Dk) (m:Int) (c:List Str) (hd:SlD d m c) (hm:m≤500000000) (h1:1≤c.length) :
 zt Try.prog f_zz60 [.gp p 0,.int .i64 0,.int .i64 c.length] [zaa p d] (fun r post=>∃ q,r=.tup [.gp q 0,.list [],.int .i64 0]∧post=[zaw q m c]):=by
 intro R G σ hs
 have hst:=hd.lv.st
 have ho:=hd.opn (by omega) h1
 refine (ztl p d 0 c.length (by omega) R G σ hs).mono fun r σ' G' ⟨h1,post,h2,h4⟩=>⟨h1,?_⟩
 rw [ho] at h2
 rcases h2 with ⟨_,q,h5,h6⟩|⟨h5,_⟩
 · exact ⟨_,⟨q,h5,rfl⟩,by subst h6;exact Sep.of_slt hd h4⟩
 · exact absurd rfl h5
end Go.Proofs.Ytailhmffljoojaa
namespace Go.Proofs.Ytailhmffljoojaa
open Go Go.E2 C22 C52
set_option maxHeartbeats 1000000
abbrev eRf (r:Rf):D:=.agg [.int .i64 r.k,.int .i64 r.o,.int .i64 r.n,.int .i64 r.p]
theorem zw6:zpj [.i,.i,.i,.i] eRf :=
 ⟨fun a b=>by
   obtain ⟨a1,a2,a3,a4⟩:=a;obtain ⟨b1,b2,b3,b4⟩:=b
   simp only [D.cells];rw [zep,zep,zep,zep];simp [zg,and_assoc],fun _ _=>rfl,fun _=>rfl⟩
abbrev eHd (e:En) (x:D):D:=.agg [.int .i64 e.r.k,.int .i64 e.r.o,.int .i64 e.r.n,.int .i64 e.r.p,.int .i64 e.keep,.int .i64 e.til,.int .i64 e.tag,.int .i64 e.b.length,x]
def mO (o:Option En) (x:D):List (Rf×D):=match o with|none=>[]|some e=>[(e.r,eHd e x)]
def tO (o:Option En):Nat:=match o with|none=>0|some e=>zu e.b.length
def aL (t:Nat):List D:=(List.range t).map fun i:Nat=>D.int .i64 i
def HmA (hb q mr:Nat) (n:Nat):As:=ze hb [.gp q 0,.int .i64 n,.mref mr]
abbrev MpA (mr:Nat) (m:List (Rf×D)):As:=zl9 [.i,.i,.i,.i] eRf id mr m
def HsA (hb:Nat) (n:Nat) (m:Int) (o:Option En):As:=fun G=>∃ q mr x c,zmc n o c∧zvt [HmA hb q mr n,zaw q m c,MpA mr (mO o x),SlA 1 x (aL (tO o))] G
theorem Sep.hs {hb n:Nat} {m:Int} {o:Option En} {R:List As} {G:Gh} (h:Sep (HsA hb n m o::R) G):∃ q mr x c,zmc n o c∧Sep (HmA hb q mr n::zaw q m c::MpA mr (mO o x)::SlA 1 x (aL (tO o))::R) G:=by
 obtain ⟨G1,G2,h1,h2,h3,⟨q,mr,x,c,hc,h4⟩,h5⟩:=h
 exact ⟨q,mr,x,c,hc,Sep.app (l:=[_,_,_,_]) ⟨G1,G2,h1,h2,h3,h4,h5⟩⟩
theorem Sep.of_hs {hb q mr n:Nat} {m:Int} {x:D} {c:List Str} {o:Option En} {R:List As} {G:Gh} (hc:zmc n o c) (h:Sep (HmA hb q mr n::zaw q m c::MpA mr (mO o x)::SlA 1 x (aL (tO o))::R) G):Sep (HsA hb n m o::R) G :=
 (Sep.of_app (l:=[HmA hb q mr n,zaw q m c,MpA mr (mO o x),SlA 1 x (aL (tO o))]) h).imp fun G hG=>⟨q,mr,x,c,hc,hG⟩
theorem Sep.slt_mono {q:Nat} {m k:Int} {c:List Str} {R:List As} {G:Gh} (hk:m≤k) (h:Sep (zaw q m c::R) G):Sep (zaw q k c::R) G :=
 h.imp fun _ ⟨p,d,hd,h⟩=>⟨p,d,hd.mono hk,h⟩
theorem Sep.hs_mono {hb n:Nat} {m k:Int} {o:Option En} {R:List As} {G:Gh} (hk:m≤k) (h:Sep (HsA hb n m o::R) G):Sep (HsA hb n k o::R) G:=by
 obtain ⟨q,mr,x,c,hc,h1⟩:=Sep.hs h
 exact Sep.of_hs hc ((Sep.slt_mono hk h1.swap).swap)
def uL (n t:Nat):List D:=List.replicate t (.bool true)++List.replicate (n - t) (.bool false)
theorem zff {n t:Nat} (h:t≤n):(uL n t).length=n:=by simp [uL];omega
theorem zrp (n t:Nat):(uL n t).all (za 1)=true:=by
 rw [List.all_eq_true];intro x hx
 simp only [uL,List.mem_append,List.mem_replicate] at hx
 rcases hx with ⟨_,rfl⟩|⟨_,rfl⟩<;>rfl
theorem z1f {n t i:Nat} (hi:i<n) (ht:t≤n):(uL n t)[i]'(by rw [zff ht];exact hi)=.bool (decide (i<t)):=by
 unfold uL
 by_cases h:i<t
 · rw [List.getElem_append_left (by simpa using h)];simp [h]
 · rw [List.getElem_append_right (by simpa using h)];simp [h]
theorem z1g {n t:Nat} (ht:t<n):(uL n t).set t (.bool true)=uL n (t+1):=by
 unfold uL
 rw [List.set_append_right _ _ (by simp),List.length_replicate,Nat.sub_self]
 obtain ⟨k,hk⟩:∃ k,n - t=k+1:=⟨n - t - 1,by omega⟩
 have e:n - (t+1)=k:=by omega
 rw [hk,e,List.replicate_succ,List.set_cons_zero,List.replicate_succ',List.append_assoc]
 rfl
theorem zbb (t:Nat):(aL t).length=t:=by simp [aL]
theorem z1h {t i:Nat} (hi:i<t):(aL t)[i]'(by rw [zbb];exact hi)=.int .i64 i:=by simp [aL]
theorem zmc.took {n:Nat} {o:Option En} {c:List Str} (h:zmc n o c):tO o≤n:=by
 cases o with
 | none=>exact Nat.zero_le _
 | some e=>exact h.2.2.1
end Go.Proofs.Ytailhmffljoojaa
namespace Go.Proofs.Ytailhmffljoojaa
open Go Go.E2 C22 C52
set_option maxHeartbeats 1000000
theorem z8z (n:Nat):rep n [.bool false]=uL n 0:=by simp [rep,uL]
theorem z6m {n:Nat}:Row 1 n n (uL n 0) (uL n 0):=by
 have h:=Row.mk' (sz:=1) (n:=n) (cap:=n) (es:=uL n 0) (rest:=[]) (zff (Nat.zero_le _)) (zrp _ _) (Nat.le_refl _) (by rw [List.append_nil,zo (zrp _ _),zff (Nat.zero_le _)];exact Nat.le_refl _)
 have e:flat (uL n 0)=uL n 0:=by
  have:∀ l:List D,(∀ x∈l,x.cells=[x])→flat l=l:=fun l=>by
   induction l with
   | nil=>intro _;rfl
   | cons x l ih=>intro h;rw [zw,h x List.mem_cons_self,ih fun y hy=>h y (List.mem_cons_of_mem _ hy)];rfl
  refine this _ fun x hx=>?_
  have:=List.all_eq_true.1 (zrp n 0) x hx
  simp only [uL,List.mem_append,List.mem_replicate] at hx
  rcases hx with ⟨_,rfl⟩|⟨_,rfl⟩<;>rfl
 rw [List.append_nil,e] at h
 exact h
theorem zew {T cap k:Nat} {cs:List D} (h:Row 1 T cap (aL T) cs) (hk:k<T):(cs.drop (k * 1)).head?=some (.int .i64 k):=by
 have:=h.get1 (i:=k) (j:=0) (by rw [zbb];exact hk) (by omega)
 rw [z1h hk,Nat.add_zero] at this
 exact this
theorem zw7 {n t cap k:Nat} {cs:List D} (h:Row 1 n cap (uL n t) cs) (ht:t≤n) (hk:k<n):(cs.drop (k * 1)).head?=some (.bool (decide (k<t))):=by
 have:=h.get1 (i:=k) (j:=0) (by rw [zff ht];exact hk) (by omega)
 rw [z1f hk ht,Nat.add_zero] at this
 exact this
def FrA (b1 n t:Nat):As:=fun G=>∃ u cap,zvt [ze b1 [.gs u 0 n cap],SlA 1 (.gs u 0 n cap) (uL n t)] G
theorem Sep.fr {b1 n t:Nat} {R:List As} {G:Gh} (h:Sep (FrA b1 n t::R) G):∃ u cap,Sep (ze b1 [.gs u 0 n cap]::SlA 1 (.gs u 0 n cap) (uL n t)::R) G:=by
 obtain ⟨G1,G2,h1,h2,h3,⟨u,cap,h4⟩,h5⟩:=h
 exact ⟨u,cap,Sep.app (l:=[_,_]) ⟨G1,G2,h1,h2,h3,h4,h5⟩⟩
theorem Sep.of_fr {b1 n t u cap:Nat} {R:List As} {G:Gh} (h:Sep (ze b1 [.gs u 0 n cap]::SlA 1 (.gs u 0 n cap) (uL n t)::R) G):Sep (FrA b1 n t::R) G :=
 (Sep.of_app (l:=[ze b1 [.gs u 0 n cap],SlA 1 (.gs u 0 n cap) (uL n t)]) h).imp fun _ hG=>⟨u,cap,hG⟩
theorem zrq (hb n q mr:Nat) (hn:n≤250) (o:Option En) (x:D) (ho:tO o≤n) (h1:∀ e,o=some e→0<tO o) :
 zt Try.prog f_zz27 [.gp hb 0] [HmA hb q mr n,MpA mr (mO o x),SlA 1 x (aL (tO o))] (fun r post=>∃ b1,r=.d (.clo f_zz15 [.gp b1 0])∧post=[HmA hb q mr n,MpA mr (mO o x),SlA 1 x (aL (tO o)),FrA b1 n (tO o)]):=by
 refine zj fol zz27_cp fun R G σ hs=>?_
 have hs:Sep (HmA hb q mr n::MpA mr (mO o x)::SlA 1 x (aL (tO o))::R) G:=hs
 have hc:=Sep.get (b:=hb) (cs:=[.gp q 0,.int .i64 n,.mref mr]) hs
 refine goS trivial ?_
 refine goR hc ?_
 refine zlh (by omega) ?_
 refine zat fun u hu=>?_
 refine goS trivial ?_
 refine goR trivial ?_
 refine zat fun b1 hb1=>?_
 have hs1:Sep (ze u (rep n [.bool false])::HmA hb q mr n::MpA mr (mO o x)::SlA 1 x (aL (tO o))::R) (G.set u (some (rep n [.bool false]))):=Sep.new hu hs
 rw [z8z] at hs1 hb1 ⊢
 have hs2:=Sep.new (cs:=[.nilS]) hb1 hs1
 have hs3:=hs2.set (cs':=[.gs u 0 n n])
 have hs4:=(hs3.cons fun _ h=>Sep.toSl h z6m)
 rw [Gh.set_set] at hs4
 have hc4:=hs4.f3.get
 simp only [Gh.set_c] at hc4
 refine goS trivial ?_
 refine goR hc4 ?_
 generalize (G.set u (some (uL n 0))).set b1 (some [D.gs u 0 n n])=G2 at hs4 ⊢
 have hs5:Sep (MpA mr (mO o x)::ze b1 [.gs u 0 n n]::SlA 1 (.gs u 0 n n) (uL n 0)::HmA hb q mr n::SlA 1 x (aL (tO o))::R) G2:=hs4.perm pp
 refine zms (Sep.map hs5) fun it X hit hr=>?_
 have hs6:=Sep.rngNew hs5 hit hr
 generalize G2.setM it (some X)=G3 at hs6 ⊢
 refine goS trivial ?_
 refine goR trivial ?_
 refine W.loop (fun z st=>∃ (b:Bool) (b5:Blk) (G:Gh),z=(if b then 0 else 1) ∧
  Sep (zmu [.i,.i,.i,.i] eRf id mr it (mO o x) (if b then (mO o x).map (·.1) else [])::ze b1 [.gs u 0 n n]::SlA 1 (.gs u 0 n n) (uL n (if b then tO o else 0))::HmA hb q mr n::SlA 1 x (aL (tO o))::R) G ∧
  st=(E [(0,.d (.gp hb 0)),(3,.d (.gp b1 0)),(17,.d (.gp it 0))],HB [(5,b5)],σ,G))
  ⟨_,_,zby (zhg [] [5] rfl).symm,false,_,G3,rfl,hs6,rfl⟩ ?_
 rintro z st ⟨b,b5,G4,rfl,hs7,rfl⟩
 refine goR trivial ?_
 refine zmt (Sep.rngl hs7) (fun hall=>?_) (fun a v X' hav hns hr' hent=>?_)
 · have hb':(if b then tO o else 0)=tO o:=by
    cases b with
    | true=>rfl
    | false =>
     cases o with
     | none=>rfl
     | some e=>exact absurd (hall (e.r,eHd e x) (by simp [mO])) (by simp)
   rw [hb'] at hs7
   have hc7:=hs7.tail.get
   refine goS trivial ?_
   (refine goX hc7 ?_;(repeat' (with_reducible apply Br.mk<;>intro _)))
   have hs8:Sep (ze b1 [.gs u 0 n n]::SlA 1 (.gs u 0 n n) (uL n (tO o))::HmA hb q mr n::MpA mr (mO o x)::SlA 1 x (aL (tO o))::R) G4:=(Sep.rngEnd hs7).perm pp
   have hs9:Sep (HmA hb q mr n::MpA mr (mO o x)::SlA 1 x (aL (tO o))::FrA b1 n (tO o)::R) G4:=(Sep.of_fr hs8).perm pp
   exact Fin.eq rfl ⟨rfl,_,⟨b1,rfl,rfl⟩,hs9⟩
 · obtain ⟨e,rfl⟩:∃ e,o=some e:=by
    cases o with
    | none=>simp [mO] at hav
    | some e=>exact ⟨e,rfl⟩
   obtain ⟨rfl,rfl⟩:a=e.r∧v=eHd e x:=by simpa [mO] using hav
   cases b with
   | true=>exact absurd (by simp [mO]) hns
   | false =>
   have hs8:=Sep.rngSet (.inr rfl) hs7 hr'
   generalize G4.setM it (some X')=G5 at hs8 hent ⊢
   simp only [Bool.false_eq_true,if_false,List.nil_append] at hs8
   have ht:=h1 e rfl
   generalize htt:tO (some e)=T at *
   have hs9:Sep (SlA 1 x (aL T)::ze b1 [.gs u 0 n n]::SlA 1 (.gs u 0 n n) (uL n 0)::HmA hb q mr n::zmu [.i,.i,.i,.i] eRf id mr it (mO (some e) x) [e.r]::R) G5:=hs8.perm pp
   have hne:aL T≠[]:=by
    intro h
    have:=congrArg List.length h
    rw [zbb] at this
    simp at this
    omega
   obtain ⟨bx,cap,cs,hx,hbx,hrow⟩:=(Sep.gv hs9).inv hne
   rw [zbb] at hx hrow
   subst hx
   simp only [id_eq] at hent ⊢
   refine goS hent ?_
   refine goR hent ?_
   refine W.loop (fun z st=>∃ (k:Nat) (b7:AV) (b5:Blk) (G:Gh),k≤T∧z=T - k ∧
    Sep (SlA 1 (.gs bx 0 T cap) (aL T)::ze b1 [.gs u 0 n n]::SlA 1 (.gs u 0 n n) (uL n k)::HmA hb q mr n::zmu [.i,.i,.i,.i] eRf id mr it (mO (some e) (.gs bx 0 T cap)) [e.r]::R) G ∧
    st=(E [(0,.d (.gp hb 0)),(3,.d (.gp b1 0)),(17,.d (.gp it 0)),(23,.d (.gs bx 0 T cap)),(24,.d (.int .i64 T)),(25,.d (.int .i64 k))],HB [(5,b5)],σ,G))
    ⟨_,_,zby rfl,0,.undef,_,G5,by omega,rfl,hs9,rfl⟩ ?_
   clear hs9 hs8 hs7 hs6 hs5 hs4 hs3 hs2 hs1 hbx hent
   rintro z st ⟨k,b7,b5,G6,hk,rfl,hs9,rfl⟩
   refine goR trivial ?_
   refine zdt (fun h4=>?_) (fun h4=>?_)
   · have hk':k<T:=by omega
     obtain ⟨bx',cap',cs',hx',hbx',hrow'⟩:=(Sep.gv hs9).inv hne
     rw [zbb] at hx' hrow'
     cases hx'
     have hread:=zew hrow' hk'
     have hc9:=hs9.tail.tail.tail.get
     have hb9:=hs9.tail.get
     obtain ⟨bu,capu,csu,hxu,hbu,hrowu⟩:=(Sep.gv hs9.tail.tail).inv (by intro h;have:=congrArg List.length h;rw [zff (by omega)] at this;simp at this;omega)
     rw [zff (by omega)] at hxu hrowu
     cases hxu
     have hkn:(k:Int)<(n:Int):=by omega
     have hfit:=hrowu.fits (i:=k) (by rw [zff (by omega)];omega)
     have hfit2:k * 1+1≤csu.length:=hfit
     have hkn2:k<n:=by omega
     refine goR (nn hbx' (nn hread (nn hc9 (nn hb9 (nn hbu (nn hkn (nn hfit2 hkn2))))))) ?_
     have zma:=hrowu.set (i:=k) (x:=.bool true) (by rw [zff (by omega)];omega) rfl
     rw [z1g hkn2] at zma
     have hA:Sep (SlA 1 (.gs u 0 n n) (uL n (k+1))::SlA 1 (.gs bx 0 T cap) (aL T)::ze b1 [.gs u 0 n n]::HmA hb q mr n::zmu [.i,.i,.i,.i] eRf id mr it (mO (some e) (.gs bx 0 T cap)) [e.r]::R) (G6.set u (some (List.take (k * 1) csu++[D.bool true]++List.drop (k * 1+1) csu))) :=
      Sep.slSet (hs9.perm pp) zma
     exact zgg.mk ⟨T - (k+1),_,by omega,zby rfl,k+1,.undef,_,_,by omega,rfl,hA.perm pp,rfl⟩
   · have e1:k=T:=by omega
     subst e1
     have hA:Sep (zmu [.i,.i,.i,.i] eRf id mr it (mO (some e) (.gs bx 0 k cap)) [e.r]::ze b1 [.gs u 0 n n]::SlA 1 (.gs u 0 n n) (uL n k)::HmA hb q mr n::SlA 1 (.gs bx 0 k cap) (aL k)::R) G6:=hs9.perm pp
     refine goR trivial ?_
     exact zgg.mk ⟨0,_,by simp,zby rfl,true,_,_,rfl,hA,rfl⟩
end Go.Proofs.Ytailhmffljoojaa
