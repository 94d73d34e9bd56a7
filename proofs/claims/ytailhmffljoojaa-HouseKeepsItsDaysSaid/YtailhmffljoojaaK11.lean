/-
 Layer 52 (house),continued: a request.
 Conditions: of each contract as it says.
-/
import Derived.Test.YtailhmffljoojaaK10
set_option linter.unusedSimpArgs false
namespace Go.Proofs.Ytailhmffljoojaa
open Go Go.E2 C22 C52
set_option maxHeartbeats 1000000
section
variable {P:Program} {K:St→Prop} {ρ:Env} {L:Hp} {σ:List Hp} {G:Gh}
theorem z6o {d:Option Nat} {f:AO} {args:List AO} {g:FuncId} {xs:List D} {pre R:List As} {Q:AV→List As→Prop} {h:zk K}
 (hc:zt P g xs pre Q) (hs:Sep (pre++R) G) (ht:target (ev ρ f)=some (g,[])∧zq ρ args=some xs)
 (hK:∀ r post G',Q r post→Sep (post++R) G'→K (put ρ d r,L,σ,G')):wC P d f args 4 ρ L σ G h:=by
 show zcv P d f args 4 ρ L σ G K
 unfold zcv
 rw [ht.1]
 simp only
 rw [if_neg (by omega),if_pos (by omega),List.append_nil,zds ht.2]
 exact (hc R G (L::σ) hs).mono fun r lv G' ⟨h1,post,h2,h3⟩=>⟨h1,fun e=>(by cases e),hK r post G' h2 h3⟩
end
def z76:Int→FuncId
 | 1=>f_zz36
 | 2=>f_zz35
 | 3=>f_zz26
 | _=>f_zz28
theorem ztt (hb n:Nat) (m:Int) (o:Option En) (tick:Int) (a:Ask) (u v:List D) (Q:Int→Str→List As→Prop) (t0:0≤tick) (t1:tick≤1000000) (h1:1≤n) (hn:n≤250) (hm:m≤1000000) (hk:1≤a.kind∧a.kind≤4) (hp:Pos a.r)
 (hcall:zt Try.prog (z76 a.kind) [.gp hb 0,.int .i64 tick,eA a u v] [HsA hb n (m+100) (zas tick o)] (fun r post=>∃ e b,r=.d (eSy e b)∧Q e b post)) :
 zt Try.prog f_zz47 [.gp hb 0,.int .i64 tick,eA a u v] [HsA hb n m o] (fun r post=>∃ e b,r=.d (eSy e b)∧Q e b post):=by
 refine zj fol zz47_cp fun R G σ hs=>?_
 have hps:=zi3 a.r
 rw [decide_eq_true hp] at hps
 have k5:(5<a.kind)=False:=eq_false (by omega)
 have k1:(a.kind<1)=False:=eq_false (by omega)
 have k6:(a.kind=5)=False:=eq_false (by omega)
 refine goS trivial ?_
 refine goR trivial ?_
 (refine goM (zna hb n m o tick t0 t1 h1 hn (by omega)) (hs) ?_)
 rintro _ _ G1 ⟨y,rfl,_,rfl⟩ hs1
 have hdh:(List.drop (a.kind.toNat * 1) [D.nilF,D.fn f_zz36,D.fn f_zz35,D.fn f_zz26,D.fn f_zz28,D.fn f_zz20]).head?=some (.fn (z76 a.kind)):=by
  rcases (by omega:a.kind=1∨a.kind=2∨a.kind=3∨a.kind=4) with e|e|e|e<;>rw [e]<;>rfl
 refine goS trivial ?_
 (refine zd5 (nn k1 (nn k5 (nn k6 hdh))) (hps) ?_;(repeat' (with_reducible apply Br.mk<;>intro _)))
 refine z6o hcall hs1 goD ?_
 rintro _ post G2 ⟨e,b,rfl,hq⟩ hs2
 refine goS trivial ?_
 refine goR trivial ?_
 exact Fin.eq rfl ⟨rfl,_,⟨e,b,rfl,hq⟩,hs2⟩
theorem z6p (hb n:Nat) (m:Int) (o:Option En) (tick:Int) (a:Ask) (u v:List D) (t0:0≤tick) (t1:tick≤1000000) (h1:1≤n) (hn:n≤250) (hm:m≤1000000) (hk:1≤a.kind∧a.kind≤4) (hp:¬ Pos a.r) :
 zt Try.prog f_zz47 [.gp hb 0,.int .i64 tick,eA a u v] [HsA hb n m o] (fun r post=>r=.d (eSy 1 [])∧post=[HsA hb n (m+100) (zas tick o)]):=by
 refine zj fol zz47_cp fun R G σ hs=>?_
 have hps:=zi3 a.r
 rw [decide_eq_false hp] at hps
 have k5:(5<a.kind)=False:=eq_false (by omega)
 have k1:(a.kind<1)=False:=eq_false (by omega)
 have k6:(a.kind=5)=False:=eq_false (by omega)
 refine goS trivial ?_
 refine goR trivial ?_
 (refine goM (zna hb n m o tick t0 t1 h1 hn (by omega)) (hs) ?_)
 rintro _ _ G1 ⟨y,rfl,_,rfl⟩ hs1
 refine goS trivial ?_
 (refine zki (nn k1 (nn k5 k6)) (hps) (zak 1) ?_;(repeat' (with_reducible apply Br.mk<;>intro _)))
 exact Fin.eq rfl ⟨rfl,_,⟨rfl,rfl⟩,hs1⟩
theorem zt.args {P:Program} {f:FuncId} {xs ys:List D} {pre:List As} {Q:AV→List As→Prop} (h:zt P f ys pre Q) (hl:zga xs ys):zt P f xs pre Q :=
 fun R G σ hs=>(h R G σ hs).args hl
abbrev eA0 (a:Ask):D:=.agg [.int .i64 a.kind,.int .i64 a.r.k,.int .i64 a.r.o,.int .i64 a.r.n,.int .i64 a.r.p,.int .i64 a.keep,.int .i64 a.til,.int .i64 a.tag,.str a.b,.int .i64 a.frm,.int .i64 a.cnt,.int .i64 a.wid,.nilS,.nilS]
theorem zhm (hb:Nat) (tick:Int) (a:Ask):zga [.gp hb 0,.int .i64 tick,eA0 a] [.gp hb 0,.int .i64 tick,eA a [] []]:=by
 refine ⟨rfl,fun j x y hx hy=>?_⟩
 match j with
 | 0=>cases hx;cases hy;exact .inl rfl
 | 1=>cases hx;cases hy;exact .inl rfl
 | 2=>cases hx;cases hy;exact .inr rfl
 | j+3=>simp at hx
theorem zcj (hb n:Nat) (m:Int) (o:Option En) (tick:Int) (a:Ask) (t0:0≤tick) (t1:tick≤1000000) (h1:1≤n) (hn:n≤250) (hm:m≤1000000) (hk:a.kind=2) (hp:Pos a.r) :
 zt Try.prog f_zz47 [.gp hb 0,.int .i64 tick,eA0 a] [HsA hb n m o] (fun r post=>r=.d (eSy (zgh (zas tick o) a).1 (zgh (zas tick o) a).2)∧post=[HsA hb n (m+100) (zas tick o)]):=by
 refine zt.args ?_ (zhm hb tick a)
 have h:=ztt hb n m o tick a [] [] (fun e b post=>e=(zgh (zas tick o) a).1∧b=(zgh (zas tick o) a).2∧post=[HsA hb n (m+100) (zas tick o)]) t0 t1 h1 hn hm (by omega) hp (by
  rw [hk]
  exact fun R G σ hs=>(z1p hb n (m+100) (zas tick o) tick a [] [] h1 hn (by omega) R G σ hs).mono fun r lv G' ⟨e1,post,⟨e2,e3⟩,e4⟩=>⟨e1,post,⟨_,_,e2,rfl,rfl,e3⟩,e4⟩)
 exact fun R G σ hs=>(h R G σ hs).mono fun r lv G' ⟨e1,post,⟨e,b,e2,e5,e6,e3⟩,e4⟩=>⟨e1,post,⟨by rw [e2,e5,e6],e3⟩,e4⟩
theorem zdz (hb n:Nat) (m:Int) (o:Option En) (tick:Int) (a:Ask) (t0:0≤tick) (t1:tick≤1000000) (h1:1≤n) (hn:n≤250) (hm:m≤1000000) (hk:a.kind=3) (hp:Pos a.r) :
 zt Try.prog f_zz47 [.gp hb 0,.int .i64 tick,eA0 a] [HsA hb n m o] (fun r post=>r=.d (eSy (zed (zas tick o) tick a).1 [])∧post=[HsA hb n (m+200) (zed (zas tick o) tick a).2]):=by
 refine zt.args ?_ (zhm hb tick a)
 have h:=ztt hb n m o tick a [] [] (fun e b post=>e=(zed (zas tick o) tick a).1∧b=[]∧post=[HsA hb n (m+200) (zed (zas tick o) tick a).2]) t0 t1 h1 hn hm (by omega) hp (by
  rw [hk]
  exact fun R G σ hs=>(zxh hb n (m+100) (zas tick o) tick a [] [] hn (by omega) R G σ hs).mono fun r lv G' ⟨e1,post,⟨e2,e3⟩,e4⟩=>⟨e1,post,⟨_,_,e2,rfl,rfl,by rw [e3,Int.add_assoc];rfl⟩,e4⟩)
 exact fun R G σ hs=>(h R G σ hs).mono fun r lv G' ⟨e1,post,⟨e,b,e2,e5,e6,e3⟩,e4⟩=>⟨e1,post,⟨by rw [e2,e5,e6],e3⟩,e4⟩
theorem zl3 (hb n:Nat) (m:Int) (o:Option En) (tick:Int) (a:Ask) (t0:0≤tick) (t1:tick≤1000000) (h1:1≤n) (hn:n≤250) (hm:m≤1000000) (hk:a.kind=4) (hp:Pos a.r) (hsm:∀ e,zas tick o=some e→Sml e) :
 zt Try.prog f_zz47 [.gp hb 0,.int .i64 tick,eA0 a] [HsA hb n m o] (fun r post=>r=.d (eSy (zj4 (zas tick o) a).1 [])∧post=[HsA hb n (m+200) (zj4 (zas tick o) a).2]):=by
 refine zt.args ?_ (zhm hb tick a)
 have h:=ztt hb n m o tick a [] [] (fun e b post=>e=(zj4 (zas tick o) a).1∧b=[]∧post=[HsA hb n (m+200) (zj4 (zas tick o) a).2]) t0 t1 h1 hn hm (by omega) hp (by
  rw [hk]
  exact fun R G σ hs=>(zxi hb n (m+100) (zas tick o) tick a [] [] hn (by omega) hsm R G σ hs).mono fun r lv G' ⟨e1,post,⟨e2,e3⟩,e4⟩=>⟨e1,post,⟨_,_,e2,rfl,rfl,by rw [e3,Int.add_assoc];rfl⟩,e4⟩)
 exact fun R G σ hs=>(h R G σ hs).mono fun r lv G' ⟨e1,post,⟨e,b,e2,e5,e6,e3⟩,e4⟩=>⟨e1,post,⟨by rw [e2,e5,e6],e3⟩,e4⟩
theorem ze8 (hb n:Nat) (m:Int) (o:Option En) (tick:Int) (a:Ask) (u v:List D) (t0:0≤tick) (t1:tick≤1000000) (h1:1≤n) (hn:n≤250) (hm:m≤1000000) (hk:a.kind=1) (hp:Pos a.r) (h0:ze7 n (zas tick o) tick a=0→zas tick o=none) :
 zt Try.prog f_zz47 [.gp hb 0,.int .i64 tick,eA a u v] [HsA hb n m o] (fun r post=>r=.d (eSy (ze7 n (zas tick o) tick a) [])∧post=[HsA hb n (m+200) (if ze7 n (zas tick o) tick a=0 then some (enA a) else zas tick o)]):=by
 have h:=ztt hb n m o tick a u v (fun e b post=>e=ze7 n (zas tick o) tick a∧b=[]∧post=[HsA hb n (m+200) (if ze7 n (zas tick o) tick a=0 then some (enA a) else zas tick o)]) t0 t1 h1 hn hm (by omega) hp (by
  rw [hk]
  exact fun R G σ hs=>(zw8 hb n (m+100) (zas tick o) tick a u v h1 hn (by omega) hp h0 R G σ hs).mono fun r lv G' ⟨e1,post,⟨e2,e3⟩,e4⟩=>⟨e1,post,⟨_,_,e2,rfl,rfl,by rw [e3,Int.add_assoc];rfl⟩,e4⟩)
 exact fun R G σ hs=>(h R G σ hs).mono fun r lv G' ⟨e1,post,⟨e,b,e2,e5,e6,e3⟩,e4⟩=>⟨e1,post,⟨by rw [e2,e5,e6],e3⟩,e4⟩
end Go.Proofs.Ytailhmffljoojaa
