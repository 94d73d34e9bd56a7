/-
 Operations on maps and on blocks that may change,as a whole.
 Conditions: none;laws.
-/
import Derived.Test.YtailhmffljoojaaEO11
namespace Go.E2
open Go.MapKept
section
variable {S:Stb} {ms:List (Nat→Nat)} {ow:Nat→Option Nat} {base:Nat} {O:Nat→Prop} {ρ:Env} {L:Hp} {σ:List Hp} {G:Gh} {a:Act} {w:World} {c:Ctx} {P:Program}
theorem zm3 (ht:zet S (L::σ) ms ρ a) {p:Option Operand} {ps:List (Option Operand)} {xs:List AO} (hx:zvk (p::ps)=some xs) {ds ds':List D} (hd:zq ρ xs=some ds) {dflt:Nat} {n:Int} (ho:znf p.isSome dflt ds=some (n,ds')) :
 ∃ xs',zvk ps=some xs'∧zq ρ xs'=some ds'∧((p=none∧n=dflt)∨∃ q k,p=some q∧a.eval q=.int k n):=by
 cases p with
 | none =>
  simp only [zvk] at hx
  unfold znf at ho
  simp at ho
  split at ho
  · simp at ho;obtain ⟨rfl,rfl⟩:=ho;exact ⟨xs,hx,hd,.inl ⟨rfl,rfl⟩⟩
  · simp at ho;obtain ⟨rfl,rfl⟩:=ho;exact ⟨xs,hx,hd,.inl ⟨rfl,rfl⟩⟩
 | some q =>
  simp only [zvk] at hx
  split at hx
  · rename_i y ys hy hys
    cases hx
    obtain ⟨d,ds1,rfl,h1,h2⟩:=zm hd
    unfold znf at ho
    simp at ho
    split at ho
    · rename_i k m r e
      cases e
      simp at ho
      obtain ⟨rfl,rfl⟩:=ho
      exact ⟨ys,hys,h2,.inr ⟨q,k,rfl,(zap ht hy h1).int_inv⟩⟩
    · simp at ho
  · cases hx
theorem zje {n:Nat} {lo hi mx:Option Operand} {l h m:Int} (hl:(lo=none∧l=(0:Nat))∨∃ q k,lo=some q∧a.eval q=.int k l) (hh:(hi=none∧h=n)∨∃ q k,hi=some q∧a.eval q=.int k h)
 (hm:(mx=none∧m=n)∨∃ q k,mx=some q∧a.eval q=.int k m) (hmx:(mx.isSome && hi.isNone)=false) (h0:0≤l) (h1:l≤h) (h2:h≤m) (h3:m≤n) :
 (Instr.sliceBounds false n n (lo.map a.eval) (hi.map a.eval) (mx.map a.eval)).run P w=.ok (l.toNat,h.toNat,m.toNat) w:=by
 have bnd:∀ {k:IntKind} {x:Int} {y:Nat} {code:BoundsCode},0≤x→x≤y→(Instr.sliceBound (.int k x) y code).run P w=.ok x.toNat w:=fun a b=>za8 a b
 rcases hm with ⟨rfl,rfl⟩|⟨qm,km,rfl,em⟩
 · rcases hh with ⟨rfl,rfl⟩|⟨qh,kh,rfl,eh⟩
   · rcases hl with ⟨rfl,rfl⟩|⟨ql,kl,rfl,el⟩
     · simp [Instr.sliceBounds]
     · simp [Instr.sliceBounds,el,bnd h0 h1]
   · have eH:∀ code,(Instr.sliceBound (.int kh h) n code).run P w=.ok h.toNat w:=fun code=>bnd (by omega) h2
     rcases hl with ⟨rfl,rfl⟩|⟨ql,kl,rfl,el⟩
     · simp [Instr.sliceBounds,eh,eH]
     · have eL:∀ code,(Instr.sliceBound (.int kl l) h.toNat code).run P w=.ok l.toNat w:=fun code=>bnd h0 (by omega)
       simp [Instr.sliceBounds,eh,eH,el,eL]
 · have eM:∀ code,(Instr.sliceBound (.int km m) n code).run P w=.ok m.toNat w:=fun code=>bnd (by omega) h3
   rcases hh with ⟨rfl,rfl⟩|⟨qh,kh,rfl,eh⟩
   · simp at hmx
   · have eH:∀ code,(Instr.sliceBound (.int kh h) m.toNat code).run P w=.ok h.toNat w:=fun code=>bnd (by omega) (by omega)
     rcases hl with ⟨rfl,rfl⟩|⟨ql,kl,rfl,el⟩
     · simp [Instr.sliceBounds,em,eM,eh,eH]
     · have eL:∀ code,(Instr.sliceBound (.int kl l) h.toNat code).run P w=.ok l.toNat w:=fun code=>bnd h0 (by omega)
       simp [Instr.sliceBounds,em,eM,eh,eH,el,eL]
theorem ziv (ht:zet S (L::σ) ms ρ a):∀ (ps:List Operand) (xs:List AO) (ds:List D),cOs ps=some xs→zq ρ xs=some ds→zx S ds (ps.map a.eval)
 | [],xs,ds,h,hd=>by simp [cOs] at h;subst h;have:=z9 hd;subst this;exact zx.nil
 | p::ps,xs,ds,h,hd=>by
   simp only [cOs] at h
   split at h
   · rename_i y ys hy hys
     cases h
     obtain ⟨d,ds1,rfl,h1,h2⟩:=zm hd
     exact zx.cons (zap ht hy h1) (ziv ht ps ys ds1 hys h2)
   · cases h
theorem zwq {ox oy:Operand} {bop:BinOp} {t:TypeId} {neg:Bool} (hop:(bop=.eql∧neg=false)∨(bop=.neq∧neg=true)) {u v:Value} {b:Bool} (hg:(eqGuard bop t ox oy u v).run P w=.ok () w)
 (h1:binOp .eql t u v=(do pure (.bool (← Op.equalIn 10000 t u v)))) (h2:binOp .neq t u v=(do pure (.bool (!(← Op.equalIn 10000 t u v))))) (he:(Op.equalIn 10000 t u v).run P w=.ok b w) :
 (do eqGuard bop t ox oy u v;binOp bop t u v:Sem Value).run P w=.ok (.bool (if neg then !b else b)) w:=by
 rcases hop with ⟨rfl,rfl⟩|⟨rfl,rfl⟩
 · simp only [Sem.run_bind,hg,Result.andThen_ok,h1,he,Sem.run_pure];rfl
 · simp only [Sem.run_bind,hg,Result.andThen_ok,h2,he,Sem.run_pure];rfl
theorem zu6 (d:Nat) {t e:TypeId} (hu:P.underlying t=some (.pointer e)) (b:Option Addr):(Op.equalIn (d+1) t (.pointer b) (.pointer none)).run P w=.ok b.isNone w:=by
 cases b<;>simp [Op.equalIn,run_underlying hu]
theorem zu7 (d:Nat) {t k e:TypeId} (hu:P.underlying t=some (.map k e)) (b:Option Nat):(Op.equalIn (d+1) t (.map b) (.map none)).run P w=.ok b.isNone w:=by
 cases b<;>simp [Op.equalIn,run_underlying hu]
theorem ztc (d:Nat) {t:TypeId} {ps rs:Array TypeId} {vr:Bool} (hu:P.underlying t=some (.func ps rs vr)) (f:Fn) (x y:Array Value):(Op.equalIn (d+1) t (.func f x y) .nilFunc).run P w=.ok false w:=by
 simp [Op.equalIn,run_underlying hu]
theorem z1a (d:Nat) {t:TypeId} {ps rs:Array TypeId} {vr:Bool} (hu:P.underlying t=some (.func ps rs vr)):(Op.equalIn (d+1) t .nilFunc .nilFunc).run P w=.ok true w:=by
 simp [Op.equalIn,run_underlying hu]
theorem zwr {t:TypeId} {d:TypeDesc} (hu:P.underlying t=some d) {q:Operand} {kn:Nat} (hn:zj9 d q=some kn) {p:D} {pv:Value} (hp:VRD S p pv) {bop:BinOp} {neg:Bool} (hop:(bop=.eql∧neg=false)∨(bop=.neq∧neg=true))
 {r:AV} {G1:Gh} (hg:gdD (.pnil kn neg) [p] G=some (r,G1)) (ox:Operand):G1=G∧∃ b,r=.d (.bool b)∧(do eqGuard bop t ox q pv (a.eval q);binOp bop t pv (a.eval q):Sem Value).run P w=.ok (.bool b) w:=by
 have ga:∀ {u v:Value},(∀ xs,u≠.agg xs)→u≠.nilIface→(eqGuard bop t ox q u v).run P w=.ok () w:=fun {u v} h1 h2=>by
  unfold eqGuard
  rcases hop with ⟨rfl,_⟩|⟨rfl,_⟩<;>cases u<;>simp_all
 have two:∀ b:Bool,(r,G1)=((.d (.bool (if neg then !b else b)),G):AV×Gh)→(∀ xs,pv≠.agg xs)→pv≠.nilIface→binOp .eql t pv (a.eval q)=(do pure (.bool (← Op.equalIn 10000 t pv (a.eval q))))→binOp .neq t pv (a.eval q)=(do pure (.bool (!(← Op.equalIn 10000 t pv (a.eval q)))))→(Op.equalIn 10000 t pv (a.eval q)).run P w=.ok b w →
  G1=G∧∃ b,r=.d (.bool b)∧(do eqGuard bop t ox q pv (a.eval q);binOp bop t pv (a.eval q):Sem Value).run P w=.ok (.bool b) w:=by
  intro b e h1 h2 h4 h5 h3
  cases e
  exact ⟨rfl,_,rfl,zwq hop (ga h1 h2) h4 h5 h3⟩
 unfold zj9 at hn
 split at hn
 · rename_i e0
   cases hn
   have ev0:a.eval (.const (.pointer none))=.pointer none:=rfl
   rw [ev0] at two ⊢
   simp only [gdD] at hg
   split at hg
   · have e:pv=.pointer none:=by cases hp;rfl
     subst e
     exact two true (by cases hg;cases neg<;>rfl) (fun _ e=>by cases e) (fun e=>by cases e) rfl rfl (zu6 9999 hu none)
   · rename_i b off
     have e:pv=.pointer (some ⟨b,off,none⟩):=zfd hp
     subst e
     exact two false (by cases hg;cases neg<;>rfl) (fun _ e=>by cases e) (fun e=>by cases e) rfl rfl (zu6 9999 hu (some _))
   · cases hg
 · rename_i k0 e0
   cases hn
   have ev0:a.eval (.const (.map none))=.map none:=rfl
   rw [ev0] at two ⊢
   simp only [gdD] at hg
   split at hg
   · have e:=zf8 hp
     subst e
     exact two true (by cases hg;cases neg<;>rfl) (fun _ e=>by cases e) (fun e=>by cases e) rfl rfl (zu7 9999 hu none)
   · have e:=zdf hp
     subst e
     exact two false (by cases hg;cases neg<;>rfl) (fun _ e=>by cases e) (fun e=>by cases e) rfl rfl (zu7 9999 hu (some _))
   · cases hg
 · rename_i k0 e0 f0
   cases hn
   have ev0:a.eval (.const .nilFunc)=.nilFunc:=rfl
   rw [ev0] at two ⊢
   simp only [gdD] at hg
   split at hg
   · have e:pv=.nilFunc:=by cases hp;rfl
     subst e
     exact two true (by cases hg;cases neg<;>rfl) (fun _ e=>by cases e) (fun e=>by cases e) rfl rfl (z1a 9999 hu)
   · have e:=VRD.fn_inv hp
     subst e
     exact two false (by cases hg;cases neg<;>rfl) (fun _ e=>by cases e) (fun e=>by cases e) rfl rfl (ztc 9999 hu _ _ _)
   · obtain ⟨cv,e,_⟩:=hp.clo_inv
     subst e
     exact two false (by cases hg;cases neg<;>rfl) (fun _ e=>by cases e) (fun e=>by cases e) rfl rfl (ztc 9999 hu _ _ _)
   · obtain ⟨cv,e,_⟩:=hp.bnd_inv
     subst e
     exact two false (by cases hg;cases neg<;>rfl) (fun _ e=>by cases e) (fun e=>by cases e) rfl rfl (ztc 9999 hu _ _ _)
   · rename_i l
     have e:pv=.func (.yield l) #[] #[]:=by cases hp;rfl
     subst e
     exact two false (by cases hg;cases neg<;>rfl) (fun _ e=>by cases e) (fun e=>by cases e) rfl rfl (ztc 9999 hu _ _ _)
   · cases hg
 · cases hn
theorem zkm {a:Addr} (h:a.spot=none) (n:Nat):a.add n=⟨a.block,a.off+n,none⟩:=by
 obtain ⟨ab,ao,asp⟩:=a
 simp only at h
 subst h
 unfold Addr.add
 by_cases hn:n=0
 · subst hn;rfl
 · rw [if_neg hn]
theorem zws {lv:List Hp} (h:zcr S ms lv G w) {y:D} {v:Value} {m:Nat} {ys:List D} (hy:zbc G 1 y=some (m,ys)) (hv:VRD S y v) {l:List UInt8} (hl:zbn ys=some l):(Conv.bytesToString v).run P w=.ok (.string ⟨l.toArray⟩) w:=by
 obtain ⟨news,h1,h2,h3,h4,h5⟩:=zkn (P:=P) h hy hv
 have h6:=h5 w m (fun _ _=>rfl) (Nat.le_refl _)
 obtain ⟨ns,hc0,hl0⟩:=zfp hl h1
 have hlen:=h4 w
 obtain ⟨b,n,cap,rfl⟩:∃ b n cap,v=.slice b n cap:=by
  cases hv<;>first|exact ⟨_,_,_,rfl⟩|(simp [zbc] at hy)
 simp [Builtin.lenOf] at hlen
 subst hlen
 have htk:news.take (n * 1)=news:=List.take_of_length_le (by rw [h1.1,h3];exact Nat.le_refl _)
 rw [htk] at h6
 cases b with
 | none =>
  simp [Builtin.firstCells] at h6
  subst h6
  have:ns=[]:=by simpa using hc0.symm
  subst this
  simp at hl0
  subst hl0
  simp [Conv.bytesToString]
  rfl
 | some b =>
  have h7:(loadCells b n).run P w=.ok (ns.map (Value.int .u8)).toArray w:=by
   simp only [Builtin.firstCells,Nat.mul_one] at h6
   rw [h6,hc0]
  rw [zm5 h7,hl0]
theorem z6e (h:Rel S ms ow base O ρ L σ G a w) {o:Oper} {k:GD} {as:List AO} (hc:zb4 c o.dst o.op=some (.gd k as)) (hd:∀ i,o.dst=some i→i<a.tmps.size) {vs:List D} (hvs:zq ρ as=some vs) {r:AV} {G1:Gh} (hg:gdD k vs G=some (r,G1)) :
 zc5 c.P S ms ow base O σ a w o (put ρ o.dst r,L,σ,G1):=by
 obtain ⟨dst,op,ty,pos,after,guard⟩:=o
 simp only at hc hd
 cases op with
 | lookup t m q ok =>
  simp only [zb4] at hc
  split at hc
  · rename_i kt e hm
    split at hc
    · rename_i ks z m' q' hk hz hm' hq'
      cases Option.some.inj hc
      obtain ⟨d1,ds1,rfl,e1,h2⟩:=zm hvs
      obtain ⟨d2,ds2,rfl,e2,h3⟩:=zm h2
      obtain rfl:=z9 h3
      obtain ⟨e0,v,hr,hv,hno⟩:=zq2 h.h.x hm hk hz (zap h.tmpT hm' e1) (zap h.tmpT hq' e2) hg
      rw [e0];exact zc5.mk' h hd (.inl (by simp [execOp,hr])) h (Evo.refl _ _ _ _) hv hno
    · cases hc
  · cases hc
 | mapUpdate t m q x =>
  simp only [zb4] at hc
  split at hc
  · rename_i kt e hm
    split at hc
    · rename_i ks m' q' x' hk hm' hq' hx'
      cases hc
      obtain ⟨d1,ds1,rfl,e1,h2⟩:=zm hvs
      obtain ⟨d2,ds2,rfl,e2,h3⟩:=zm h2
      obtain ⟨d3,ds3,rfl,e3,h4⟩:=zm h3
      obtain rfl:=z9 h4
      obtain ⟨w',hr,rfl,hrel,hev⟩:=zhj h hm hk (zap h.tmpT hm' e1) (zap h.tmpT hq' e2) (zap h.tmpT hx' e3) hg
      exact zc5.mk' h hd (v:=undef) (.inr ⟨by simp [execOp,hr,Result.andThen],rfl⟩) hrel hev trivial (fun _ _ e=>by cases e)
    · cases hc
  · cases hc
 | insert t m q x =>
  simp only [zb4] at hc
  split at hc
  · rename_i kt e hm
    split at hc
    · rename_i ks m' q' x' hk hm' hq' hx'
      cases hc
      obtain ⟨d1,ds1,rfl,e1,h2⟩:=zm hvs
      obtain ⟨d2,ds2,rfl,e2,h3⟩:=zm h2
      obtain ⟨d3,ds3,rfl,e3,h4⟩:=zm h3
      obtain rfl:=z9 h4
      obtain ⟨w',hr,rfl,hrel,hev⟩:=zhj h hm hk (zap h.tmpT hm' e1) (zap h.tmpT hq' e2) (zap h.tmpT hx' e3) hg
      exact zc5.mk' h hd (v:=undef) (.inr ⟨by simp [execOp,hr,Result.andThen],rfl⟩) hrel hev trivial (fun _ _ e=>by cases e)
    · cases hc
  · cases hc
 | mapEntry t m q =>
  simp only [zb4] at hc
  split at hc
  · rename_i kt e hm
    split at hc
    · rename_i ks z m' q' hk hz hm' hq'
      cases hc
      obtain ⟨d1,ds1,rfl,e1,h2⟩:=zm hvs
      obtain ⟨d2,ds2,rfl,e2,h3⟩:=zm h2
      obtain rfl:=z9 h3
      obtain ⟨v,w',hr,hv,hno,hrel,hev⟩:=zm2 h hm hk hz (zap h.tmpT hm' e1) (zap h.tmpT hq' e2) hg
      exact zc5.mk' h hd (.inl (by simp [execOp,hr])) hrel hev hv hno
    · cases hc
  · cases hc
 | entryStore t m s x =>
  simp only [zb4] at hc
  split at hc
  · rename_i p hm
    split at hc
    · rename_i m' s' x' hm' hs' hx'
      cases hc
      obtain ⟨d1,ds1,rfl,e1,h2⟩:=zm hvs
      obtain ⟨d2,ds2,rfl,e2,h3⟩:=zm h2
      obtain ⟨d3,ds3,rfl,e3,h4⟩:=zm h3
      obtain rfl:=z9 h4
      obtain ⟨w',hr,rfl,hrel,hev⟩:=zkl (P:=c.P) (t:=t) h (zap h.tmpT hm' e1) (zap h.tmpT hs' e2) (zap h.tmpT hx' e3) hg
      exact zc5.mk' h hd (v:=undef) (.inr ⟨by simp [execOp,hr,Result.andThen],rfl⟩) hrel hev trivial (fun _ _ e=>by cases e)
    · cases hc
  · cases hc
 | entry it =>
  simp only [zb4,Option.map_eq_some_iff] at hc
  obtain ⟨it',hit,e⟩:=hc
  cases e
  obtain ⟨d1,ds1,rfl,e1,h2⟩:=zm hvs
  obtain rfl:=z9 h2
  have hiv:=zap h.tmpT hit e1
  obtain ⟨q,rfl⟩:∃ q,d1=.gp q 0:=by
   cases d1 with
   | gp q off=>cases off with
     | zero=>exact ⟨q,rfl⟩
     | succ n=>simp [gdD] at hg
   | _=>simp [gdD] at hg
  have hiv':=zfd hiv
  simp only [gdD] at hg
  split at hg
  · rename_i q0 since seen last hm
    split at hg
    · rename_i s es clock hl hq
      split at hg
      · rename_i hcl
        subst hcl
        simp only [Option.map_eq_some_iff] at hg
        obtain ⟨e0,he0,e2⟩:=hg
        cases e2
        obtain ⟨vs,hvs,hsz,hent⟩:=h.h.x.map hq
        have hit':w.heap[q]?=some (.mapIter (some q0) since seen.toArray clock):=h.h.x q _ hm
        have hfind:∀ {es:List ME} {vs:List MapEntry},vs.length=es.length→(∀ (j:Nat) (e:ME) (v:MapEntry),es[j]?=some e→vs[j]?=some v→zc9 S e v)→es.find? (fun e=>e.b == s)=some e0→∃ v,vs.find? (fun e=>e.born == s)=some v∧zc9 S e0 v:=by
         intro es
         induction es with
         | nil=>intro vs _ _ h;simp at h
         | cons e es ih =>
          intro vs hl he hf
          cases vs with
          | nil=>simp at hl
          | cons v vs =>
           have h0:=he 0 e v rfl rfl
           rw [List.find?_cons] at hf ⊢
           rw [h0.2.2]
           split at hf
           · cases hf;exact ⟨v,rfl,h0⟩
           · exact ih (by simpa using hl) (fun j e' v' a b=>he (j+1) e' v' (by simpa using a) (by simpa using b)) hf
        obtain ⟨v,hv,hve⟩:=hfind (vs:=vs.toList) (by simpa using hsz) (fun j e v a b=>hent j e v a (by simpa using b)) he0
        have hback:seen.toArray.back?=some s:=by rw [← hl];simp [Array.back?_eq_getElem?,List.getLast?_eq_getElem?]
        have hva:vs.find? (fun e=>e.born == s)=some v:=by rw [← hv];cases vs;simp
        refine zc5.mk' (v:=.tuple #[v.key,v.val]) h hd (.inl ?_) h (Evo.refl _ _ _ _) ⟨_,rfl,zq1 hve.1 hve.2.1⟩ (fun _ _ e=>by cases e)
        simp [execOp,hiv',Instr.entry,getObj,Sem.run,hit',hvs,Result.andThen,hback,hva]
      · cases hg
    · cases hg
  · cases hg
 | binOp bop t p q u =>
  simp only [zb4] at hc
  split at hc
  · rename_i d hu
    have main:∀ {kn:Nat} {neg:Bool} {p':AO},zj9 d q=some kn→cO p=some p'→((bop=.eql∧neg=false)∨(bop=.neq∧neg=true))→AOp.gd (.pnil kn neg) [p']=AOp.gd k as→zc5 c.P S ms ow base O σ a w ⟨dst,.binOp bop t p q u,ty,pos,after,guard⟩ (put ρ dst r,L,σ,G1):=by
     intro kn neg p' hn hp hop he
     cases he
     obtain ⟨d1,ds1,rfl,e1,h2⟩:=zm hvs
     obtain rfl:=z9 h2
     obtain ⟨rfl,b,rfl,hr⟩:=zwr (P:=c.P) (w:=w) (a:=a) hu hn (zap h.tmpT hp e1) hop hg p
     exact zc5.mk' (v:=.bool b) h hd (.inl (by simp only [execOp,Sem.run_bind,Sem.run_pure] at hr ⊢;rw [hr];rfl)) h (Evo.refl _ _ _ _) (VRD.bool _) (fun _ _ e=>by cases e)
    split at hc
    · rename_i kn p' hn hp;exact main hn hp (.inl ⟨rfl,rfl⟩) (Option.some.inj hc)
    · rename_i kn p' hn hp;exact main hn hp (.inr ⟨rfl,rfl⟩) (Option.some.inj hc)
    · cases hc
  · cases hc
 | makeFunc fn first caps =>
  cases fn with
  | func f =>
   simp only [zb4] at hc
   split at hc
   · rename_i hcond
     simp only [Bool.and_eq_true] at hcond
     simp only [Option.map_eq_some_iff] at hc
     obtain ⟨xs,hxs,e⟩:=hc
     injection e with e1 e2
     subst e1;subst e2
     have hds:=ziv h.tmpT caps.toList xs vs hxs hvs
     simp only [gdD] at hg
     split at hg
     · rename_i hone
       cases hg
       have hf0:first=#[]:=by
        have:=hcond.1
        cases first with
        | mk l=>cases l with
          | nil=>rfl
          | cons x l=>simp [Array.isEmpty] at this
       subst hf0
       refine zc5.mk' (v:=.func (.func f) #[] (caps.map a.eval)) h hd (.inl ?_) h (Evo.refl _ _ _ _) (VRD.clo f vs _ (by have:=hds.1;simpa using this) hone fun j x v hj hv=>hds.2 j x v hj (by simpa using hv)) (fun _ _ e=>by cases e)
       simp [execOp,Instr.makeFunc]
     · cases hg
   · split at hc
     · rename_i hcond
       simp only [Bool.and_eq_true] at hcond
       simp only [Option.map_eq_some_iff] at hc
       obtain ⟨xs,hxs,e⟩:=hc
       injection e with e1 e2
       subst e1;subst e2
       have hds:=ziv h.tmpT first.toList xs vs hxs hvs
       simp only [gdD] at hg
       split at hg
       · rename_i hone
         cases hg
         have hf0:caps=#[]:=by
          have:=hcond.1
          cases caps with
          | mk l=>cases l with
            | nil=>rfl
            | cons x l=>simp [Array.isEmpty] at this
         subst hf0
         refine zc5.mk' (v:=.func (.func f) (first.map a.eval) #[]) h hd (.inl ?_) h (Evo.refl _ _ _ _) (VRD.bnd f vs _ (by have:=hds.1;simpa using this) hone fun j x v hj hv=>hds.2 j x v hj (by simpa using hv)) (fun _ _ e=>by cases e)
         simp [execOp,Instr.makeFunc]
       · cases hg
     · cases hc
  | _=>simp [zb4] at hc
 | slice t x lo hi mx =>
  simp only [zb4] at hc
  split at hc
  · rename_i n e harr
    split at hc
    · rename_i sz x' xs hsz hx hxs
      split at hc
      · cases hc
      · rename_i hcond
        cases Option.some.inj hc
        obtain ⟨d1,ds1,rfl,e1,h2⟩:=zm hvs
        have hxv:=zap h.tmpT hx e1
        obtain ⟨b,off,rfl⟩:∃ b off,d1=.gp b off:=by cases d1<;>first|exact ⟨_,_,rfl⟩|simp [gdD] at hg
        have hxv':=zfd hxv
        simp only [gdD] at hg
        split at hg
        · rename_i l xs1 o1
          split at hg
          · rename_i hh xs2 o2
            split at hg
            · rename_i m o3
              split at hg
              · rename_i hb
                cases hg
                obtain ⟨ys1,p1,p2,p3⟩:=zm3 h.tmpT hxs h2 o1
                obtain ⟨ys2,q1,q2,q3⟩:=zm3 h.tmpT p1 p2 o2
                obtain ⟨ys3,r1,r2,r3⟩:=zm3 h.tmpT q1 q2 o3
                have hbd:=zje (P:=c.P) (w:=w) (a:=a) (n:=n) p3 q3 r3 (by cases hi<;>simp at hcond ⊢;exact hcond) hb.1 hb.2.1 hb.2.2.1 hb.2.2.2
                have hsize:=zy (P:=c.P) (w:=w) hsz
                have hml:(m.toNat=l.toNat)↔(m.toNat=l.toNat):=Iff.rfl
                have hadd:(⟨b,off,none⟩:Addr).add (l.toNat * sz)=⟨b,off+l.toNat * sz,none⟩:=zkm rfl _
                refine zc5.mk' (v:=.slice (some (if m.toNat=l.toNat then ⟨b,off,none⟩ else ⟨b,off+l.toNat * sz,none⟩)) (hh.toNat - l.toNat) (m.toNat - l.toNat)) h hd (.inl ?_) h (Evo.refl _ _ _ _) ?_ (fun _ _ e=>by cases e)
                · have hrun:(Instr.sliceAt t (.pointer (some ⟨b,off,none⟩)) (lo.map a.eval) (hi.map a.eval) (mx.map a.eval)).run c.P w=.ok (.slice (some (if m.toNat=l.toNat then ⟨b,off,none⟩ else ⟨b,off+l.toNat * sz,none⟩)) (hh.toNat - l.toNat) (m.toNat - l.toNat)) w:=by
                   unfold z6y at harr
                   split at harr
                   · rename_i hu
                     cases harr
                     simp [Instr.sliceAt,Instr.sureAddr,run_underlying hu,hbd,hsize,hadd]
                   · rename_i ar hu
                     split at harr
                     · rename_i hu2
                       cases harr
                       simp [Instr.sliceAt,Instr.slice,asAddr,run_underlying hu,run_underlying hu2,hbd,hsize,hadd]
                     · cases harr
                   · cases harr
                  simp [execOp,hxv',hrun]
                · have:hh.toNat - l.toNat≤m.toNat - l.toNat:=by omega
                  split<;>exact VRD.gs _ _ _ _ this
              · cases hg
            · cases hg
          · cases hg
        · cases hg
    · cases hc
  · cases hc
 | sliceToArrayPointer arr x =>
  simp only [zb4] at hc
  split at hc
  · rename_i n e x' hu hx
    cases Option.some.inj hc
    obtain ⟨d1,ds1,rfl,e1,h2⟩:=zm hvs
    have hxv:=zap h.tmpT hx e1
    obtain rfl:=z9 h2
    obtain ⟨b,off,len,cap,rfl⟩:∃ b off len cap,d1=.gs b off len cap:=by cases d1<;>first|exact ⟨_,_,_,_,rfl⟩|simp [gdD] at hg
    simp only [gdD] at hg
    split at hg
    · rename_i hle
      cases hg
      have hv:a.eval x=.slice (some ⟨b,off,none⟩) len cap:=by
       generalize a.eval x=u at hxv
       cases hxv;rfl
      refine zc5.mk' (v:=.pointer (some ⟨b,off,none⟩)) h hd (.inl ?_) h (Evo.refl _ _ _ _) (VRD.gp _ _) (fun _ _ e=>by cases e)
      have hn:¬ len<n:=by omega
      simp [execOp,Instr.arrayAt,run_underlying hu,hv,hn]
    · cases hg
  · cases hc
 | convert s d x =>
  simp only [zb4] at hc
  split at hc
  · split at hc
    · rename_i e hs hd'
      split at hc
      · rename_i hu8
        split at hc
        · rename_i hsz
          simp only [Option.map_eq_some_iff] at hc
          obtain ⟨x',hx,e'⟩:=hc
          cases e'
          obtain ⟨d1,ds1,rfl,e1,h2⟩:=zm hvs
          obtain rfl:=z9 h2
          have hxv:=zap h.tmpT hx e1
          simp only [gdD] at hg
          split at hg
          · rename_i n cs hvw
            simp only [Option.map_eq_some_iff] at hg
            obtain ⟨l,hl,e2⟩:=hg
            cases e2
            have hrun:=zws (P:=c.P) h.h hvw hxv hl
            refine zc5.mk' (v:=.string ⟨l.toArray⟩) h hd (.inl ?_) h (Evo.refl _ _ _ _) (VRD.str _ _ rfl) (fun _ _ e=>by cases e)
            have hue:c.P.underlying e=some (.int .u8):=by
             unfold zuh at hu8
             split at hu8
             · rename_i h';exact h'
             · cases hu8
            have hcv:(Go.convert s d (a.eval x)).run c.P w=.ok (.string ⟨l.toArray⟩) w:=by
             obtain ⟨bb,nn,cc,hsl⟩:∃ b n cap,a.eval x=.slice b n cap:=by
              generalize a.eval x=u at hxv
              cases hxv<;>first|exact ⟨_,_,_,rfl⟩|(simp [zbc] at hvw)
             rw [hsl] at hrun ⊢
             simp only [Go.convert,Sem.run_bind,run_underlying hs,run_underlying hd',run_underlying hue,Result.andThen_ok,hrun]
            simp [execOp,hcv]
          · cases hg
        · cases hc
      · cases hc
    · cases hc
  · cases hc
 | call cl =>
  obtain ⟨callee,⟨as'⟩,⟨ts⟩⟩:=cl
  simp only [zb4] at hc
  split at hc
  · -- len
    rename_i x t
    split at hc
    · rename_i x' p hx hm
      cases Option.some.inj hc
      obtain ⟨d1,ds1,rfl,e1,h2⟩:=zm hvs
      obtain rfl:=z9 h2
      have hxv:=zap h.tmpT hx e1
      have hu:=ze3 (P:=c.P) (t:=t) (k:=p.1) (e:=p.2) hm
      simp only [gdD] at hg
      split at hg
      · cases hg
        have hxv':=zf8 hxv
        have hr:(Builtin.len_ #[t] ty #[a.eval x]).run c.P w=.ok (.int .i64 0) w:=by
         rw [hxv'];simp [Builtin.len_,run_underlying hu,Result.andThen];rfl
        exact zc5.mk' (v:=.int .i64 0) (r:=.d (.int .i64 0)) h hd (.inl (by simp only [execOp,resolve,invoke,Sem.run_bind,Sem.run_pure,Result.andThen_ok,Go.builtin,List.map_toArray,List.map_cons,List.map_nil,hr])) h (Evo.refl _ _ _ _) (VRD.int _ _) (fun _ _ e=>by cases e)
      · simp only [Option.map_eq_some_iff] at hg
        obtain ⟨⟨es,cl⟩,hmp,e⟩:=hg
        cases e
        obtain ⟨q,rfl,hmq⟩:=zdw hmp
        obtain ⟨vs,hvs',hsz,hent⟩:=h.h.x.map hmq
        have hxv':=zdf hxv
        have hr:(Builtin.len_ #[t] ty #[a.eval x]).run c.P w=.ok (.int .i64 es.length) w:=by
         rw [hxv'];simp [Builtin.len_,run_underlying hu,Result.andThen,MapKept.run_getObj_map hvs',goInt,hsz]
        exact zc5.mk' (v:=.int .i64 es.length) (r:=.d (.int .i64 es.length)) h hd (.inl (by simp only [execOp,resolve,invoke,Sem.run_bind,Sem.run_pure,Result.andThen_ok,Go.builtin,List.map_toArray,List.map_cons,List.map_nil,hr])) h (Evo.refl _ _ _ _) (VRD.int _ _) (fun _ _ e=>by cases e)
    · cases hc
  · -- delete
    rename_i m q t ts'
    split at hc
    · rename_i kt e hm
      split at hc
      · rename_i ks m' q' hk hm' hq'
        cases Option.some.inj hc
        obtain ⟨d1,ds1,rfl,e1,h2⟩:=zm hvs
        obtain ⟨d2,ds2,rfl,e2,h3⟩:=zm h2
        obtain rfl:=z9 h3
        obtain ⟨w',hr,rfl,hrel,hev⟩:=zq4 (ty:=ty) h hm hk (zap h.tmpT hm' e1) (zap h.tmpT hq' e2) hg ts'
        exact zc5.mk' (v:=.tuple #[]) h hd (.inl (by simp only [execOp,resolve,invoke,Sem.run_bind,Sem.run_pure,Result.andThen_ok,Go.builtin,List.map_toArray,List.map_cons,List.map_nil,hr])) hrel hev ⟨_,rfl,zx.nil⟩ (fun _ _ e=>by cases e)
      · cases hc
    · cases hc
  · -- clear
    rename_i x t
    split at hc
    · rename_i e x' he hx
      have hu:=zes he
      split at hc
      · rename_i sz z hsz hz
        split at hc
        · rename_i hcond
          cases Option.some.inj hc
          obtain ⟨d1,ds1,rfl,e1,h2⟩:=zm hvs
          obtain rfl:=z9 h2
          have hxv:=zap h.tmpT hx e1
          obtain ⟨zv,hzr,hzs,hzo,_⟩:=zbi (S:=S) hz
          simp only [gdD] at hg
          split at hg
          · cases hg
            have hxv':=VRD.nilS_inv hxv
            have hr:(Builtin.clear_ #[t] ty #[a.eval x]).run c.P w=.ok (.tuple #[]) w:=by
             rw [hxv'];simp [Builtin.clear_,run_underlying hu,Result.andThen]
            exact zc5.mk' (v:=.tuple #[]) (r:=.tup []) h hd (.inl (by simp only [execOp,resolve,invoke,Sem.run_bind,Sem.run_pure,Result.andThen_ok,Go.builtin,List.map_toArray,List.map_cons,List.map_nil,hr])) h (Evo.refl _ _ _ _) ⟨_,rfl,zx.nil⟩ (fun _ _ e=>by cases e)
          · rename_i b off n cap
            obtain ⟨hxv',_⟩:=zf9 (x:=.d (.gs b off n cap)) (lv:=L::σ) (ms:=ms) hxv rfl
            split at hg
            · rename_i hn
              cases hg
              subst hn
              have hr:(Builtin.clear_ #[t] ty #[a.eval x]).run c.P w=.ok (.tuple #[]) w:=by
               rw [hxv'];simp [Builtin.clear_,run_underlying hu,Result.andThen]
              exact zc5.mk' (v:=.tuple #[]) (r:=.tup []) h hd (.inl (by simp only [execOp,resolve,invoke,Sem.run_bind,Sem.run_pure,Result.andThen_ok,Go.builtin,List.map_toArray,List.map_cons,List.map_nil,hr])) h (Evo.refl _ _ _ _) ⟨_,rfl,zx.nil⟩ (fun _ _ e=>by cases e)
            · rename_i hn
              split at hg
              · rename_i cs hcs
                split at hg
                · rename_i hfit
                  cases hg
                  obtain ⟨c0,e0,hc0,hvc,hone⟩:=h.h.gbox hcs
                  have hcl:c0.size=cs.length:=by have:=hvc.1;simpa using this
                  have hzl:zv.cells.size=sz:=by have:=hzs.1;simp at this;omega
                  have hzz:=zb7 hzs n
                  have hzn:(Builtin.zeroCells zv.cells n).toList.length=n * sz:=by rw [Array.length_toList,zc1,hzl]
                  have hst:=run_storeCells_at c.P b off e0 (Builtin.zeroCells zv.cells n).toList 0 c0 w hc0 (by rw [hzn,hcl];omega) (hzz.one (zef hzo n))
                  have hr:(Builtin.clear_ #[t] ty #[a.eval x]).run c.P w=.ok (.tuple #[]) (w.setRow b (c0.toList.take off++(Builtin.zeroCells zv.cells n).toList++c0.toList.drop (off+(Builtin.zeroCells zv.cells n).toList.length)).toArray):=by
                   simp only [Nat.add_zero] at hst
                   rw [hxv']
                   have:∀ k,n=k→k≠0→(Builtin.clear_ #[t] ty #[.slice (some ⟨b,off,none⟩) k cap]).run c.P w=.ok (.tuple #[]) (w.setRow b (c0.toList.take off++(Builtin.zeroCells zv.cells n).toList++c0.toList.drop (off+(Builtin.zeroCells zv.cells n).toList.length)).toArray):=by
                    intro k hk h0
                    subst hk
                    obtain ⟨n',rfl⟩:∃ n',n=n'+1:=⟨n - 1,by omega⟩
                    simp only [Builtin.clear_]
                    simp [run_underlying hu,hzr,hst,Result.andThen]
                   exact this n rfl hn
                  have hbox:=zer (w:=w) hc0 hvc hone hzz (zef hzo n) off
                  refine zc5.mk' (v:=.tuple #[]) (r:=.tup []) h hd (.inl (by simp only [execOp,resolve,invoke,Sem.run_bind,Sem.run_pure,Result.andThen_ok,Go.builtin,List.map_toArray,List.map_cons,List.map_nil,hr])) (h.storeG hcs (by simp) (fun i hi=>setRow_other w b i _ hi) hbox) (Evo.store (b:=b) (by simp) (fun i hi=>setRow_other w b i _ hi) (h.gold hcs) rfl rfl rfl) ⟨_,rfl,zx.nil⟩ (fun _ _ e=>by cases e)
                · cases hg
              · cases hg
          · cases hg
        · cases hc
      · cases hc
    · cases hc
  · -- copy
    rename_i x y t u
    split at hc
    · rename_i e x' y' hu he hx hy
      split at hc
      · rename_i hcond
        simp only [Bool.and_eq_true,beq_iff_eq] at hcond
        cases Option.some.inj hc
        obtain ⟨d1,ds1,rfl,e1,h2⟩:=zm hvs
        obtain ⟨d2,ds2,rfl,e2,h3⟩:=zm h2
        obtain rfl:=z9 h3
        have hut:=zes he
        obtain ⟨b,off,n,cap,rfl⟩:∃ b off n cap,d1=.gs b off n cap:=by cases d1<;>first|exact ⟨_,_,_,_,rfl⟩|simp [gdD] at hg
        obtain ⟨s,rfl⟩:∃ s,d2=.str s:=by cases d2<;>first|exact ⟨_,rfl⟩|simp [gdD] at hg
        have hxv:=zap h.tmpT hx e1
        obtain ⟨hxv',_⟩:=zf9 (x:=.d (.gs b off n cap)) (lv:=L::σ) (ms:=ms) hxv rfl
        obtain ⟨bs,hyv',hbs⟩:=(zap h.tmpT hy e2).str_inv
        simp only [gdD] at hg
        split at hg
        · rename_i cs hcs
          split at hg
          · rename_i hfit
            cases hg
            obtain ⟨c0,e0,hc0,hvc,hone⟩:=h.h.gbox hcs
            have hcl:c0.size=cs.length:=by have:=hvc.1;simpa using this
            have hsl:bs.size=s.length:=by
             show bs.data.size=_
             rw [← hbs,Array.length_toList]
            let news:List Value:=(s.take n).map fun u=>Value.int .u8 u.toNat
            have hnv:zx S ((s.take n).map fun u=>D.int .u8 u.toNat) news:=by
             refine ⟨by simp [news],fun j x v hj hv=>?_⟩
             simp only [news,List.getElem?_map] at hj hv
             cases hq:(s.take n)[j]? with
             | none=>rw [hq] at hj;cases hj
             | some q=>rw [hq] at hj hv;cases hj;cases hv;exact VRD.int _ _
            have hno:((s.take n).map fun u=>D.int .u8 u.toNat).all D.one=true:=by
             rw [List.all_eq_true];intro x hx;obtain ⟨u,_,rfl⟩:=List.mem_map.1 hx;rfl
            have hnl:news.length=min n s.length:=by simp [news]
            have hst:=run_storeCells_at c.P b off e0 news 0 c0 w hc0 (by rw [hnl,hcl];omega) (hnv.one hno)
            have hr:(Builtin.copy_ #[t,u] ty #[a.eval x,a.eval y]).run c.P w=.ok (.int .i64 (min n s.length:Nat)) (w.setRow b (c0.toList.take off++news++c0.toList.drop (off+news.length)).toArray):=by
             simp only [Nat.add_zero] at hst
             rw [hxv',hyv']
             simp [Builtin.copy_,run_underlying hut,zy hcond.2,Result.andThen,goInt,Builtin.lenOf,Builtin.firstCells]
             have hl2:List.take (min bs.size n) (List.map (fun b=>Value.int IntKind.u8 b.toNat) bs.data.toList)=news:=by
              simp only [news,hbs,hsl,← List.map_take]
              congr 1
              by_cases hh:n≤s.length
              · rw [Nat.min_eq_right hh]
              · rw [Nat.min_eq_left (by omega),List.take_of_length_le (Nat.le_refl _),List.take_of_length_le (by omega)]
             rw [hl2,hst,hsl,Nat.min_comm]
             simp
            have hbox:=zer (w:=w) hc0 hvc hone hnv hno off
            exact zc5.mk' (v:=.int .i64 (min n s.length:Nat)) (r:=.d (.int .i64 (min n s.length:Nat))) h hd (.inl (by simp only [execOp,resolve,invoke,Sem.run_bind,Sem.run_pure,Result.andThen_ok,Go.builtin,List.map_toArray,List.map_cons,List.map_nil,hr])) (h.storeG hcs (by simp) (fun i hi=>setRow_other w b i _ hi) hbox) (Evo.store (b:=b) (by simp) (fun i hi=>setRow_other w b i _ hi) (h.gold hcs) rfl rfl rfl) (VRD.int _ _) (fun _ _ e=>by cases e)
          · cases hg
        · cases hg
      · cases hc
    · cases hc
  · cases hc
 | alloc e =>
  simp only [zb4] at hc
  split at hc
  · split at hc
    · split at hc<;>cases hc
    · cases hc
  · cases hc
 | box e x =>
  simp only [zb4] at hc
  split at hc
  · split at hc<;>cases hc
  · cases hc
 | makeMap t x =>
  cases x with
  | none=>simp [zb4] at hc
  | some x=>simp [zb4] at hc
 | makeSlice t x y =>
  simp only [zb4] at hc
  split at hc
  · split at hc
    · split at hc<;>cases hc
    · cases hc
  · cases hc
 | range t x =>
  simp only [zb4] at hc
  split at hc<;>cases hc
 | next x y =>
  cases y with
  | false=>simp [zb4] at hc
  | true=>simp [zb4] at hc
 | _=>simp [zb4] at hc
end
end Go.E2
