/-
 What holds of where a piece of code comes to,zbe the evaluator's states;the machine does the same.
 Conditions: none;definitions and laws.
-/
import Derived.Test.YtailhmffljoojaaEV
import Derived.Scope
namespace Go.E2
theorem zmn {F:Fence} {nn:Nat} {P:Program} {c:Code} {Q:Exit→Act→World→Prop} (I:Nat→Act→World→Prop)
 (round:∀ n a w,I n a w→c.wpIn F nn P (Exit.then (fun a' w'=>∃ m,m<n∧I m a' w') Q) a w) {n:Nat} {a:Act} {w:World} (h₀:I n a w):(Code.loop c).wpIn F nn P Q a w:=by
 intro b k cs hro hb hr
 have key:∀ n a w,I n a w→∃ e a' w',Q e a' w'∧ArrivesIn (Machine.fenced P F) P (lone (b.atR a (.code c::.inLoop c::k)) cs w) b k cs e a' w':=by
  intro n
  induction n using Nat.strongRecOn with
  | _ n ih =>
   intro a w hI
   obtain ⟨e,a₁,w₁,hq,harr⟩:=round n a w hI b (.inLoop c::k) cs hro hb hr
   cases e with
   | normal =>
    obtain ⟨m,hlt,hI₁⟩:=hq
    obtain ⟨e₂,a₂,w₂,hq₂,harr₂⟩:=ih m hlt a₁ w₁ hI₁
    exact ⟨e₂,a₂,w₂,hq₂,.of_steps (StepsIn.trans harr (.one (fenced_calm hb hr rfl) stepR_inLoop)) harr₂⟩
   | exit id=>exact ⟨_,a₁,w₁,hq,.pass (x:=.inLoop c) rfl (fun _ _=>.inl (by simp)) harr⟩
   | goto l=>exact ⟨_,a₁,w₁,hq,.pass (x:=.inLoop c) rfl (fun _ _=>.inl (by simp)) harr⟩
   | ret=>exact ⟨_,a₁,w₁,hq,.pass (x:=.inLoop c) rfl (fun _ _=>.inl (by simp)) harr⟩
   | panic ch=>exact ⟨_,a₁,w₁,hq,.pass (x:=.inLoop c) rfl (fun _ _=>.inl (by simp)) harr⟩
   | outgrown=>exact ⟨_,a₁,w₁,hq,.pass (x:=.inLoop c) rfl (fun _ _=>.inl (by simp)) harr⟩
 obtain ⟨e,a',w',hq,harr⟩:=key n a w h₀
 exact ⟨e,a',w',hq,.of_steps (.one (fenced_calm hb hr rfl) stepR_loop) harr⟩
def zsa (rd:Option Nat) (base:Nat) (O:Nat→Prop) (w:World):Prop:=∀ l,rd=some l→l<base∧¬ O l∧∃ r,w.heap[l]?=some (.loop r)
theorem zsa.none {base:Nat} {O:Nat→Prop} {w:World}:zsa none base O w:=fun _ e=>(by cases e)
theorem zsa.evo {rd:Option Nat} {base:Nat} {O:Nat→Prop} {S S':Stb} {w w':World} (h:zsa rd base O w) (he:Evo base O S w S' w'):zsa rd base O w':=fun l e=>by
 obtain ⟨h1,h2,r,h3⟩:=h l e
 exact ⟨h1,h2,r,by rw [he.keep l h1 h2];exact h3⟩
def zbd.then (next:St→Prop) (κ:zbd→St→Prop):zbd→St→Prop
 | .normal,st=>next st
 | e,st=>κ e st
def zbd.inBlock (id:Nat) (κ:zbd→St→Prop):zbd→St→Prop
 | .exit id',st=>if id'=id then κ .normal st else κ (.exit id') st
 | e,st=>κ e st
def zzd (S:Stb) (ms:List (Nat→Nat)) (base:Nat) (O:Nat→Prop) (σ:List Hp) (a:Act) (w:World) (κ:zbd→St→Prop):Exit→Act→World→Prop
 | .normal,a',w'=>∃ st,κ .normal st∧zbx S ms base O σ a w st a' w'
 | .exit id,a',w'=>∃ st,κ (.exit id) st∧zbx S ms base O σ a w st a' w'
 | .ret,a',w'=>∃ st,κ .ret st∧zbx S ms base O σ a w st a' w'
 | _,_,_=>False
theorem zbx.trans {S S':Stb} {ms:List (Nat→Nat)} {m':Nat→Nat} {base:Nat} {O:Nat→Prop} {σ σ':List Hp} {a a' a'':Act} {w w' w'':World} {st:St} (he:Evo base O S w S' w') (hs:zab σ σ') (hz:a'.tmps.size=a.tmps.size)
 (h:zbx S' (m'::ms.tail) base O σ' a' w' st a'' w''):zbx S ms base O σ a w st a'' w'':=by
 obtain ⟨⟨S'',m'',ow'',hr,he'⟩,hs',hz'⟩:=h
 exact ⟨⟨S'',m'',ow'',by simpa using hr,he.trans he'⟩,hs.trans hs',hz'.trans hz⟩
def SW (P:Program) (ac:ACode) (κ:zbd→St→Prop) (st:St):Prop :=
 P.follows .mixedOrders=true→∀ (rd:Option Nat) (gs:List Nat) (nt:Nat) (defs:List Oper) (code:Code),zae P gs nt defs code=some ac →
 ∀ (S:Stb) (ms:List (Nat→Nat)) (ow:Nat→Option Nat) (base:Nat) (O:Nat→Prop) (a:Act) (w:World),Rel S ms ow base O st.1 st.2.1 st.2.2.1 st.2.2.2 a w→zsa rd base O w→nt≤a.tmps.size→code.wpIn (FW rd) 0 P (zzd S ms base O st.2.2.1 a w κ) a w
section
variable {P:Program} {κ κ':zbd→St→Prop} {st st':St}
theorem zqc {S:Stb} {ms:List (Nat→Nat)} {base:Nat} {O:Nat→Prop} {σ:List Hp} {a:Act} {w:World} (hk:∀ e st,κ e st→κ' e st):∀ e a' w',zzd S ms base O σ a w κ e a' w'→zzd S ms base O σ a w κ' e a' w':=by
 intro e a' w' h
 cases e with
 | normal=>obtain ⟨st,h1,h2⟩:=h;exact ⟨st,hk _ _ h1,h2⟩
 | exit id=>obtain ⟨st,h1,h2⟩:=h;exact ⟨st,hk _ _ h1,h2⟩
 | ret=>obtain ⟨st,h1,h2⟩:=h;exact ⟨st,hk _ _ h1,h2⟩
 | _=>exact h.elim
theorem zgp {S S':Stb} {ms:List (Nat→Nat)} {m':Nat→Nat} {base:Nat} {O:Nat→Prop} {σ σ':List Hp} {a a':Act} {w w':World} (he:Evo base O S w S' w') (hs:zab σ σ') (hz:a'.tmps.size=a.tmps.size) :
 ∀ e a'' w'',zzd S' (m'::ms.tail) base O σ' a' w' κ e a'' w''→zzd S ms base O σ a w κ e a'' w'':=by
 intro e a'' w'' h
 cases e with
 | normal=>obtain ⟨st,h1,h2⟩:=h;exact ⟨st,h1,zbx.trans he hs hz h2⟩
 | exit id=>obtain ⟨st,h1,h2⟩:=h;exact ⟨st,h1,zbx.trans he hs hz h2⟩
 | ret=>obtain ⟨st,h1,h2⟩:=h;exact ⟨st,h1,zbx.trans he hs hz h2⟩
 | _=>exact h.elim
theorem SW.mono {c:ACode} (h:SW P c κ st) (hk:∀ e st,κ e st→κ' e st):SW P c κ' st :=
 fun hm rd gs nt defs code hc S ms ow base O a w hr hrd hn=>wpIn_mono (h hm rd gs nt defs code hc S ms ow base O a w hr hrd hn) (zqc hk)
theorem SW.weaken {c:ACode} (hl:zpk st st') (h:SW P c κ st'):SW P c κ st:=by
 intro hm rd gs nt defs code hc S ms ow base O a w hr hrd hn
 obtain ⟨ow',hr'⟩:=hr.le (ρ':=st'.1) (L':=st'.2.1) (G':=st'.2.2.2) hl.e hl.l hl.g
 have:=h hm rd gs nt defs code hc S ms ow' base O a w (by rw [hl.s];exact hr') hrd hn
 rw [hl.s] at this
 exact this
theorem zau {gs:List Nat} {nt:Nat} {defs:List Oper} {id:Nat} {ops:Array Oper} {draw:Bool} {ac:ACode} (h:zae P gs nt defs (.region id ops draw)=some ac):∃ d as,ac=.reg d as:=by
 simp only [zae] at h
 split at h
 · split at h
   · split at h
     · simp only [Option.map_eq_some_iff] at h
       obtain ⟨l,_,e⟩:=h
       exact ⟨_,_,e.symm⟩
     · cases h
   · cases h;exact ⟨_,_,rfl⟩
 · cases h
theorem zbp {gs:List Nat} {nt:Nat} {defs:List Oper} {a b:Code} {ac:ACode} (h:zae P gs nt defs (.seq a b)=some ac):∃ x y,ac=.seq x y∧zae P gs nt defs a=some x∧zae P gs nt defs b=some y:=by
 simp only [zae] at h
 split at h
 · rename_i x y hx hy;cases h;exact ⟨x,y,rfl,hx,hy⟩
 · cases h
theorem za6 {gs:List Nat} {nt:Nat} {defs:List Oper} {c:Operand} {a b:Code} {ac:ACode} (h:zae P gs nt defs (.cond c a b)=some ac):∃ c' x y,ac=.cond c' x y∧cO c=some c'∧zae P gs nt defs a=some x∧zae P gs nt defs b=some y:=by
 simp only [zae] at h
 split at h
 · rename_i c' x y hc hx hy;cases h;exact ⟨c',x,y,rfl,hc,hx,hy⟩
 · cases h
theorem zay {gs:List Nat} {nt:Nat} {defs:List Oper} {id:Nat} {a:Code} {ac:ACode} (h:zae P gs nt defs (.block id a)=some ac):∃ x,ac=.block id x∧zae P gs nt defs a=some x:=by
 simp only [zae,Option.map_eq_some_iff] at h
 obtain ⟨x,hx,rfl⟩:=h
 exact ⟨x,rfl,hx⟩
theorem za7 {gs:List Nat} {nt:Nat} {defs:List Oper} {a:Code} {ac:ACode} (h:zae P gs nt defs (.loop a)=some ac):∃ x,ac=.loop x∧zae P gs nt defs a=some x:=by
 simp only [zae,Option.map_eq_some_iff] at h
 obtain ⟨x,hx,rfl⟩:=h
 exact ⟨x,rfl,hx⟩
theorem zaz {gs:List Nat} {nt:Nat} {defs:List Oper} {a:Code} {ac:ACode} (h:zae P gs nt defs (.scope a)=some ac):∃ x,ac=.scope x∧zae P gs nt defs a=some x:=by
 simp only [zae,Option.map_eq_some_iff] at h
 obtain ⟨x,hx,rfl⟩:=h
 exact ⟨x,rfl,hx⟩
theorem zal {gs:List Nat} {nt:Nat} {defs:List Oper} {f:Operand} {ps:Array Tmp} {a b:Code} {ac:ACode} (h:zae P gs nt defs (.rangeFunc f ps a b)=some ac) :
 ∃ f' x y,ac=.rangeF f' ps.toList x y∧cO f=some f'∧zae P gs nt (zb5 a++zb5 b) a=some x∧zae P gs nt (zb5 a++zb5 b) b=some y∧∀ t∈ps.toList,t<nt:=by
 simp only [zae] at h
 split at h
 · rename_i f' x y hf hx hy
   split at h
   · rename_i hp
     cases h
     refine ⟨f',x,y,rfl,hf,hx,hy,fun t ht=>?_⟩
     rw [Array.all_eq_true_iff_forall_mem] at hp
     simpa using hp t (by simpa using ht)
   · cases h
 · cases h
theorem SW.skip (h:κ .normal st):SW P .skip κ st:=by
 intro hm rd gs nt defs code hc S ms ow base O a w hr hrd hn
 cases code with
 | skip=>exact wpIn_skip ⟨st,h,zbx.refl hr⟩
 | label l=>exact wpIn_label ⟨st,h,zbx.refl hr⟩
 | region id ops draw=>obtain ⟨_,_,e⟩:=zau hc;cases e
 | seq a b=>obtain ⟨_,_,e,_⟩:=zbp hc;cases e
 | cond c a b=>obtain ⟨_,_,_,e,_⟩:=za6 hc;cases e
 | block id a=>obtain ⟨_,e,_⟩:=zay hc;cases e
 | loop a=>obtain ⟨_,e,_⟩:=za7 hc;cases e
 | rangeFunc f ps a b=>obtain ⟨_,_,_,e,_⟩:=zal hc;cases e
 | scope a=>obtain ⟨_,e,_⟩:=zaz hc;cases e
 | _=>simp [zae] at hc
theorem SW.exit {id:Nat} (h:κ (.exit id) st):SW P (.exit id) κ st:=by
 intro hm rd gs nt defs code hc S ms ow base O a w hr hrd hn
 cases code with
 | exit id'=>simp [zae] at hc;subst hc;exact wpIn_exit ⟨st,h,zbx.refl hr⟩
 | region id ops draw=>obtain ⟨_,_,e⟩:=zau hc;cases e
 | seq a b=>obtain ⟨_,_,e,_⟩:=zbp hc;cases e
 | cond c a b=>obtain ⟨_,_,_,e,_⟩:=za6 hc;cases e
 | block id a=>obtain ⟨_,e,_⟩:=zay hc;cases e
 | loop a=>obtain ⟨_,e,_⟩:=za7 hc;cases e
 | rangeFunc f ps a b=>obtain ⟨_,_,_,e,_⟩:=zal hc;cases e
 | scope a=>obtain ⟨_,e,_⟩:=zaz hc;cases e
 | _=>simp [zae] at hc
theorem SW.ret (h:κ .ret st):SW P .ret κ st:=by
 intro hm rd gs nt defs code hc S ms ow base O a w hr hrd hn
 cases code with
 | ret=>exact wpIn_ret ⟨st,h,zbx.refl hr⟩
 | region id ops draw=>obtain ⟨_,_,e⟩:=zau hc;cases e
 | seq a b=>obtain ⟨_,_,e,_⟩:=zbp hc;cases e
 | cond c a b=>obtain ⟨_,_,_,e,_⟩:=za6 hc;cases e
 | block id a=>obtain ⟨_,e,_⟩:=zay hc;cases e
 | loop a=>obtain ⟨_,e,_⟩:=za7 hc;cases e
 | rangeFunc f ps a b=>obtain ⟨_,_,_,e,_⟩:=zal hc;cases e
 | scope a=>obtain ⟨_,e,_⟩:=zaz hc;cases e
 | _=>simp [zae] at hc
theorem SW.reg {d:Bool} {os:List AI} (h:z2 P os st.1 st.2.1 st.2.2.1 st.2.2.2 (κ .normal)):SW P (.reg d os) κ st:=by
 intro hm rd gs nt defs code hc S ms ow base O a w hr hrd hn
 cases code with
 | region id ops draw=>exact zqb hm hc hr hn h fun st' a' w' hk ha=>⟨st',hk,ha⟩
 | seq a b=>obtain ⟨_,_,e,_⟩:=zbp hc;cases e
 | cond c a b=>obtain ⟨_,_,_,e,_⟩:=za6 hc;cases e
 | block id a=>obtain ⟨_,e,_⟩:=zay hc;cases e
 | loop a=>obtain ⟨_,e,_⟩:=za7 hc;cases e
 | rangeFunc f ps a b=>obtain ⟨_,_,_,e,_⟩:=zal hc;cases e
 | scope a=>obtain ⟨_,e,_⟩:=zaz hc;cases e
 | _=>simp [zae] at hc
theorem SW.seq {x y:ACode} (h:SW P x (zbd.then (fun st'=>SW P y κ st') κ) st):SW P (.seq x y) κ st:=by
 intro hm rd gs nt defs code hc S ms ow base O a w hr hrd hn
 cases code with
 | seq c1 c2 =>
  obtain ⟨_,_,e,hx,hy⟩:=zbp hc
  cases e
  refine wpIn_seq (wpIn_mono (h hm rd gs nt defs c1 hx S ms ow base O a w hr hrd hn) fun e a' w' hq=>?_)
  cases e with
  | normal =>
   obtain ⟨st',hk,ha⟩:=hq
   have hz:=ha.sz
   obtain ⟨⟨S',m',ow',hr',he⟩,hs,_⟩:=ha
   exact wpIn_mono (hk hm rd gs nt defs c2 hy S' _ ow' base O a' w' hr' (hrd.evo he) (by rw [hz];exact hn)) fun e a'' w'' hq'=>zgp he hs hz e a'' w'' hq'
  | exit id=>exact hq
  | ret=>exact hq
  | _=>exact hq.elim
 | region id ops draw=>obtain ⟨_,_,e⟩:=zau hc;cases e
 | cond c a b=>obtain ⟨_,_,_,e,_⟩:=za6 hc;cases e
 | block id a=>obtain ⟨_,e,_⟩:=zay hc;cases e
 | loop a=>obtain ⟨_,e,_⟩:=za7 hc;cases e
 | rangeFunc f ps a b=>obtain ⟨_,_,_,e,_⟩:=zal hc;cases e
 | scope a=>obtain ⟨_,e,_⟩:=zaz hc;cases e
 | _=>simp [zae] at hc
theorem SW.cond {c:AO} {x y:ACode} {t:Bool} (ht:ev st.1 c=.d (.bool t)) (h1:t=true→SW P x κ st) (h2:t=false→SW P y κ st):SW P (.cond c x y) κ st:=by
 intro hm rd gs nt defs code hc S ms ow base O a w hr hrd hn
 cases code with
 | cond c0 a0 b0 =>
  obtain ⟨_,_,_,e,hc',hx,hy⟩:=za6 hc
  cases e
  have hv:=zb hr.tmpT hc'
  rw [ht] at hv
  refine wpIn_cond (VRD.bool_inv hv) ?_
  cases t with
  | true=>exact h1 rfl hm rd gs nt defs a0 hx S ms ow base O a w hr hrd hn
  | false=>exact h2 rfl hm rd gs nt defs b0 hy S ms ow base O a w hr hrd hn
 | region id ops draw=>obtain ⟨_,_,e⟩:=zau hc;cases e
 | seq a b=>obtain ⟨_,_,e,_⟩:=zbp hc;cases e
 | block id a=>obtain ⟨_,e,_⟩:=zay hc;cases e
 | loop a=>obtain ⟨_,e,_⟩:=za7 hc;cases e
 | rangeFunc f ps a b=>obtain ⟨_,_,_,e,_⟩:=zal hc;cases e
 | scope a=>obtain ⟨_,e,_⟩:=zaz hc;cases e
 | _=>simp [zae] at hc
theorem SW.block {id:Nat} {x:ACode} (h:SW P x (zbd.inBlock id κ) st):SW P (.block id x) κ st:=by
 intro hm rd gs nt defs code hc S ms ow base O a w hr hrd hn
 cases code with
 | block id' c0 =>
  obtain ⟨_,e,hx⟩:=zay hc
  cases e
  refine wpIn_block (wpIn_mono (h hm rd gs nt defs c0 hx S ms ow base O a w hr hrd hn) fun e a' w' hq=>?_)
  cases e with
  | normal=>exact hq
  | exit id' =>
   obtain ⟨st',hk,ha⟩:=hq
   simp only [zbd.inBlock] at hk
   simp only [Exit.inBlock]
   split at hk
   · rename_i e;rw [if_pos e];exact ⟨st',hk,ha⟩
   · rename_i e;rw [if_neg e];exact ⟨st',hk,ha⟩
  | ret=>exact hq
  | _=>exact hq.elim
 | region id ops draw=>obtain ⟨_,_,e⟩:=zau hc;cases e
 | seq a b=>obtain ⟨_,_,e,_⟩:=zbp hc;cases e
 | cond c a b=>obtain ⟨_,_,_,e,_⟩:=za6 hc;cases e
 | loop a=>obtain ⟨_,e,_⟩:=za7 hc;cases e
 | rangeFunc f ps a b=>obtain ⟨_,_,_,e,_⟩:=zal hc;cases e
 | scope a=>obtain ⟨_,e,_⟩:=zaz hc;cases e
 | _=>simp [zae] at hc
theorem zca {P:Program} {b:Frame} {a:Act} {k:List Item} {cs:List Frame} {w:World} {c:Code}:step P (lone (b.atR a (.code (.scope c)::k)) cs w)=.next (lone (b.atR a (.code c::.inScope c::k)) cs w) :=
 step_lone_go (by simp [stepG,stepG.exec,Frame.atR])
theorem zkf {P:Program} {b:Frame} {a:Act} {k:List Item} {cs:List Frame} {w:World} {c:Code}:step P (lone (b.atR a (.inScope c::k)) cs w)=.next (lone (b.atR a k) cs w) :=
 step_lone_go (by simp [stepG,stepG.exec,Frame.atR])
theorem zfl {F:Fence} {n:Nat} {P:Program} {c:Code} {Q:Exit→Act→World→Prop} {a:Act} {w:World} (h:c.wpIn F n P (Exit.noGoto Q) a w):(Code.scope c).wpIn F n P Q a w:=by
 intro b k cs hro hb hr
 have h0:(lone (b.atR a (.code (.scope c)::k)) cs w).fenced P F:=fenced_calm hb hr rfl
 obtain ⟨e,a₁,w₁,hq,harr⟩:=h b (.inScope c::k) cs hro hb hr
 cases e with
 | normal=>exact ⟨.normal,a₁,w₁,hq,.head h0 zca (StepsIn.trans harr (.one (fenced_calm hb hr rfl) zkf))⟩
 | exit id =>
  have hx:exitTo id (.inScope c::k)=exitTo id k:=by simp [exitTo]
  exact ⟨.exit id,a₁,w₁,hq,fun k' hk=>.head h0 zca (harr.1 k' (by rw [hx];exact hk)),
   fun hr' hk=>let ⟨k₁,h1,h2⟩:=harr.2 hr' (by rw [hx];exact hk);⟨k₁,h1,.head h0 zca h2⟩⟩
 | goto l=>exact hq.elim
 | ret=>exact ⟨_,a₁,w₁,hq,.of_steps (.one h0 zca) harr⟩
 | panic ch=>exact ⟨_,a₁,w₁,hq,.of_steps (.one h0 zca) harr⟩
 | outgrown=>exact ⟨_,a₁,w₁,hq,.of_steps (.one h0 zca) harr⟩
theorem SW.scope {x:ACode} (h:SW P x κ st):SW P (.scope x) κ st:=by
 intro hm rd gs nt defs code hc S ms ow base O a w hr hrd hn
 cases code with
 | scope c0 =>
  obtain ⟨_,e,hx⟩:=zaz hc
  cases e
  refine zfl (wpIn_mono (h hm rd gs nt defs c0 hx S ms ow base O a w hr hrd hn) fun e a' w' hq=>?_)
  cases e with
  | normal=>exact hq
  | exit id'=>exact hq
  | ret=>exact hq
  | _=>exact hq.elim
 | region id ops draw=>obtain ⟨_,_,e⟩:=zau hc;cases e
 | seq a b=>obtain ⟨_,_,e,_⟩:=zbp hc;cases e
 | cond c a b=>obtain ⟨_,_,_,e,_⟩:=za6 hc;cases e
 | block id a=>obtain ⟨_,e,_⟩:=zay hc;cases e
 | loop a=>obtain ⟨_,e,_⟩:=za7 hc;cases e
 | rangeFunc f ps a b=>obtain ⟨_,_,_,e,_⟩:=zal hc;cases e
 | _=>simp [zae] at hc
theorem SW.loop {x:ACode} (I:Nat→St→Prop) {n:Nat} (h0:I n st) (round:∀ n st',I n st'→SW P x (zbd.then (fun st''=>∃ m st0,m<n∧zpk st'' st0∧I m st0) κ) st'):SW P (.loop x) κ st:=by
 intro hm rd gs nt defs code hc S ms ow base O a w hr hrd hn
 cases code with
 | loop c0 =>
  obtain ⟨_,e,hx⟩:=za7 hc
  cases e
  refine zmn (n:=n) (fun n a' w'=>∃ st',I n st'∧zbx S ms base O st.2.2.1 a w st' a' w') (fun n a' w' ⟨st',hI,ha⟩=>?_) ⟨st,h0,zbx.refl hr⟩
  have hz:=ha.sz
  obtain ⟨⟨S',m',ow',hr',he⟩,hs,_⟩:=ha
  refine wpIn_mono (round n st' hI hm rd gs nt defs c0 hx S' _ ow' base O a' w' hr' (hrd.evo he) (by rw [hz];exact hn)) fun e a'' w'' hq=>?_
  cases e with
  | normal =>
   obtain ⟨st'',⟨m,st0,hlt,hle,hI'⟩,ha'⟩:=hq
   have hz':=ha'.sz
   obtain ⟨⟨S'',m'',ow'',hr2,he2⟩,hs2,_⟩:=ha'
   obtain ⟨ow3,hr3⟩:=hr2.le (ρ':=st0.1) (L':=st0.2.1) (G':=st0.2.2.2) hle.e hle.l hle.g
   refine ⟨m,hlt,st0,hI',⟨⟨S'',m'',ow3,?_,he.trans he2⟩,by rw [hle.s];exact hs.trans hs2,hz'.trans hz⟩⟩
   rw [hle.s]
   simpa using hr3
  | exit id=>exact zgp he hs hz (.exit id) a'' w'' hq
  | ret=>exact zgp he hs hz .ret a'' w'' hq
  | _=>exact hq.elim
 | region id ops draw=>obtain ⟨_,_,e⟩:=zau hc;cases e
 | seq a b=>obtain ⟨_,_,e,_⟩:=zbp hc;cases e
 | cond c a b=>obtain ⟨_,_,_,e,_⟩:=za6 hc;cases e
 | block id a=>obtain ⟨_,e,_⟩:=zay hc;cases e
 | rangeFunc f ps a b=>obtain ⟨_,_,_,e,_⟩:=zal hc;cases e
 | scope a=>obtain ⟨_,e,_⟩:=zaz hc;cases e
 | _=>simp [zae] at hc
end
end Go.E2
