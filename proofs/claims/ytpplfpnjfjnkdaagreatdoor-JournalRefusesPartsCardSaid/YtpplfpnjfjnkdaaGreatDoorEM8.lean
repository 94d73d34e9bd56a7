/-
 What holds of where a piece of code comes to,zau the evaluator's states;the machine does the same.
 Conditions: none;definitions and laws.
-/
import Derived.Test.YtpplfpnjfjnkdaaGreatDoorEV
import Derived.Scope
namespace Go.E2
theorem zp7 {F:Fence} {nn:Nat} {P:Program} {c:Code} {Q:Exit→Act→World→Prop} (I:Nat→Act→World→Prop)
 (round:∀ n a w,I n a w→c.wpIn F nn P (Exit.then (fun a' w'=>∃ m,m<n∧I m a' w') Q) a w) {n:Nat} {a:Act} {w:World} (h₀:I n a w):(Code.loop c).wpIn F nn P Q a w:=by
 intro b k cs hro hb hr
 have key:∀ n a w,I n a w→∃ e a' w',Q e a' w'∧ArrivesIn (Machine.fenced P F) P (lone (b.atR a (.code c::.inLoop c::k)) cs w) b k cs e a' w':=by
  intro n
  induction n using Nat.strongRecOn with
  | _ n ih =>
   intro a w hI
   obtain ⟨e,a₁,w₁,hq,harr⟩:=round n a w hI b (.inLoop c::k) cs hro hb hr
   cases e with
   | normal =>
    obtain ⟨m,hlt,hI₁⟩:=hq
    obtain ⟨e₂,a₂,w₂,hq₂,harr₂⟩:=ih m hlt a₁ w₁ hI₁
    exact ⟨e₂,a₂,w₂,hq₂,.of_steps (StepsIn.trans harr (.one (fenced_calm hb hr rfl) stepR_inLoop)) harr₂⟩
   | exit id=>exact ⟨_,a₁,w₁,hq,.pass (x:=.inLoop c) rfl (fun _ _=>.inl (by simp)) harr⟩
   | goto l=>exact ⟨_,a₁,w₁,hq,.pass (x:=.inLoop c) rfl (fun _ _=>.inl (by simp)) harr⟩
   | ret=>exact ⟨_,a₁,w₁,hq,.pass (x:=.inLoop c) rfl (fun _ _=>.inl (by simp)) harr⟩
   | panic ch=>exact ⟨_,a₁,w₁,hq,.pass (x:=.inLoop c) rfl (fun _ _=>.inl (by simp)) harr⟩
   | outgrown=>exact ⟨_,a₁,w₁,hq,.pass (x:=.inLoop c) rfl (fun _ _=>.inl (by simp)) harr⟩
 obtain ⟨e,a',w',hq,harr⟩:=key n a w h₀
 exact ⟨e,a',w',hq,.of_steps (.one (fenced_calm hb hr rfl) stepR_loop) harr⟩
def zyp (rd:Option Nat) (base:Nat) (O:Nat→Prop) (w:World):Prop:=∀ l,rd=some l→l<base∧¬ O l∧∃ r,w.heap[l]?=some (.loop r)
theorem zyp.none {base:Nat} {O:Nat→Prop} {w:World}:zyp none base O w:=fun _ e=>(by cases e)
theorem zyp.evo {rd:Option Nat} {base:Nat} {O:Nat→Prop} {S S':Stb} {w w':World} (h:zyp rd base O w) (he:Evo base O S w S' w'):zyp rd base O w':=fun l e=>by
 obtain ⟨h1,h2,r,h3⟩:=h l e
 exact ⟨h1,h2,r,by rw [he.keep l h1 h2];exact h3⟩
def zby.then (next:St→Prop) (κ:zby→St→Prop):zby→St→Prop
 | .normal,st=>next st
 | e,st=>κ e st
def zby.inBlock (id:Nat) (κ:zby→St→Prop):zby→St→Prop
 | .exit id',st=>if id'=id then κ .normal st else κ (.exit id') st
 | e,st=>κ e st
def outQ (S:Stb) (ms:List (Nat→Nat)) (base:Nat) (O:Nat→Prop) (σ:List Hp) (a:Act) (w:World) (κ:zby→St→Prop):Exit→Act→World→Prop
 | .normal,a',w'=>∃ st,κ .normal st∧zch S ms base O σ a w st a' w'
 | .exit id,a',w'=>∃ st,κ (.exit id) st∧zch S ms base O σ a w st a' w'
 | .ret,a',w'=>∃ st,κ .ret st∧zch S ms base O σ a w st a' w'
 | _,_,_=>False
theorem zch.trans {S S':Stb} {ms:List (Nat→Nat)} {m':Nat→Nat} {base:Nat} {O:Nat→Prop} {σ σ':List Hp} {a a' a'':Act} {w w' w'':World} {st:St} (he:Evo base O S w S' w') (hs:zam σ σ') (hz:a'.tmps.size=a.tmps.size)
 (h:zch S' (m'::ms.tail) base O σ' a' w' st a'' w''):zch S ms base O σ a w st a'' w'':=by
 obtain ⟨⟨S'',m'',ow'',hr,he'⟩,hs',hz'⟩:=h
 exact ⟨⟨S'',m'',ow'',by simpa using hr,he.trans he'⟩,hs.trans hs',hz'.trans hz⟩
def SW (P:Program) (ac:ACode) (κ:zby→St→Prop) (st:St):Prop :=
 P.follows .mixedOrders=true→∀ (rd:Option Nat) (gs:List Nat) (nt:Nat) (defs:List Oper) (code:Code),zav P gs nt defs code=some ac →
 ∀ (S:Stb) (ms:List (Nat→Nat)) (ow:Nat→Option Nat) (base:Nat) (O:Nat→Prop) (a:Act) (w:World),Rel S ms ow base O st.1 st.2.1 st.2.2.1 st.2.2.2 a w→zyp rd base O w→nt≤a.tmps.size→code.wpIn (FW rd) 0 P (outQ S ms base O st.2.2.1 a w κ) a w
section
variable {P:Program} {κ κ':zby→St→Prop} {st st':St}
theorem zic {S S':Stb} {ms:List (Nat→Nat)} {m':Nat→Nat} {base:Nat} {O:Nat→Prop} {σ σ':List Hp} {a a':Act} {w w':World} (he:Evo base O S w S' w') (hs:zam σ σ') (hz:a'.tmps.size=a.tmps.size) :
 ∀ e a'' w'',outQ S' (m'::ms.tail) base O σ' a' w' κ e a'' w''→outQ S ms base O σ a w κ e a'' w'':=by
 intro e a'' w'' h
 cases e with
 | normal=>obtain ⟨st,h1,h2⟩:=h;exact ⟨st,h1,zch.trans he hs hz h2⟩
 | exit id=>obtain ⟨st,h1,h2⟩:=h;exact ⟨st,h1,zch.trans he hs hz h2⟩
 | ret=>obtain ⟨st,h1,h2⟩:=h;exact ⟨st,h1,zch.trans he hs hz h2⟩
 | _=>exact h.elim
theorem SW.weaken {c:ACode} (hl:zwg st st') (h:SW P c κ st'):SW P c κ st:=by
 intro hm rd gs nt defs code hc S ms ow base O a w hr hrd hn
 obtain ⟨ow',hr'⟩:=hr.le (ρ':=st'.1) (L':=st'.2.1) (G':=st'.2.2.2) hl.e hl.l hl.g
 have:=h hm rd gs nt defs code hc S ms ow' base O a w (by rw [hl.s];exact hr') hrd hn
 rw [hl.s] at this
 exact this
theorem zbb {gs:List Nat} {nt:Nat} {defs:List Oper} {id:Nat} {ops:Array Oper} {draw:Bool} {ac:ACode} (h:zav P gs nt defs (.region id ops draw)=some ac):∃ d as,ac=.reg d as:=by
 simp only [zav] at h
 split at h
 · split at h
   · split at h
     · simp only [yk8Q] at h
       obtain ⟨l,_,e⟩:=h
       exact ⟨_,_,e.symm⟩
     · cases h
   · cases h;exact ⟨_,_,rfl⟩
 · cases h
theorem zca {gs:List Nat} {nt:Nat} {defs:List Oper} {a b:Code} {ac:ACode} (h:zav P gs nt defs (.seq a b)=some ac):∃ x y,ac=.seq x y∧zav P gs nt defs a=some x∧zav P gs nt defs b=some y:=by
 simp only [zav] at h
 split at h
 · rename_i x y hx hy;cases h;exact ⟨x,y,rfl,hx,hy⟩
 · cases h
theorem zbs {gs:List Nat} {nt:Nat} {defs:List Oper} {c:Operand} {a b:Code} {ac:ACode} (h:zav P gs nt defs (.cond c a b)=some ac):∃ c' x y,ac=.cond c' x y∧cO c=some c'∧zav P gs nt defs a=some x∧zav P gs nt defs b=some y:=by
 simp only [zav] at h
 split at h
 · rename_i c' x y hc hx hy;cases h;exact ⟨c',x,y,rfl,hc,hx,hy⟩
 · cases h
theorem zbe {gs:List Nat} {nt:Nat} {defs:List Oper} {id:Nat} {a:Code} {ac:ACode} (h:zav P gs nt defs (.block id a)=some ac):∃ x,ac=.block id x∧zav P gs nt defs a=some x:=by
 simp only [zav,yk8Q] at h
 obtain ⟨x,hx,rfl⟩:=h
 exact ⟨x,rfl,hx⟩
theorem zbt {gs:List Nat} {nt:Nat} {defs:List Oper} {a:Code} {ac:ACode} (h:zav P gs nt defs (.loop a)=some ac):∃ x,ac=.loop x∧zav P gs nt defs a=some x:=by
 simp only [zav,yk8Q] at h
 obtain ⟨x,hx,rfl⟩:=h
 exact ⟨x,rfl,hx⟩
theorem zbf {gs:List Nat} {nt:Nat} {defs:List Oper} {a:Code} {ac:ACode} (h:zav P gs nt defs (.scope a)=some ac):∃ x,ac=.scope x∧zav P gs nt defs a=some x:=by
 simp only [zav,yk8Q] at h
 obtain ⟨x,hx,rfl⟩:=h
 exact ⟨x,rfl,hx⟩
theorem za3 {gs:List Nat} {nt:Nat} {defs:List Oper} {f:Operand} {ps:Array Tmp} {a b:Code} {ac:ACode} (h:zav P gs nt defs (.rangeFunc f ps a b)=some ac) :
 ∃ f' x y,ac=.rangeF f' ps.toList x y∧cO f=some f'∧zav P gs nt (zcu a++zcu b) a=some x∧zav P gs nt (zcu a++zcu b) b=some y∧∀ t∈ps.toList,t<nt:=by
 simp only [zav] at h
 split at h
 · rename_i f' x y hf hx hy
   split at h
   · rename_i hp
     cases h
     refine ⟨f',x,y,rfl,hf,hx,hy,fun t ht=>?_⟩
     rw [Array.all_eq_true_iff_forall_mem] at hp
     simpa using hp t (by simpa using ht)
   · cases h
 · cases h
theorem SW.skip (h:κ .normal st):SW P .skip κ st:=by
 intro hm rd gs nt defs code hc S ms ow base O a w hr hrd hn
 cases code with
 | skip=>exact wpIn_skip ⟨st,h,zch.refl hr⟩
 | label l=>exact wpIn_label ⟨st,h,zch.refl hr⟩
 | region id ops draw=>obtain ⟨_,_,e⟩:=zbb hc;cases e
 | seq a b=>obtain ⟨_,_,e,_⟩:=zca hc;cases e
 | cond c a b=>obtain ⟨_,_,_,e,_⟩:=zbs hc;cases e
 | block id a=>obtain ⟨_,e,_⟩:=zbe hc;cases e
 | loop a=>obtain ⟨_,e,_⟩:=zbt hc;cases e
 | rangeFunc f ps a b=>obtain ⟨_,_,_,e,_⟩:=za3 hc;cases e
 | scope a=>obtain ⟨_,e,_⟩:=zbf hc;cases e
 | _=>simp [zav] at hc
theorem SW.exit {id:Nat} (h:κ (.exit id) st):SW P (.exit id) κ st:=by
 intro hm rd gs nt defs code hc S ms ow base O a w hr hrd hn
 cases code with
 | exit id'=>simp [zav] at hc;subst hc;exact wpIn_exit ⟨st,h,zch.refl hr⟩
 | region id ops draw=>obtain ⟨_,_,e⟩:=zbb hc;cases e
 | seq a b=>obtain ⟨_,_,e,_⟩:=zca hc;cases e
 | cond c a b=>obtain ⟨_,_,_,e,_⟩:=zbs hc;cases e
 | block id a=>obtain ⟨_,e,_⟩:=zbe hc;cases e
 | loop a=>obtain ⟨_,e,_⟩:=zbt hc;cases e
 | rangeFunc f ps a b=>obtain ⟨_,_,_,e,_⟩:=za3 hc;cases e
 | scope a=>obtain ⟨_,e,_⟩:=zbf hc;cases e
 | _=>simp [zav] at hc
theorem SW.ret (h:κ .ret st):SW P .ret κ st:=by
 intro hm rd gs nt defs code hc S ms ow base O a w hr hrd hn
 cases code with
 | ret=>exact wpIn_ret ⟨st,h,zch.refl hr⟩
 | region id ops draw=>obtain ⟨_,_,e⟩:=zbb hc;cases e
 | seq a b=>obtain ⟨_,_,e,_⟩:=zca hc;cases e
 | cond c a b=>obtain ⟨_,_,_,e,_⟩:=zbs hc;cases e
 | block id a=>obtain ⟨_,e,_⟩:=zbe hc;cases e
 | loop a=>obtain ⟨_,e,_⟩:=zbt hc;cases e
 | rangeFunc f ps a b=>obtain ⟨_,_,_,e,_⟩:=za3 hc;cases e
 | scope a=>obtain ⟨_,e,_⟩:=zbf hc;cases e
 | _=>simp [zav] at hc
theorem SW.reg {d:Bool} {os:List AI} (h:zaw P os st.1 st.2.1 st.2.2.1 st.2.2.2 (κ .normal)):SW P (.reg d os) κ st:=by
 intro hm rd gs nt defs code hc S ms ow base O a w hr hrd hn
 cases code with
 | region id ops draw=>exact zvb hm hc hr hn h fun st' a' w' hk ha=>⟨st',hk,ha⟩
 | seq a b=>obtain ⟨_,_,e,_⟩:=zca hc;cases e
 | cond c a b=>obtain ⟨_,_,_,e,_⟩:=zbs hc;cases e
 | block id a=>obtain ⟨_,e,_⟩:=zbe hc;cases e
 | loop a=>obtain ⟨_,e,_⟩:=zbt hc;cases e
 | rangeFunc f ps a b=>obtain ⟨_,_,_,e,_⟩:=za3 hc;cases e
 | scope a=>obtain ⟨_,e,_⟩:=zbf hc;cases e
 | _=>simp [zav] at hc
theorem SW.seq {x y:ACode} (h:SW P x (zby.then (fun st'=>SW P y κ st') κ) st):SW P (.seq x y) κ st:=by
 intro hm rd gs nt defs code hc S ms ow base O a w hr hrd hn
 cases code with
 | seq c1 c2 =>
  obtain ⟨_,_,e,hx,hy⟩:=zca hc
  cases e
  refine wpIn_seq (wpIn_mono (h hm rd gs nt defs c1 hx S ms ow base O a w hr hrd hn) fun e a' w' hq=>?_)
  cases e with
  | normal =>
   obtain ⟨st',hk,ha⟩:=hq
   have hz:=ha.sz
   obtain ⟨⟨S',m',ow',hr',he⟩,hs,_⟩:=ha
   exact wpIn_mono (hk hm rd gs nt defs c2 hy S' _ ow' base O a' w' hr' (hrd.evo he) (by rw [hz];exact hn)) fun e a'' w'' hq'=>zic he hs hz e a'' w'' hq'
  | exit id=>exact hq
  | ret=>exact hq
  | _=>exact hq.elim
 | region id ops draw=>obtain ⟨_,_,e⟩:=zbb hc;cases e
 | cond c a b=>obtain ⟨_,_,_,e,_⟩:=zbs hc;cases e
 | block id a=>obtain ⟨_,e,_⟩:=zbe hc;cases e
 | loop a=>obtain ⟨_,e,_⟩:=zbt hc;cases e
 | rangeFunc f ps a b=>obtain ⟨_,_,_,e,_⟩:=za3 hc;cases e
 | scope a=>obtain ⟨_,e,_⟩:=zbf hc;cases e
 | _=>simp [zav] at hc
theorem SW.cond {c:AO} {x y:ACode} {t:Bool} (ht:ev st.1 c=.d (.bool t)) (h1:t=true→SW P x κ st) (h2:t=false→SW P y κ st):SW P (.cond c x y) κ st:=by
 intro hm rd gs nt defs code hc S ms ow base O a w hr hrd hn
 cases code with
 | cond c0 a0 b0 =>
  obtain ⟨_,_,_,e,hc',hx,hy⟩:=zbs hc
  cases e
  have hv:=zc hr.tmpT hc'
  rw [ht] at hv
  refine wpIn_cond (VRD.bool_inv hv) ?_
  cases t with
  | true=>exact h1 rfl hm rd gs nt defs a0 hx S ms ow base O a w hr hrd hn
  | false=>exact h2 rfl hm rd gs nt defs b0 hy S ms ow base O a w hr hrd hn
 | region id ops draw=>obtain ⟨_,_,e⟩:=zbb hc;cases e
 | seq a b=>obtain ⟨_,_,e,_⟩:=zca hc;cases e
 | block id a=>obtain ⟨_,e,_⟩:=zbe hc;cases e
 | loop a=>obtain ⟨_,e,_⟩:=zbt hc;cases e
 | rangeFunc f ps a b=>obtain ⟨_,_,_,e,_⟩:=za3 hc;cases e
 | scope a=>obtain ⟨_,e,_⟩:=zbf hc;cases e
 | _=>simp [zav] at hc
theorem SW.block {id:Nat} {x:ACode} (h:SW P x (zby.inBlock id κ) st):SW P (.block id x) κ st:=by
 intro hm rd gs nt defs code hc S ms ow base O a w hr hrd hn
 cases code with
 | block id' c0 =>
  obtain ⟨_,e,hx⟩:=zbe hc
  cases e
  refine wpIn_block (wpIn_mono (h hm rd gs nt defs c0 hx S ms ow base O a w hr hrd hn) fun e a' w' hq=>?_)
  cases e with
  | normal=>exact hq
  | exit id' =>
   obtain ⟨st',hk,ha⟩:=hq
   simp only [zby.inBlock] at hk
   simp only [Exit.inBlock]
   split at hk
   · rename_i e;rw [if_pos e];exact ⟨st',hk,ha⟩
   · rename_i e;rw [if_neg e];exact ⟨st',hk,ha⟩
  | ret=>exact hq
  | _=>exact hq.elim
 | region id ops draw=>obtain ⟨_,_,e⟩:=zbb hc;cases e
 | seq a b=>obtain ⟨_,_,e,_⟩:=zca hc;cases e
 | cond c a b=>obtain ⟨_,_,_,e,_⟩:=zbs hc;cases e
 | loop a=>obtain ⟨_,e,_⟩:=zbt hc;cases e
 | rangeFunc f ps a b=>obtain ⟨_,_,_,e,_⟩:=za3 hc;cases e
 | scope a=>obtain ⟨_,e,_⟩:=zbf hc;cases e
 | _=>simp [zav] at hc
theorem zcz {P:Program} {b:Frame} {a:Act} {k:List Item} {cs:List Frame} {w:World} {c:Code}:step P (lone (b.atR a (.code (.scope c)::k)) cs w)=.next (lone (b.atR a (.code c::.inScope c::k)) cs w) :=
 step_lone_go (by simp [stepG,stepG.exec,Frame.atR])
theorem zmt {P:Program} {b:Frame} {a:Act} {k:List Item} {cs:List Frame} {w:World} {c:Code}:step P (lone (b.atR a (.inScope c::k)) cs w)=.next (lone (b.atR a k) cs w) :=
 step_lone_go (by simp [stepG,stepG.exec,Frame.atR])
theorem zgs {F:Fence} {n:Nat} {P:Program} {c:Code} {Q:Exit→Act→World→Prop} {a:Act} {w:World} (h:c.wpIn F n P (Exit.noGoto Q) a w):(Code.scope c).wpIn F n P Q a w:=by
 intro b k cs hro hb hr
 have h0:(lone (b.atR a (.code (.scope c)::k)) cs w).fenced P F:=fenced_calm hb hr rfl
 obtain ⟨e,a₁,w₁,hq,harr⟩:=h b (.inScope c::k) cs hro hb hr
 cases e with
 | normal=>exact ⟨.normal,a₁,w₁,hq,.head h0 zcz (StepsIn.trans harr (.one (fenced_calm hb hr rfl) zmt))⟩
 | exit id =>
  have hx:exitTo id (.inScope c::k)=exitTo id k:=by simp [exitTo]
  exact ⟨.exit id,a₁,w₁,hq,fun k' hk=>.head h0 zcz (harr.1 k' (by rw [hx];exact hk)),
   fun hr' hk=>let ⟨k₁,h1,h2⟩:=harr.2 hr' (by rw [hx];exact hk);⟨k₁,h1,.head h0 zcz h2⟩⟩
 | goto l=>exact hq.elim
 | ret=>exact ⟨_,a₁,w₁,hq,.of_steps (.one h0 zcz) harr⟩
 | panic ch=>exact ⟨_,a₁,w₁,hq,.of_steps (.one h0 zcz) harr⟩
 | outgrown=>exact ⟨_,a₁,w₁,hq,.of_steps (.one h0 zcz) harr⟩
theorem SW.scope {x:ACode} (h:SW P x κ st):SW P (.scope x) κ st:=by
 intro hm rd gs nt defs code hc S ms ow base O a w hr hrd hn
 cases code with
 | scope c0 =>
  obtain ⟨_,e,hx⟩:=zbf hc
  cases e
  refine zgs (wpIn_mono (h hm rd gs nt defs c0 hx S ms ow base O a w hr hrd hn) fun e a' w' hq=>?_)
  cases e with
  | normal=>exact hq
  | exit id'=>exact hq
  | ret=>exact hq
  | _=>exact hq.elim
 | region id ops draw=>obtain ⟨_,_,e⟩:=zbb hc;cases e
 | seq a b=>obtain ⟨_,_,e,_⟩:=zca hc;cases e
 | cond c a b=>obtain ⟨_,_,_,e,_⟩:=zbs hc;cases e
 | block id a=>obtain ⟨_,e,_⟩:=zbe hc;cases e
 | loop a=>obtain ⟨_,e,_⟩:=zbt hc;cases e
 | rangeFunc f ps a b=>obtain ⟨_,_,_,e,_⟩:=za3 hc;cases e
 | _=>simp [zav] at hc
theorem SW.loop {x:ACode} (I:Nat→St→Prop) {n:Nat} (h0:I n st) (round:∀ n st',I n st'→SW P x (zby.then (fun st''=>∃ m st0,m<n∧zwg st'' st0∧I m st0) κ) st'):SW P (.loop x) κ st:=by
 intro hm rd gs nt defs code hc S ms ow base O a w hr hrd hn
 cases code with
 | loop c0 =>
  obtain ⟨_,e,hx⟩:=zbt hc
  cases e
  refine zp7 (n:=n) (fun n a' w'=>∃ st',I n st'∧zch S ms base O st.2.2.1 a w st' a' w') (fun n a' w' ⟨st',hI,ha⟩=>?_) ⟨st,h0,zch.refl hr⟩
  have hz:=ha.sz
  obtain ⟨⟨S',m',ow',hr',he⟩,hs,_⟩:=ha
  refine wpIn_mono (round n st' hI hm rd gs nt defs c0 hx S' _ ow' base O a' w' hr' (hrd.evo he) (by rw [hz];exact hn)) fun e a'' w'' hq=>?_
  cases e with
  | normal =>
   obtain ⟨st'',⟨m,st0,hlt,hle,hI'⟩,ha'⟩:=hq
   have hz':=ha'.sz
   obtain ⟨⟨S'',m'',ow'',hr2,he2⟩,hs2,_⟩:=ha'
   obtain ⟨ow3,hr3⟩:=hr2.le (ρ':=st0.1) (L':=st0.2.1) (G':=st0.2.2.2) hle.e hle.l hle.g
   refine ⟨m,hlt,st0,hI',⟨⟨S'',m'',ow3,?_,he.trans he2⟩,by rw [hle.s];exact hs.trans hs2,hz'.trans hz⟩⟩
   rw [hle.s]
   simpa using hr3
  | exit id=>exact zic he hs hz (.exit id) a'' w'' hq
  | ret=>exact zic he hs hz .ret a'' w'' hq
  | _=>exact hq.elim
 | region id ops draw=>obtain ⟨_,_,e⟩:=zbb hc;cases e
 | seq a b=>obtain ⟨_,_,e,_⟩:=zca hc;cases e
 | cond c a b=>obtain ⟨_,_,_,e,_⟩:=zbs hc;cases e
 | block id a=>obtain ⟨_,e,_⟩:=zbe hc;cases e
 | rangeFunc f ps a b=>obtain ⟨_,_,_,e,_⟩:=za3 hc;cases e
 | scope a=>obtain ⟨_,e,_⟩:=zbf hc;cases e
 | _=>simp [zav] at hc
