/-
 What holds of where a piece of code comes to,over the evaluator's states; the machine does the same.
 Conditions: none; definitions and laws.
-/
import Derived.Test.YtclmdhceceacoaaGreatDoorEV
import Derived.Scope
namespace Go.E2
theorem wpIn_loop_n {F:Fence} {nn:Nat} {P:Program} {c:Code} {Q:Exit→Act→World→Prop} (I:Nat→Act→World→Prop)
 (round:∀ n a w,I n a w→c.wpIn F nn P (Exit.then (fun a' w'=>∃ m,m < n∧I m a' w') Q) a w) {n:Nat} {a:Act} {w:World} (h₀:I n a w):(Code.loop c).wpIn F nn P Q a w:=by
 intro b k cs hro hb hr
 have key:∀ n a w,I n a w→∃ e a' w',Q e a' w'∧ArrivesIn (Machine.fenced P F) P (lone (b.atR a (.code c::.inLoop c::k)) cs w) b k cs e a' w':=by
  intro n
  induction n using Nat.strongRecOn with
  | _ n ih =>
   intro a w hI
   obtain ⟨e,a₁,w₁,hq,harr⟩:=round n a w hI b (.inLoop c::k) cs hro hb hr
   cases e with
   | normal =>
    obtain ⟨m,hlt,hI₁⟩:=hq
    obtain ⟨e₂,a₂,w₂,hq₂,harr₂⟩:=ih m hlt a₁ w₁ hI₁
    exact ⟨e₂,a₂,w₂,hq₂,.of_steps (StepsIn.trans harr (.one (fenced_calm hb hr rfl) stepR_inLoop)) harr₂⟩
   | exit id=>exact ⟨_,a₁,w₁,hq,.pass (x:=.inLoop c) rfl (fun _ _=>.inl (by simp)) harr⟩
   | goto l=>exact ⟨_,a₁,w₁,hq,.pass (x:=.inLoop c) rfl (fun _ _=>.inl (by simp)) harr⟩
   | ret=>exact ⟨_,a₁,w₁,hq,.pass (x:=.inLoop c) rfl (fun _ _=>.inl (by simp)) harr⟩
   | panic ch=>exact ⟨_,a₁,w₁,hq,.pass (x:=.inLoop c) rfl (fun _ _=>.inl (by simp)) harr⟩
   | outgrown=>exact ⟨_,a₁,w₁,hq,.pass (x:=.inLoop c) rfl (fun _ _=>.inl (by simp)) harr⟩
 obtain ⟨e,a',w',hq,harr⟩:=key n a w h₀
 exact ⟨e,a',w',hq,.of_steps (.one (fenced_calm hb hr rfl) stepR_loop) harr⟩
def RdOk (rd:Option Nat) (base:Nat) (O:Nat→Prop) (w:World):Prop:=∀ l,rd=some l→l < base∧¬ O l∧∃ r,w.heap[l]?=some (.loop r)
theorem RdOk.none {base:Nat} {O:Nat→Prop} {w:World}:RdOk none base O w:=fun _ e=>(by cases e)
theorem RdOk.evo {rd:Option Nat} {base:Nat} {O:Nat→Prop} {S S':Stb} {w w':World} (h:RdOk rd base O w) (he:Evo base O S w S' w'):RdOk rd base O w':=fun l e=>by
 obtain ⟨h1,h2,r,h3⟩:=h l e
 exact ⟨h1,h2,r,by rw [he.keep l h1 h2]; exact h3⟩
def AExit.then (next:St→Prop) (κ:AExit→St→Prop):AExit→St→Prop
 | .normal,st=>next st
 | e,st=>κ e st
def AExit.inBlock (id:Nat) (κ:AExit→St→Prop):AExit→St→Prop
 | .exit id',st=>if id'=id then κ .normal st else κ (.exit id') st
 | e,st=>κ e st
def outQ (S:Stb) (ms:List (Nat→Nat)) (base:Nat) (O:Nat→Prop) (σ:List Hp) (a:Act) (w:World) (κ:AExit→St→Prop):Exit→Act→World→Prop
 | .normal,a',w'=>∃ st,κ .normal st∧After S ms base O σ a w st a' w'
 | .exit id,a',w'=>∃ st,κ (.exit id) st∧After S ms base O σ a w st a' w'
 | .ret,a',w'=>∃ st,κ .ret st∧After S ms base O σ a w st a' w'
 | _,_,_=>False
theorem After.trans {S S':Stb} {ms:List (Nat→Nat)} {m':Nat→Nat} {base:Nat} {O:Nat→Prop} {σ σ':List Hp} {a a' a'':Act} {w w' w'':World} {st:St} (he:Evo base O S w S' w') (hs:Shape σ σ') (hz:a'.tmps.size=a.tmps.size)
 (h:After S' (m'::ms.tail) base O σ' a' w' st a'' w''):After S ms base O σ a w st a'' w'':=by
 obtain ⟨⟨S'',m'',ow'',hr,he'⟩,hs',hz'⟩:=h
 exact ⟨⟨S'',m'',ow'',by simpa using hr,he.trans he'⟩,hs.trans hs',hz'.trans hz⟩
def SW (P:Program) (ac:ACode) (κ:AExit→St→Prop) (st:St):Prop :=
 P.follows .mixedOrders=true→∀ (rd:Option Nat) (gs:List Nat) (nt:Nat) (defs:List Oper) (code:Code),cCode P gs nt defs code=some ac →
 ∀ (S:Stb) (ms:List (Nat→Nat)) (ow:Nat→Option Nat) (base:Nat) (O:Nat→Prop) (a:Act) (w:World),Rel S ms ow base O st.1 st.2.1 st.2.2.1 st.2.2.2 a w→RdOk rd base O w→nt≤a.tmps.size→code.wpIn (FW rd) 0 P (outQ S ms base O st.2.2.1 a w κ) a w
section
variable {P:Program} {κ κ':AExit→St→Prop} {st st':St}
theorem outQ_mono {S:Stb} {ms:List (Nat→Nat)} {base:Nat} {O:Nat→Prop} {σ:List Hp} {a:Act} {w:World} (hk:∀ e st,κ e st→κ' e st):∀ e a' w',outQ S ms base O σ a w κ e a' w'→outQ S ms base O σ a w κ' e a' w':=by
 intro e a' w' h
 cases e with
 | normal=>obtain ⟨st,h1,h2⟩:=h; exact ⟨st,hk _ _ h1,h2⟩
 | exit id=>obtain ⟨st,h1,h2⟩:=h; exact ⟨st,hk _ _ h1,h2⟩
 | ret=>obtain ⟨st,h1,h2⟩:=h; exact ⟨st,hk _ _ h1,h2⟩
 | _=>exact h.elim
theorem outQ_chain {S S':Stb} {ms:List (Nat→Nat)} {m':Nat→Nat} {base:Nat} {O:Nat→Prop} {σ σ':List Hp} {a a':Act} {w w':World} (he:Evo base O S w S' w') (hs:Shape σ σ') (hz:a'.tmps.size=a.tmps.size) :
 ∀ e a'' w'',outQ S' (m'::ms.tail) base O σ' a' w' κ e a'' w''→outQ S ms base O σ a w κ e a'' w'':=by
 intro e a'' w'' h
 cases e with
 | normal=>obtain ⟨st,h1,h2⟩:=h; exact ⟨st,h1,After.trans he hs hz h2⟩
 | exit id=>obtain ⟨st,h1,h2⟩:=h; exact ⟨st,h1,After.trans he hs hz h2⟩
 | ret=>obtain ⟨st,h1,h2⟩:=h; exact ⟨st,h1,After.trans he hs hz h2⟩
 | _=>exact h.elim
theorem SW.mono {c:ACode} (h:SW P c κ st) (hk:∀ e st,κ e st→κ' e st):SW P c κ' st :=
 fun hm rd gs nt defs code hc S ms ow base O a w hr hrd hn=>wpIn_mono (h hm rd gs nt defs code hc S ms ow base O a w hr hrd hn) (outQ_mono hk)
theorem SW.weaken {c:ACode} (hl:StLe st st') (h:SW P c κ st'):SW P c κ st:=by
 intro hm rd gs nt defs code hc S ms ow base O a w hr hrd hn
 obtain ⟨ow',hr'⟩:=hr.le (ρ':=st'.1) (L':=st'.2.1) (G':=st'.2.2.2) hl.e hl.l hl.g
 have:=h hm rd gs nt defs code hc S ms ow' base O a w (by rw [hl.s]; exact hr') hrd hn
 rw [hl.s] at this
 exact this
theorem cCode_region {gs:List Nat} {nt:Nat} {defs:List Oper} {id:Nat} {ops:Array Oper} {draw:Bool} {ac:ACode} (h:cCode P gs nt defs (.region id ops draw)=some ac):∃ d as,ac=.reg d as:=by
 simp only [cCode] at h
 split at h
 · split at h
   · split at h
     · simp only [Option.map_eq_some_iff] at h
       obtain ⟨l,_,e⟩:=h
       exact ⟨_,_,e.symm⟩
     · cases h
   · cases h; exact ⟨_,_,rfl⟩
 · cases h
theorem cCode_seq {gs:List Nat} {nt:Nat} {defs:List Oper} {a b:Code} {ac:ACode} (h:cCode P gs nt defs (.seq a b)=some ac):∃ x y,ac=.seq x y∧cCode P gs nt defs a=some x∧cCode P gs nt defs b=some y:=by
 simp only [cCode] at h
 split at h
 · rename_i x y hx hy; cases h; exact ⟨x,y,rfl,hx,hy⟩
 · cases h
theorem cCode_cond {gs:List Nat} {nt:Nat} {defs:List Oper} {c:Operand} {a b:Code} {ac:ACode} (h:cCode P gs nt defs (.cond c a b)=some ac):∃ c' x y,ac=.cond c' x y∧cO c=some c'∧cCode P gs nt defs a=some x∧cCode P gs nt defs b=some y:=by
 simp only [cCode] at h
 split at h
 · rename_i c' x y hc hx hy; cases h; exact ⟨c',x,y,rfl,hc,hx,hy⟩
 · cases h
theorem cCode_block {gs:List Nat} {nt:Nat} {defs:List Oper} {id:Nat} {a:Code} {ac:ACode} (h:cCode P gs nt defs (.block id a)=some ac):∃ x,ac=.block id x∧cCode P gs nt defs a=some x:=by
 simp only [cCode,Option.map_eq_some_iff] at h
 obtain ⟨x,hx,rfl⟩:=h
 exact ⟨x,rfl,hx⟩
theorem cCode_loop {gs:List Nat} {nt:Nat} {defs:List Oper} {a:Code} {ac:ACode} (h:cCode P gs nt defs (.loop a)=some ac):∃ x,ac=.loop x∧cCode P gs nt defs a=some x:=by
 simp only [cCode,Option.map_eq_some_iff] at h
 obtain ⟨x,hx,rfl⟩:=h
 exact ⟨x,rfl,hx⟩
theorem cCode_scope {gs:List Nat} {nt:Nat} {defs:List Oper} {a:Code} {ac:ACode} (h:cCode P gs nt defs (.scope a)=some ac):∃ x,ac=.scope x∧cCode P gs nt defs a=some x:=by
 simp only [cCode,Option.map_eq_some_iff] at h
 obtain ⟨x,hx,rfl⟩:=h
 exact ⟨x,rfl,hx⟩
theorem cCode_rangeF {gs:List Nat} {nt:Nat} {defs:List Oper} {f:Operand} {ps:Array Tmp} {a b:Code} {ac:ACode} (h:cCode P gs nt defs (.rangeFunc f ps a b)=some ac) :
 ∃ f' x y,ac=.rangeF f' ps.toList x y∧cO f=some f'∧cCode P gs nt (allOps a ++ allOps b) a=some x∧cCode P gs nt (allOps a ++ allOps b) b=some y∧∀ t ∈ ps.toList,t < nt:=by
 simp only [cCode] at h
 split at h
 · rename_i f' x y hf hx hy
   split at h
   · rename_i hp
     cases h
     refine ⟨f',x,y,rfl,hf,hx,hy,fun t ht=>?_⟩
     rw [Array.all_eq_true_iff_forall_mem] at hp
     simpa using hp t (by simpa using ht)
   · cases h
 · cases h
theorem SW.skip (h:κ .normal st):SW P .skip κ st:=by
 intro hm rd gs nt defs code hc S ms ow base O a w hr hrd hn
 cases code with
 | skip=>exact wpIn_skip ⟨st,h,After.refl hr⟩
 | label l=>exact wpIn_label ⟨st,h,After.refl hr⟩
 | region id ops draw=>obtain ⟨_,_,e⟩:=cCode_region hc; cases e
 | seq a b=>obtain ⟨_,_,e,_⟩:=cCode_seq hc; cases e
 | cond c a b=>obtain ⟨_,_,_,e,_⟩:=cCode_cond hc; cases e
 | block id a=>obtain ⟨_,e,_⟩:=cCode_block hc; cases e
 | loop a=>obtain ⟨_,e,_⟩:=cCode_loop hc; cases e
 | rangeFunc f ps a b=>obtain ⟨_,_,_,e,_⟩:=cCode_rangeF hc; cases e
 | scope a=>obtain ⟨_,e,_⟩:=cCode_scope hc; cases e
 | _=>simp [cCode] at hc
theorem SW.exit {id:Nat} (h:κ (.exit id) st):SW P (.exit id) κ st:=by
 intro hm rd gs nt defs code hc S ms ow base O a w hr hrd hn
 cases code with
 | exit id'=>simp [cCode] at hc; subst hc; exact wpIn_exit ⟨st,h,After.refl hr⟩
 | region id ops draw=>obtain ⟨_,_,e⟩:=cCode_region hc; cases e
 | seq a b=>obtain ⟨_,_,e,_⟩:=cCode_seq hc; cases e
 | cond c a b=>obtain ⟨_,_,_,e,_⟩:=cCode_cond hc; cases e
 | block id a=>obtain ⟨_,e,_⟩:=cCode_block hc; cases e
 | loop a=>obtain ⟨_,e,_⟩:=cCode_loop hc; cases e
 | rangeFunc f ps a b=>obtain ⟨_,_,_,e,_⟩:=cCode_rangeF hc; cases e
 | scope a=>obtain ⟨_,e,_⟩:=cCode_scope hc; cases e
 | _=>simp [cCode] at hc
theorem SW.ret (h:κ .ret st):SW P .ret κ st:=by
 intro hm rd gs nt defs code hc S ms ow base O a w hr hrd hn
 cases code with
 | ret=>exact wpIn_ret ⟨st,h,After.refl hr⟩
 | region id ops draw=>obtain ⟨_,_,e⟩:=cCode_region hc; cases e
 | seq a b=>obtain ⟨_,_,e,_⟩:=cCode_seq hc; cases e
 | cond c a b=>obtain ⟨_,_,_,e,_⟩:=cCode_cond hc; cases e
 | block id a=>obtain ⟨_,e,_⟩:=cCode_block hc; cases e
 | loop a=>obtain ⟨_,e,_⟩:=cCode_loop hc; cases e
 | rangeFunc f ps a b=>obtain ⟨_,_,_,e,_⟩:=cCode_rangeF hc; cases e
 | scope a=>obtain ⟨_,e,_⟩:=cCode_scope hc; cases e
 | _=>simp [cCode] at hc
theorem SW.reg {d:Bool} {os:List AI} (h:regW P os st.1 st.2.1 st.2.2.1 st.2.2.2 (κ .normal)):SW P (.reg d os) κ st:=by
 intro hm rd gs nt defs code hc S ms ow base O a w hr hrd hn
 cases code with
 | region id ops draw=>exact region_ok hm hc hr hn h fun st' a' w' hk ha=>⟨st',hk,ha⟩
 | seq a b=>obtain ⟨_,_,e,_⟩:=cCode_seq hc; cases e
 | cond c a b=>obtain ⟨_,_,_,e,_⟩:=cCode_cond hc; cases e
 | block id a=>obtain ⟨_,e,_⟩:=cCode_block hc; cases e
 | loop a=>obtain ⟨_,e,_⟩:=cCode_loop hc; cases e
 | rangeFunc f ps a b=>obtain ⟨_,_,_,e,_⟩:=cCode_rangeF hc; cases e
 | scope a=>obtain ⟨_,e,_⟩:=cCode_scope hc; cases e
 | _=>simp [cCode] at hc
theorem SW.seq {x y:ACode} (h:SW P x (AExit.then (fun st'=>SW P y κ st') κ) st):SW P (.seq x y) κ st:=by
 intro hm rd gs nt defs code hc S ms ow base O a w hr hrd hn
 cases code with
 | seq c1 c2 =>
  obtain ⟨_,_,e,hx,hy⟩:=cCode_seq hc
  cases e
  refine wpIn_seq (wpIn_mono (h hm rd gs nt defs c1 hx S ms ow base O a w hr hrd hn) fun e a' w' hq=>?_)
  cases e with
  | normal =>
   obtain ⟨st',hk,ha⟩:=hq
   have hz:=ha.sz
   obtain ⟨⟨S',m',ow',hr',he⟩,hs,_⟩:=ha
   exact wpIn_mono (hk hm rd gs nt defs c2 hy S' _ ow' base O a' w' hr' (hrd.evo he) (by rw [hz]; exact hn)) fun e a'' w'' hq'=>outQ_chain he hs hz e a'' w'' hq'
  | exit id=>exact hq
  | ret=>exact hq
  | _=>exact hq.elim
 | region id ops draw=>obtain ⟨_,_,e⟩:=cCode_region hc; cases e
 | cond c a b=>obtain ⟨_,_,_,e,_⟩:=cCode_cond hc; cases e
 | block id a=>obtain ⟨_,e,_⟩:=cCode_block hc; cases e
 | loop a=>obtain ⟨_,e,_⟩:=cCode_loop hc; cases e
 | rangeFunc f ps a b=>obtain ⟨_,_,_,e,_⟩:=cCode_rangeF hc; cases e
 | scope a=>obtain ⟨_,e,_⟩:=cCode_scope hc; cases e
 | _=>simp [cCode] at hc
theorem SW.cond {c:AO} {x y:ACode} {t:Bool} (ht:ev st.1 c=.d (.bool t)) (h1:t=true→SW P x κ st) (h2:t=false→SW P y κ st):SW P (.cond c x y) κ st:=by
 intro hm rd gs nt defs code hc S ms ow base O a w hr hrd hn
 cases code with
 | cond c0 a0 b0 =>
  obtain ⟨_,_,_,e,hc',hx,hy⟩:=cCode_cond hc
  cases e
  have hv:=operand_ok hr.tmpT hc'
  rw [ht] at hv
  refine wpIn_cond (VRD.bool_inv hv) ?_
  cases t with
  | true=>exact h1 rfl hm rd gs nt defs a0 hx S ms ow base O a w hr hrd hn
  | false=>exact h2 rfl hm rd gs nt defs b0 hy S ms ow base O a w hr hrd hn
 | region id ops draw=>obtain ⟨_,_,e⟩:=cCode_region hc; cases e
 | seq a b=>obtain ⟨_,_,e,_⟩:=cCode_seq hc; cases e
 | block id a=>obtain ⟨_,e,_⟩:=cCode_block hc; cases e
 | loop a=>obtain ⟨_,e,_⟩:=cCode_loop hc; cases e
 | rangeFunc f ps a b=>obtain ⟨_,_,_,e,_⟩:=cCode_rangeF hc; cases e
 | scope a=>obtain ⟨_,e,_⟩:=cCode_scope hc; cases e
 | _=>simp [cCode] at hc
theorem SW.block {id:Nat} {x:ACode} (h:SW P x (AExit.inBlock id κ) st):SW P (.block id x) κ st:=by
 intro hm rd gs nt defs code hc S ms ow base O a w hr hrd hn
 cases code with
 | block id' c0 =>
  obtain ⟨_,e,hx⟩:=cCode_block hc
  cases e
  refine wpIn_block (wpIn_mono (h hm rd gs nt defs c0 hx S ms ow base O a w hr hrd hn) fun e a' w' hq=>?_)
  cases e with
  | normal=>exact hq
  | exit id' =>
   obtain ⟨st',hk,ha⟩:=hq
   simp only [AExit.inBlock] at hk
   simp only [Exit.inBlock]
   split at hk
   · rename_i e; rw [if_pos e]; exact ⟨st',hk,ha⟩
   · rename_i e; rw [if_neg e]; exact ⟨st',hk,ha⟩
  | ret=>exact hq
  | _=>exact hq.elim
 | region id ops draw=>obtain ⟨_,_,e⟩:=cCode_region hc; cases e
 | seq a b=>obtain ⟨_,_,e,_⟩:=cCode_seq hc; cases e
 | cond c a b=>obtain ⟨_,_,_,e,_⟩:=cCode_cond hc; cases e
 | loop a=>obtain ⟨_,e,_⟩:=cCode_loop hc; cases e
 | rangeFunc f ps a b=>obtain ⟨_,_,_,e,_⟩:=cCode_rangeF hc; cases e
 | scope a=>obtain ⟨_,e,_⟩:=cCode_scope hc; cases e
 | _=>simp [cCode] at hc
theorem stepR_scope {P:Program} {b:Frame} {a:Act} {k:List Item} {cs:List Frame} {w:World} {c:Code}:step P (lone (b.atR a (.code (.scope c)::k)) cs w)=.next (lone (b.atR a (.code c::.inScope c::k)) cs w) :=
 step_lone_go (by simp [stepG,stepG.exec,Frame.atR])
theorem stepR_inScope {P:Program} {b:Frame} {a:Act} {k:List Item} {cs:List Frame} {w:World} {c:Code}:step P (lone (b.atR a (.inScope c::k)) cs w)=.next (lone (b.atR a k) cs w) :=
 step_lone_go (by simp [stepG,stepG.exec,Frame.atR])
theorem wpIn_scope_straight {F:Fence} {n:Nat} {P:Program} {c:Code} {Q:Exit→Act→World→Prop} {a:Act} {w:World} (h:c.wpIn F n P (Exit.noGoto Q) a w):(Code.scope c).wpIn F n P Q a w:=by
 intro b k cs hro hb hr
 have h0:(lone (b.atR a (.code (.scope c)::k)) cs w).fenced P F:=fenced_calm hb hr rfl
 obtain ⟨e,a₁,w₁,hq,harr⟩:=h b (.inScope c::k) cs hro hb hr
 cases e with
 | normal=>exact ⟨.normal,a₁,w₁,hq,.head h0 stepR_scope (StepsIn.trans harr (.one (fenced_calm hb hr rfl) stepR_inScope))⟩
 | exit id =>
  have hx:exitTo id (.inScope c::k)=exitTo id k:=by simp [exitTo]
  exact ⟨.exit id,a₁,w₁,hq,fun k' hk=>.head h0 stepR_scope (harr.1 k' (by rw [hx]; exact hk)),
   fun hr' hk=>let ⟨k₁,h1,h2⟩:=harr.2 hr' (by rw [hx]; exact hk); ⟨k₁,h1,.head h0 stepR_scope h2⟩⟩
 | goto l=>exact hq.elim
 | ret=>exact ⟨_,a₁,w₁,hq,.of_steps (.one h0 stepR_scope) harr⟩
 | panic ch=>exact ⟨_,a₁,w₁,hq,.of_steps (.one h0 stepR_scope) harr⟩
 | outgrown=>exact ⟨_,a₁,w₁,hq,.of_steps (.one h0 stepR_scope) harr⟩
theorem SW.scope {x:ACode} (h:SW P x κ st):SW P (.scope x) κ st:=by
 intro hm rd gs nt defs code hc S ms ow base O a w hr hrd hn
 cases code with
 | scope c0 =>
  obtain ⟨_,e,hx⟩:=cCode_scope hc
  cases e
  refine wpIn_scope_straight (wpIn_mono (h hm rd gs nt defs c0 hx S ms ow base O a w hr hrd hn) fun e a' w' hq=>?_)
  cases e with
  | normal=>exact hq
  | exit id'=>exact hq
  | ret=>exact hq
  | _=>exact hq.elim
 | region id ops draw=>obtain ⟨_,_,e⟩:=cCode_region hc; cases e
 | seq a b=>obtain ⟨_,_,e,_⟩:=cCode_seq hc; cases e
 | cond c a b=>obtain ⟨_,_,_,e,_⟩:=cCode_cond hc; cases e
 | block id a=>obtain ⟨_,e,_⟩:=cCode_block hc; cases e
 | loop a=>obtain ⟨_,e,_⟩:=cCode_loop hc; cases e
 | rangeFunc f ps a b=>obtain ⟨_,_,_,e,_⟩:=cCode_rangeF hc; cases e
 | _=>simp [cCode] at hc
theorem SW.loop {x:ACode} (I:Nat→St→Prop) {n:Nat} (h0:I n st) (round:∀ n st',I n st'→SW P x (AExit.then (fun st''=>∃ m st0,m < n∧StLe st'' st0∧I m st0) κ) st'):SW P (.loop x) κ st:=by
 intro hm rd gs nt defs code hc S ms ow base O a w hr hrd hn
 cases code with
 | loop c0 =>
  obtain ⟨_,e,hx⟩:=cCode_loop hc
  cases e
  refine wpIn_loop_n (n:=n) (fun n a' w'=>∃ st',I n st'∧After S ms base O st.2.2.1 a w st' a' w') (fun n a' w' ⟨st',hI,ha⟩=>?_) ⟨st,h0,After.refl hr⟩
  have hz:=ha.sz
  obtain ⟨⟨S',m',ow',hr',he⟩,hs,_⟩:=ha
  refine wpIn_mono (round n st' hI hm rd gs nt defs c0 hx S' _ ow' base O a' w' hr' (hrd.evo he) (by rw [hz]; exact hn)) fun e a'' w'' hq=>?_
  cases e with
  | normal =>
   obtain ⟨st'',⟨m,st0,hlt,hle,hI'⟩,ha'⟩:=hq
   have hz':=ha'.sz
   obtain ⟨⟨S'',m'',ow'',hr2,he2⟩,hs2,_⟩:=ha'
   obtain ⟨ow3,hr3⟩:=hr2.le (ρ':=st0.1) (L':=st0.2.1) (G':=st0.2.2.2) hle.e hle.l hle.g
   refine ⟨m,hlt,st0,hI',⟨⟨S'',m'',ow3,?_,he.trans he2⟩,by rw [hle.s]; exact hs.trans hs2,hz'.trans hz⟩⟩
   rw [hle.s]
   simpa using hr3
  | exit id=>exact outQ_chain he hs hz (.exit id) a'' w'' hq
  | ret=>exact outQ_chain he hs hz .ret a'' w'' hq
  | _=>exact hq.elim
 | region id ops draw=>obtain ⟨_,_,e⟩:=cCode_region hc; cases e
 | seq a b=>obtain ⟨_,_,e,_⟩:=cCode_seq hc; cases e
 | cond c a b=>obtain ⟨_,_,_,e,_⟩:=cCode_cond hc; cases e
 | block id a=>obtain ⟨_,e,_⟩:=cCode_block hc; cases e
 | rangeFunc f ps a b=>obtain ⟨_,_,_,e,_⟩:=cCode_rangeF hc; cases e
 | scope a=>obtain ⟨_,e,_⟩:=cCode_scope hc; cases e
 | _=>simp [cCode] at hc
end
end Go.E2
