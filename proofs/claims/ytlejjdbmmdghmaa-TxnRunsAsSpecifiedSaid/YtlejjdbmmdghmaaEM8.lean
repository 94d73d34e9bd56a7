/-
 What holds of where a piece of code comes to,zbv the evaluator's states;the machine does the same.
 Conditions: none;definitions and laws.
-/
import Derived.Test.YtlejjdbmmdghmaaEV
import Derived.Scope
import Derived.RangeFuncLeaves
import Derived.RangeFuncRecord
namespace Go.E2
theorem zpb {F:Fence} {nn:Nat} {P:Program} {c:Code} {Q:Exit→Act→World→Prop} (I:Nat→Act→World→Prop)
 (round:∀ n a w,I n a w→c.wpIn F nn P (Exit.then (fun a' w'=>∃ m,m<n∧I m a' w') Q) a w) {n:Nat} {a:Act} {w:World} (h₀:I n a w):(Code.loop c).wpIn F nn P Q a w:=by
 intro b k cs hro hb hr
 have key:∀ n a w,I n a w→∃ e a' w',Q e a' w'∧ArrivesIn (Machine.fenced P F) P (lone (b.atR a (.code c::.inLoop c::k)) cs w) b k cs e a' w':=by
  intro n
  induction n using Nat.strongRecOn with
  | _ n ih =>
   intro a w hI
   obtain ⟨e,a₁,w₁,hq,harr⟩:=round n a w hI b (.inLoop c::k) cs hro hb hr
   cases e with
   | normal =>
    obtain ⟨m,hlt,hI₁⟩:=hq
    obtain ⟨e₂,a₂,w₂,hq₂,harr₂⟩:=ih m hlt a₁ w₁ hI₁
    exact ⟨e₂,a₂,w₂,hq₂,.of_steps (StepsIn.trans harr (.one (fenced_calm hb hr rfl) stepR_inLoop)) harr₂⟩
   | exit id=>exact ⟨_,a₁,w₁,hq,.pass (x:=.inLoop c) rfl (fun _ _=>.inl (by simp)) harr⟩
   | goto l=>exact ⟨_,a₁,w₁,hq,.pass (x:=.inLoop c) rfl (fun _ _=>.inl (by simp)) harr⟩
   | ret=>exact ⟨_,a₁,w₁,hq,.pass (x:=.inLoop c) rfl (fun _ _=>.inl (by simp)) harr⟩
   | panic ch=>exact ⟨_,a₁,w₁,hq,.pass (x:=.inLoop c) rfl (fun _ _=>.inl (by simp)) harr⟩
   | outgrown=>exact ⟨_,a₁,w₁,hq,.pass (x:=.inLoop c) rfl (fun _ _=>.inl (by simp)) harr⟩
 obtain ⟨e,a',w',hq,harr⟩:=key n a w h₀
 exact ⟨e,a',w',hq,.of_steps (.one (fenced_calm hb hr rfl) stepR_loop) harr⟩
def zsl (rd:Option Nat) (base:Nat) (O:Nat→Prop) (w:World):Prop:=∀ l,rd=some l→l<base∧¬ O l∧∃ r,w.heap[l]?=some (.loop r)
theorem zsl.none {base:Nat} {O:Nat→Prop} {w:World}:zsl none base O w:=fun _ e=>(by cases e)
theorem zsl.evo {rd:Option Nat} {base:Nat} {O:Nat→Prop} {S S':Stb} {w w':World} (h:zsl rd base O w) (he:Evo base O S w S' w'):zsl rd base O w':=fun l e=>by
 obtain ⟨h1,h2,r,h3⟩:=h l e
 exact ⟨h1,h2,r,by rw [he.keep l h1 h2];exact h3⟩
def zaz.then (next:St→Prop) (κ:zaz→St→Prop):zaz→St→Prop
 | .normal,st=>next st
 | e,st=>κ e st
def zaz.inBlock (id:Nat) (κ:zaz→St→Prop):zaz→St→Prop
 | .exit id',st=>if id'=id then κ .normal st else κ (.exit id') st
 | e,st=>κ e st
def z14 [DD] (S:Stb) (ms:List (Nat→Nat)) (base:Nat) (O:Nat→Prop) (σ:List Hp) (a:Act) (w:World) (κ:zaz→St→Prop):Exit→Act→World→Prop
 | .normal,a',w'=>∃ st,κ .normal st∧zbf S ms base O σ a w st a' w'
 | .exit id,a',w'=>∃ st,κ (.exit id) st∧zbf S ms base O σ a w st a' w'
 | .ret,a',w'=>∃ st,κ .ret st∧zbf S ms base O σ a w st a' w'
 | _,_,_=>False
theorem zbf.trans [DD] {S S':Stb} {ms:List (Nat→Nat)} {m':Nat→Nat} {base:Nat} {O:Nat→Prop} {σ σ':List Hp} {a a' a'':Act} {w w' w'':World} {st:St} (he:Evo base O S w S' w') (hs:zah σ σ') (hz:a'.tmps.size=a.tmps.size)
 (h:zbf S' (m'::ms.tail) base O σ' a' w' st a'' w''):zbf S ms base O σ a w st a'' w'':=by
 obtain ⟨⟨S'',m'',ow'',hr,he'⟩,hs',hz'⟩:=h
 exact ⟨⟨S'',m'',ow'',by simpa using hr,he.trans he'⟩,hs.trans hs',hz'.trans hz⟩
def SW [DD] (P:Program) (ac:ACode) (κ:zaz→St→Prop) (st:St):Prop :=
 P.follows .mixedOrders=true→∀ (rd:Option Nat) (gs:List Nat) (nt:Nat) (defs:List Oper) (code:Code),zai P gs nt defs code=some ac →
 ∀ (S:Stb) (ms:List (Nat→Nat)) (ow:Nat→Option Nat) (base:Nat) (O:Nat→Prop) (a:Act) (w:World),Rel S ms ow base O st.1 st.2.1 st.2.2.1 st.2.2.2 a w→zsl rd base O w→nt≤a.tmps.size→code.wpIn (FW rd) 0 P (z14 S ms base O st.2.2.1 a w κ) a w
section
variable {P:Program} {κ κ':zaz→St→Prop} {st st':St}
theorem zua [DD] {S:Stb} {ms:List (Nat→Nat)} {base:Nat} {O:Nat→Prop} {σ:List Hp} {a:Act} {w:World} (hk:∀ e st,κ e st→κ' e st):∀ e a' w',z14 S ms base O σ a w κ e a' w'→z14 S ms base O σ a w κ' e a' w':=by
 intro e a' w' h
 cases e with
 | normal=>obtain ⟨st,h1,h2⟩:=h;exact ⟨st,hk _ _ h1,h2⟩
 | exit id=>obtain ⟨st,h1,h2⟩:=h;exact ⟨st,hk _ _ h1,h2⟩
 | ret=>obtain ⟨st,h1,h2⟩:=h;exact ⟨st,hk _ _ h1,h2⟩
 | _=>exact h.elim
theorem zht [DD] {S S':Stb} {ms:List (Nat→Nat)} {m':Nat→Nat} {base:Nat} {O:Nat→Prop} {σ σ':List Hp} {a a':Act} {w w':World} (he:Evo base O S w S' w') (hs:zah σ σ') (hz:a'.tmps.size=a.tmps.size) :
 ∀ e a'' w'',z14 S' (m'::ms.tail) base O σ' a' w' κ e a'' w''→z14 S ms base O σ a w κ e a'' w'':=by
 intro e a'' w'' h
 cases e with
 | normal=>obtain ⟨st,h1,h2⟩:=h;exact ⟨st,h1,zbf.trans he hs hz h2⟩
 | exit id=>obtain ⟨st,h1,h2⟩:=h;exact ⟨st,h1,zbf.trans he hs hz h2⟩
 | ret=>obtain ⟨st,h1,h2⟩:=h;exact ⟨st,h1,zbf.trans he hs hz h2⟩
 | _=>exact h.elim
theorem SW.mono [DD] {c:ACode} (h:SW P c κ st) (hk:∀ e st,κ e st→κ' e st):SW P c κ' st :=
 fun hm rd gs nt defs code hc S ms ow base O a w hr hrd hn=>wpIn_mono (h hm rd gs nt defs code hc S ms ow base O a w hr hrd hn) (zua hk)
theorem SW.weaken [DD] {c:ACode} (hl:ztm st st') (h:SW P c κ st'):SW P c κ st:=by
 intro hm rd gs nt defs code hc S ms ow base O a w hr hrd hn
 obtain ⟨ow',hr'⟩:=hr.le (ρ':=st'.1) (L':=st'.2.1) (G':=st'.2.2.2) hl.e hl.l hl.g
 have:=h hm rd gs nt defs code hc S ms ow' base O a w (by rw [hl.s];exact hr') hrd hn
 rw [hl.s] at this
 exact this
theorem za2 {gs:List Nat} {nt:Nat} {defs:List Oper} {id:Nat} {ops:Array Oper} {draw:Bool} {ac:ACode} (h:zai P gs nt defs (.region id ops draw)=some ac):∃ d as,ac=.reg d as:=by
 simp only [zai] at h
 split at h
 · split at h
   · split at h
     · simp only [Option.map_eq_some_iff] at h
       obtain ⟨l,_,e⟩:=h
       exact ⟨_,_,e.symm⟩
     · cases h
   · cases h;exact ⟨_,_,rfl⟩
 · cases h
theorem zbz {gs:List Nat} {nt:Nat} {defs:List Oper} {a b:Code} {ac:ACode} (h:zai P gs nt defs (.seq a b)=some ac):∃ x y,ac=.seq x y∧zai P gs nt defs a=some x∧zai P gs nt defs b=some y:=by
 simp only [zai] at h
 split at h
 · rename_i x y hx hy;cases h;exact ⟨x,y,rfl,hx,hy⟩
 · cases h
theorem zbj {gs:List Nat} {nt:Nat} {defs:List Oper} {c:Operand} {a b:Code} {ac:ACode} (h:zai P gs nt defs (.cond c a b)=some ac):∃ c' x y,ac=.cond c' x y∧cO c=some c'∧zai P gs nt defs a=some x∧zai P gs nt defs b=some y:=by
 simp only [zai] at h
 split at h
 · rename_i c' x y hc hx hy;cases h;exact ⟨c',x,y,rfl,hc,hx,hy⟩
 · cases h
theorem za6 {gs:List Nat} {nt:Nat} {defs:List Oper} {id:Nat} {a:Code} {ac:ACode} (h:zai P gs nt defs (.block id a)=some ac):∃ x,ac=.block id x∧zai P gs nt defs a=some x:=by
 simp only [zai,Option.map_eq_some_iff] at h
 obtain ⟨x,hx,rfl⟩:=h
 exact ⟨x,rfl,hx⟩
theorem zbk {gs:List Nat} {nt:Nat} {defs:List Oper} {a:Code} {ac:ACode} (h:zai P gs nt defs (.loop a)=some ac):∃ x,ac=.loop x∧zai P gs nt defs a=some x:=by
 simp only [zai,Option.map_eq_some_iff] at h
 obtain ⟨x,hx,rfl⟩:=h
 exact ⟨x,rfl,hx⟩
theorem za7 {gs:List Nat} {nt:Nat} {defs:List Oper} {a:Code} {ac:ACode} (h:zai P gs nt defs (.scope a)=some ac):∃ x,ac=.scope x∧zai P gs nt defs a=some x:=by
 simp only [zai,Option.map_eq_some_iff] at h
 obtain ⟨x,hx,rfl⟩:=h
 exact ⟨x,rfl,hx⟩
theorem zas {gs:List Nat} {nt:Nat} {defs:List Oper} {f:Operand} {ps:Array Tmp} {a b:Code} {ac:ACode} (h:zai P gs nt defs (.rangeFunc f ps a b)=some ac) :
 ∃ f' x y,ac=.rangeF f' ps.toList x y∧cO f=some f'∧zai P gs nt (zbn a++zbn b) a=some x∧zai P gs nt (zbn a++zbn b) b=some y∧∀ t∈ps.toList,t<nt:=by
 simp only [zai] at h
 split at h
 · rename_i f' x y hf hx hy
   split at h
   · rename_i hp
     cases h
     refine ⟨f',x,y,rfl,hf,hx,hy,fun t ht=>?_⟩
     rw [Array.all_eq_true_iff_forall_mem] at hp
     simpa using hp t (by simpa using ht)
   · cases h
 · cases h
theorem SW.skip [DD] (h:κ .normal st):SW P .skip κ st:=by
 intro hm rd gs nt defs code hc S ms ow base O a w hr hrd hn
 cases code with
 | skip=>exact wpIn_skip ⟨st,h,zbf.refl hr⟩
 | label l=>exact wpIn_label ⟨st,h,zbf.refl hr⟩
 | region id ops draw=>obtain ⟨_,_,e⟩:=za2 hc;cases e
 | seq a b=>obtain ⟨_,_,e,_⟩:=zbz hc;cases e
 | cond c a b=>obtain ⟨_,_,_,e,_⟩:=zbj hc;cases e
 | block id a=>obtain ⟨_,e,_⟩:=za6 hc;cases e
 | loop a=>obtain ⟨_,e,_⟩:=zbk hc;cases e
 | rangeFunc f ps a b=>obtain ⟨_,_,_,e,_⟩:=zas hc;cases e
 | scope a=>obtain ⟨_,e,_⟩:=za7 hc;cases e
 | _=>simp [zai] at hc
theorem SW.exit [DD] {id:Nat} (h:κ (.exit id) st):SW P (.exit id) κ st:=by
 intro hm rd gs nt defs code hc S ms ow base O a w hr hrd hn
 cases code with
 | exit id'=>simp [zai] at hc;subst hc;exact wpIn_exit ⟨st,h,zbf.refl hr⟩
 | region id ops draw=>obtain ⟨_,_,e⟩:=za2 hc;cases e
 | seq a b=>obtain ⟨_,_,e,_⟩:=zbz hc;cases e
 | cond c a b=>obtain ⟨_,_,_,e,_⟩:=zbj hc;cases e
 | block id a=>obtain ⟨_,e,_⟩:=za6 hc;cases e
 | loop a=>obtain ⟨_,e,_⟩:=zbk hc;cases e
 | rangeFunc f ps a b=>obtain ⟨_,_,_,e,_⟩:=zas hc;cases e
 | scope a=>obtain ⟨_,e,_⟩:=za7 hc;cases e
 | _=>simp [zai] at hc
theorem SW.ret [DD] (h:κ .ret st):SW P .ret κ st:=by
 intro hm rd gs nt defs code hc S ms ow base O a w hr hrd hn
 cases code with
 | ret=>exact wpIn_ret ⟨st,h,zbf.refl hr⟩
 | region id ops draw=>obtain ⟨_,_,e⟩:=za2 hc;cases e
 | seq a b=>obtain ⟨_,_,e,_⟩:=zbz hc;cases e
 | cond c a b=>obtain ⟨_,_,_,e,_⟩:=zbj hc;cases e
 | block id a=>obtain ⟨_,e,_⟩:=za6 hc;cases e
 | loop a=>obtain ⟨_,e,_⟩:=zbk hc;cases e
 | rangeFunc f ps a b=>obtain ⟨_,_,_,e,_⟩:=zas hc;cases e
 | scope a=>obtain ⟨_,e,_⟩:=za7 hc;cases e
 | _=>simp [zai] at hc
theorem SW.reg [DD] {d:Bool} {os:List AI} (h:zaq P os st.1 st.2.1 st.2.2.1 st.2.2.2 (κ .normal)):SW P (.reg d os) κ st:=by
 intro hm rd gs nt defs code hc S ms ow base O a w hr hrd hn
 cases code with
 | region id ops draw=>exact zt9 hm hc hr hn h fun st' a' w' hk ha=>⟨st',hk,ha⟩
 | seq a b=>obtain ⟨_,_,e,_⟩:=zbz hc;cases e
 | cond c a b=>obtain ⟨_,_,_,e,_⟩:=zbj hc;cases e
 | block id a=>obtain ⟨_,e,_⟩:=za6 hc;cases e
 | loop a=>obtain ⟨_,e,_⟩:=zbk hc;cases e
 | rangeFunc f ps a b=>obtain ⟨_,_,_,e,_⟩:=zas hc;cases e
 | scope a=>obtain ⟨_,e,_⟩:=za7 hc;cases e
 | _=>simp [zai] at hc
theorem SW.seq [DD] {x y:ACode} (h:SW P x (zaz.then (fun st'=>SW P y κ st') κ) st):SW P (.seq x y) κ st:=by
 intro hm rd gs nt defs code hc S ms ow base O a w hr hrd hn
 cases code with
 | seq c1 c2 =>
  obtain ⟨_,_,e,hx,hy⟩:=zbz hc
  cases e
  refine wpIn_seq (wpIn_mono (h hm rd gs nt defs c1 hx S ms ow base O a w hr hrd hn) fun e a' w' hq=>?_)
  cases e with
  | normal =>
   obtain ⟨st',hk,ha⟩:=hq
   have hz:=ha.sz
   obtain ⟨⟨S',m',ow',hr',he⟩,hs,_⟩:=ha
   exact wpIn_mono (hk hm rd gs nt defs c2 hy S' _ ow' base O a' w' hr' (hrd.evo he) (by rw [hz];exact hn)) fun e a'' w'' hq'=>zht he hs hz e a'' w'' hq'
  | exit id=>exact hq
  | ret=>exact hq
  | _=>exact hq.elim
 | region id ops draw=>obtain ⟨_,_,e⟩:=za2 hc;cases e
 | cond c a b=>obtain ⟨_,_,_,e,_⟩:=zbj hc;cases e
 | block id a=>obtain ⟨_,e,_⟩:=za6 hc;cases e
 | loop a=>obtain ⟨_,e,_⟩:=zbk hc;cases e
 | rangeFunc f ps a b=>obtain ⟨_,_,_,e,_⟩:=zas hc;cases e
 | scope a=>obtain ⟨_,e,_⟩:=za7 hc;cases e
 | _=>simp [zai] at hc
theorem SW.cond [DD] {c:AO} {x y:ACode} {t:Bool} (ht:ev st.1 c=.d (.bool t)) (h1:t=true→SW P x κ st) (h2:t=false→SW P y κ st):SW P (.cond c x y) κ st:=by
 intro hm rd gs nt defs code hc S ms ow base O a w hr hrd hn
 cases code with
 | cond c0 a0 b0 =>
  obtain ⟨_,_,_,e,hc',hx,hy⟩:=zbj hc
  cases e
  have hv:=za hr.tmpT hc'
  rw [ht] at hv
  refine wpIn_cond (VRD.bool_inv hv) ?_
  cases t with
  | true=>exact h1 rfl hm rd gs nt defs a0 hx S ms ow base O a w hr hrd hn
  | false=>exact h2 rfl hm rd gs nt defs b0 hy S ms ow base O a w hr hrd hn
 | region id ops draw=>obtain ⟨_,_,e⟩:=za2 hc;cases e
 | seq a b=>obtain ⟨_,_,e,_⟩:=zbz hc;cases e
 | block id a=>obtain ⟨_,e,_⟩:=za6 hc;cases e
 | loop a=>obtain ⟨_,e,_⟩:=zbk hc;cases e
 | rangeFunc f ps a b=>obtain ⟨_,_,_,e,_⟩:=zas hc;cases e
 | scope a=>obtain ⟨_,e,_⟩:=za7 hc;cases e
 | _=>simp [zai] at hc
theorem SW.block [DD] {id:Nat} {x:ACode} (h:SW P x (zaz.inBlock id κ) st):SW P (.block id x) κ st:=by
 intro hm rd gs nt defs code hc S ms ow base O a w hr hrd hn
 cases code with
 | block id' c0 =>
  obtain ⟨_,e,hx⟩:=za6 hc
  cases e
  refine wpIn_block (wpIn_mono (h hm rd gs nt defs c0 hx S ms ow base O a w hr hrd hn) fun e a' w' hq=>?_)
  cases e with
  | normal=>exact hq
  | exit id' =>
   obtain ⟨st',hk,ha⟩:=hq
   simp only [zaz.inBlock] at hk
   simp only [Exit.inBlock]
   split at hk
   · rename_i e;rw [if_pos e];exact ⟨st',hk,ha⟩
   · rename_i e;rw [if_neg e];exact ⟨st',hk,ha⟩
  | ret=>exact hq
  | _=>exact hq.elim
 | region id ops draw=>obtain ⟨_,_,e⟩:=za2 hc;cases e
 | seq a b=>obtain ⟨_,_,e,_⟩:=zbz hc;cases e
 | cond c a b=>obtain ⟨_,_,_,e,_⟩:=zbj hc;cases e
 | loop a=>obtain ⟨_,e,_⟩:=zbk hc;cases e
 | rangeFunc f ps a b=>obtain ⟨_,_,_,e,_⟩:=zas hc;cases e
 | scope a=>obtain ⟨_,e,_⟩:=za7 hc;cases e
 | _=>simp [zai] at hc
theorem zcq {P:Program} {b:Frame} {a:Act} {k:List Item} {cs:List Frame} {w:World} {c:Code}:step P (lone (b.atR a (.code (.scope c)::k)) cs w)=.next (lone (b.atR a (.code c::.inScope c::k)) cs w) :=
 step_lone_go (by simp [stepG,stepG.exec,Frame.atR])
theorem zl5 {P:Program} {b:Frame} {a:Act} {k:List Item} {cs:List Frame} {w:World} {c:Code}:step P (lone (b.atR a (.inScope c::k)) cs w)=.next (lone (b.atR a k) cs w) :=
 step_lone_go (by simp [stepG,stepG.exec,Frame.atR])
theorem zge {F:Fence} {n:Nat} {P:Program} {c:Code} {Q:Exit→Act→World→Prop} {a:Act} {w:World} (h:c.wpIn F n P (Exit.noGoto Q) a w):(Code.scope c).wpIn F n P Q a w:=by
 intro b k cs hro hb hr
 have h0:(lone (b.atR a (.code (.scope c)::k)) cs w).fenced P F:=fenced_calm hb hr rfl
 obtain ⟨e,a₁,w₁,hq,harr⟩:=h b (.inScope c::k) cs hro hb hr
 cases e with
 | normal=>exact ⟨.normal,a₁,w₁,hq,.head h0 zcq (StepsIn.trans harr (.one (fenced_calm hb hr rfl) zl5))⟩
 | exit id =>
  have hx:exitTo id (.inScope c::k)=exitTo id k:=by simp [exitTo]
  exact ⟨.exit id,a₁,w₁,hq,fun k' hk=>.head h0 zcq (harr.1 k' (by rw [hx];exact hk)),
   fun hr' hk=>let ⟨k₁,h1,h2⟩:=harr.2 hr' (by rw [hx];exact hk);⟨k₁,h1,.head h0 zcq h2⟩⟩
 | goto l=>exact hq.elim
 | ret=>exact ⟨_,a₁,w₁,hq,.of_steps (.one h0 zcq) harr⟩
 | panic ch=>exact ⟨_,a₁,w₁,hq,.of_steps (.one h0 zcq) harr⟩
 | outgrown=>exact ⟨_,a₁,w₁,hq,.of_steps (.one h0 zcq) harr⟩
theorem SW.scope [DD] {x:ACode} (h:SW P x κ st):SW P (.scope x) κ st:=by
 intro hm rd gs nt defs code hc S ms ow base O a w hr hrd hn
 cases code with
 | scope c0 =>
  obtain ⟨_,e,hx⟩:=za7 hc
  cases e
  refine zge (wpIn_mono (h hm rd gs nt defs c0 hx S ms ow base O a w hr hrd hn) fun e a' w' hq=>?_)
  cases e with
  | normal=>exact hq
  | exit id'=>exact hq
  | ret=>exact hq
  | _=>exact hq.elim
 | region id ops draw=>obtain ⟨_,_,e⟩:=za2 hc;cases e
 | seq a b=>obtain ⟨_,_,e,_⟩:=zbz hc;cases e
 | cond c a b=>obtain ⟨_,_,_,e,_⟩:=zbj hc;cases e
 | block id a=>obtain ⟨_,e,_⟩:=za6 hc;cases e
 | loop a=>obtain ⟨_,e,_⟩:=zbk hc;cases e
 | rangeFunc f ps a b=>obtain ⟨_,_,_,e,_⟩:=zas hc;cases e
 | _=>simp [zai] at hc
theorem SW.loop [DD] {x:ACode} (I:Nat→St→Prop) {n:Nat} (h0:I n st) (round:∀ n st',I n st'→SW P x (zaz.then (fun st''=>∃ m st0,m<n∧ztm st'' st0∧I m st0) κ) st'):SW P (.loop x) κ st:=by
 intro hm rd gs nt defs code hc S ms ow base O a w hr hrd hn
 cases code with
 | loop c0 =>
  obtain ⟨_,e,hx⟩:=zbk hc
  cases e
  refine zpb (n:=n) (fun n a' w'=>∃ st',I n st'∧zbf S ms base O st.2.2.1 a w st' a' w') (fun n a' w' ⟨st',hI,ha⟩=>?_) ⟨st,h0,zbf.refl hr⟩
  have hz:=ha.sz
  obtain ⟨⟨S',m',ow',hr',he⟩,hs,_⟩:=ha
  refine wpIn_mono (round n st' hI hm rd gs nt defs c0 hx S' _ ow' base O a' w' hr' (hrd.evo he) (by rw [hz];exact hn)) fun e a'' w'' hq=>?_
  cases e with
  | normal =>
   obtain ⟨st'',⟨m,st0,hlt,hle,hI'⟩,ha'⟩:=hq
   have hz':=ha'.sz
   obtain ⟨⟨S'',m'',ow'',hr2,he2⟩,hs2,_⟩:=ha'
   obtain ⟨ow3,hr3⟩:=hr2.le (ρ':=st0.1) (L':=st0.2.1) (G':=st0.2.2.2) hle.e hle.l hle.g
   refine ⟨m,hlt,st0,hI',⟨⟨S'',m'',ow3,?_,he.trans he2⟩,by rw [hle.s];exact hs.trans hs2,hz'.trans hz⟩⟩
   rw [hle.s]
   simpa using hr3
  | exit id=>exact zht he hs hz (.exit id) a'' w'' hq
  | ret=>exact zht he hs hz .ret a'' w'' hq
  | _=>exact hq.elim
 | region id ops draw=>obtain ⟨_,_,e⟩:=za2 hc;cases e
 | seq a b=>obtain ⟨_,_,e,_⟩:=zbz hc;cases e
 | cond c a b=>obtain ⟨_,_,_,e,_⟩:=zbj hc;cases e
 | block id a=>obtain ⟨_,e,_⟩:=za6 hc;cases e
 | rangeFunc f ps a b=>obtain ⟨_,_,_,e,_⟩:=zas hc;cases e
 | scope a=>obtain ⟨_,e,_⟩:=za7 hc;cases e
 | _=>simp [zai] at hc
theorem SW.cut [DD] {x y:ACode} (J:St→Prop) (h:SW P x (zaz.then (fun st'=>∃ st0,ztm st' st0∧J st0) κ) st) (hJ:∀ st',J st'→SW P y κ st'):SW P (.seq x y) κ st :=
 .seq (h.mono fun e st' hk=>by
  cases e with
  | normal=>obtain ⟨st0,hl,hj⟩:=hk;exact (hJ st0 hj).weaken hl
  | exit id=>exact hk
  | ret=>exact hk)
end
end Go.E2
namespace Go.E2
section
variable {P:Program} {S:Stb} {ms:List (Nat→Nat)} {ow:Nat→Option Nat} {base:Nat} {O:Nat→Prop} {ρ:Env} {L:Hp} {σ:List Hp} {G:Gh} {a:Act} {w:World}
theorem Evo.wider {O':Nat→Prop} {S':Stb} {w':World} (h:Evo base O S w S' w') (ho:∀ b,O b→O' b):Evo base O' S w S' w' :=
 ⟨h.sz,fun b hb hn=>h.keep b hb fun x=>hn (ho b x),h.st,h.sub,h.os,h.tape,h.out⟩
theorem Evo.put {S:Stb} {l:Nat} (hO:l<base→O l) (obj:Obj) (hl:l<w.heap.size):Evo base O S w S (w.putObj l obj) :=
 ⟨by simp,fun b hb hn=>by rw [zbr hl,if_neg];rintro rfl;exact hn (hO hb),fun _ _=>rfl,Sub.refl S,rfl,rfl,rfl⟩
theorem Rel.dropM [DD] (h:Rel S ms ow base O ρ L σ G a w) {l:Nat} {x:Obj} (hl:w.heap[l]?=some x) (hx:isM x=true) (obj:Obj):Rel S ms ow base O ρ L σ (G.setM l none) a (w.putObj l obj):=by
 have hlt:=(Array.getElem?_eq_some_iff.1 hl).1
 refine h.worldM rfl (fun b o hb=>?_) (by simp) (fun b o hb ho=>?_) (fun b o hb hlb=>?_)
 · simp only [Gh.setM_m,upd] at hb
   split at hb
   · cases hb
   · rename_i e;rw [zbr hlt,if_neg e];exact h.h.x b o hb
 · rw [zbr hlt,if_neg]
   · exact hb
   · rintro rfl;rw [hl] at hb;cases hb;rw [hx] at ho;cases ho
 · simp only [Gh.setM_m,upd] at hb
   split at hb
   · cases hb
   · exact h.mold hb hlb
theorem zub (G:Gh) {l:Nat} (h:G.m l=none):G.setM l none=G:=by
 refine Gh.ext rfl ?_
 funext j
 simp only [Gh.setM_m,upd]
 split
 · rename_i e;subst e;exact h.symm
 · rfl
theorem zxd [DD] {rd:Option Nat} (h:Rel S ms ow base O ρ L σ G a w) (hrd:zsl rd base O w) {gs:List Nat} {nt:Nat} {defs:List Oper} {ps:Array Tmp} {ca cb:Code} {c1 c2:ACode} (h1:zai P gs nt defs ca=some c1) (h2:zai P gs nt defs cb=some c2)
 (hps:∀ t∈ps.toList,t<nt) (hn:nt≤a.tmps.size) (fn:FuncId):∃ l mark w1,(Instr.enterLoop fn a.tmps ps ca cb rd).run P w=.ok (l,mark) w1∧G.m l=none ∧
   Rel S ms ow base O ρ L σ (G.setM l (some (.loop P ρ ps.toList c1 c2))) { a with defers:=mark++a.defers } w1∧Evo base O S w S w1∧base≤l:=by
 have rec_ok:∀ df:Nat,MOk S (some (Obj.loop { state:=.ready,pending:=none,fn,tmps:=a.tmps,params:=ps,assign:=ca,body:=cb,defers:=df })) (.loop P ρ ps.toList c1 c2):=fun df =>
  ⟨_,rfl,rfl,rfl,rfl,⟨gs,nt,defs,h1,h2,hn,hps⟩,fun i x hx=>(h.tmp i).data hx⟩
 cases rd with
 | none =>
  have hrel1:Rel S ms ow base O ρ L σ G a (w.alloc (.deferred (some []))):=h.worldM rfl (h.h.x.keep (Sub.refl S) rfl fun r o hr _=>(zq (Array.getElem?_eq_some_iff.1 hr).1).trans hr) (by rw [za3];omega)
   (fun b o hb _=>(zq (Array.getElem?_eq_some_iff.1 hb).1).trans hb) (fun b o hb hlb=>h.mold hb hlb)
  obtain ⟨k1,k2⟩:=hrel1.newM (rec_ok w.heap.size)
  refine ⟨(w.alloc (.deferred (some []))).heap.size,[{ target:=.collected w.heap.size,args:=#[] }],_,?_,hrel1.m_none,?_,(Evo.alloc h.bas _).trans k2,hrel1.bas⟩
  · simp [Instr.enterLoop,Result.andThen]
  · refine { k1 with dfs:=?_ }
    have hd:=k1.dfs
    refine hd.mark h.bas ?_ fun r' hr' e=>?_
    · rw [zq (by rw [za3];omega),zab]
    · obtain ⟨_,h3⟩:=h.dfs.2.2 r' hr'
      have:=(Array.getElem?_eq_some_iff.1 h3).1
      omega
 | some l0 =>
  obtain ⟨_,_,r0,hr0⟩:=hrd l0 rfl
  obtain ⟨k1,k2⟩:=h.newM (rec_ok r0.defers)
  refine ⟨w.heap.size,[],_,?_,h.m_none,k1,k2,h.bas⟩
  simp [Instr.enterLoop,Instr.getLoop,run_getObj_loop hr0,Result.andThen]
theorem zuc {x:AV} {v:Value} (hv:VR S (L::σ) ms x v) {g:FuncId} {caps:List AV} (ht:target x=some (g,caps)) :
 ∃ cv:Array Value,v=.func (.func g) #[] cv∧cv.size=caps.length∧∀ (j:Nat) (x:AV),caps[j]?=some x→VR S (L::σ) ms x (cv.getD j undef):=by
 unfold target at ht
 split at ht
 · cases ht
   exact ⟨#[],VRD.fn_inv hv,rfl,fun j x hx=>by simp at hx⟩
 · rename_i g' ds
   cases ht
   obtain ⟨cv,h1,h2,_⟩:=VRD.clo_inv hv
   refine ⟨cv,h1,by have:=h2.1;simpa using this,fun j x hx=>?_⟩
   rw [List.getElem?_map] at hx
   cases hq:ds[j]? with
   | none=>rw [hq] at hx;cases hx
   | some y =>
    rw [hq] at hx
    cases hx
    obtain ⟨v,hv,hr⟩:=h2.get hq
    have hv':cv[j]?=some v:=by simpa using hv
    have:cv.getD j undef=v:=by simp [Array.getD_eq_getD_getElem?,hv']
    rw [this];exact hr
 · rename_i g' cs
   cases ht
   obtain ⟨cv,h1,h2,h3⟩:=hv
   refine ⟨cv,h1,by simpa using h2,fun j x hx=>?_⟩
   rw [List.getElem?_map] at hx
   cases hq:cs[j]? with
   | none=>simp [hq] at hx
   | some q =>
    simp [hq] at hx
    subst hx
    have hlt:j<cv.size:=by rw [h2];exact (List.getElem?_eq_some_iff.1 hq).1
    exact h3 j q (cv.getD j undef) hq (by simp [hlt])
 · cases ht
theorem SW.rangeF [DD] {κ:zaz→St→Prop} {st:St} {f:AO} {ps:List Nat} {c1 c2:ACode} {g:FuncId} {caps:List AV} (hcd:ze3 P g) (ht:target (ev st.1 f)=some (g,caps))
 (h:∀ l,st.2.2.2.m l=none→zbb P g (.d (.yld l)::caps.map sh) (st.2.1::st.2.2.1) (st.2.2.2.setM l (some (.loop P st.1 ps c1 c2))) fun _ lv G'=>lv=st.2.1::st.2.2.1 ∧
   ((∃ ρ',G'.m l=some (.loop P ρ' ps c1 c2)∧κ .normal (st.1,st.2.1,st.2.2.1,G'.setM l none))∨∃ e,G'.m l=some (.done e)∧e≠.normal∧κ e (st.1,st.2.1,st.2.2.1,G'.setM l none))):SW P (.rangeF f ps c1 c2) κ st:=by
 obtain ⟨ρ,L,σ,G⟩:=st
 intro hm rd gs nt defs code hc S ms ow base O a w hr hrd hn
 cases code with
 | rangeFunc f0 ps0 ca cb =>
  obtain ⟨f',x,y,e,hf,hx,hy,hps⟩:=zas hc
  cases e
  refine wpIn_rangeFunc fun fn _=>?_
  obtain ⟨l,mark,w1,hrun,hl0,hrel1,hevo1,hbl⟩:=zxd (P:=P) hr hrd hx hy hps hn fn
  have hfv:=za hr.tmpT hf
  obtain ⟨cv,hfe,hcvs,hcvr⟩:=zuc hfv ht
  refine ⟨l,mark,w1,{ target:=.fn (.func g) cv,args:=#[.func (.yield l) #[] #[]] },w1,g,#[.func (.yield l) #[] #[]]++cv,w1,hrun,?_,fun _ _=>trivial,?_,fun e=>(by cases e),?_⟩
  · have:a.eval f0=.func (.func g) #[] cv:=hfe
    simp [resolve,this,Deferred.ofValue]
    rfl
  · have:=zbp (P:=P) (w:=w1) (args:=#[.func (.yield l) #[] #[]]++cv) hcd
    simpa [invoke] using this
  · have hcall:=h l hl0 S ms w1 (#[.func (.yield l) #[] #[]]++cv) (fun _=>0) (by simp [hcvs];omega) hrel1.h (fun i=>by
     cases i with
     | zero =>
      have e2:(#[Value.func (Fn.yield l) #[] #[]]++cv).getD 0 undef=.func (.yield l) #[] #[]:=by
       rw [Array.getD_eq_getD_getElem?,Array.getElem?_append_left (by simp)];rfl
      rw [e2]
      exact VRD.yld l
     | succ i =>
      have e1:ofL (.d (.yld l)::caps.map sh) (i+1)=ofL (caps.map sh) i:=by simp [ofL]
      have e2:(#[Value.func (.yield l) #[] #[]]++cv).getD (i+1) undef=cv.getD i undef:=by
       simp [Array.getD_eq_getD_getElem?,Array.getElem?_append_right]
      rw [e1,e2]
      simp only [ofL,List.getD_eq_getElem?_getD,List.getElem?_map]
      cases hci:caps[i]? with
      | none=>trivial
      | some x=>exact (hcvr i x hci).sh _) (fun i sz es=>by
     cases i with
     | zero=>simp [ofL]
     | succ i =>
      have e1:ofL (.d (.yld l)::caps.map sh) (i+1)=ofL (caps.map sh) i:=by simp [ofL]
      rw [e1]
      simp only [ofL,List.getD_eq_getElem?_getD,List.getElem?_map]
      cases caps[i]? with
      | none=>simp
      | some x=>exact zld sz es)
    rcases hcall with ⟨_,hcalls⟩|⟨v,w2,hx,_⟩
    · have hin:=(callsIn_wide (n:=0 - 1)).2 hcalls
      have hin':CallsIn (FW rd) (0 - 1) P g (#[.func (.yield l) #[] #[]]++cv) w1 _:=hin
      refine hin'.mono fun e w3 ⟨v,he,S',r,lv,G',⟨hlv,hQ⟩,hrelH,hevo,hsh,_,hG⟩=>?_
      subst he
      subst hlv
      obtain ⟨hr3,he3⟩:=hrel1.called hrelH hevo hsh hG
      obtain ⟨m,hmm⟩:=za8 hr
      have after:∀ obj,isM obj=true→∀ x:Obj,w3.heap[l]?=some x→isM x=true→zbf S ms base O σ a w (ρ,L,σ,G'.setM l none) { a with defers:=mark++a.defers } (w3.putObj l obj):=by
       intro obj _ x hx hi
       refine ⟨⟨S',m,ow,?_,(hevo1.trans he3).trans (Evo.put (fun hlt=>absurd hbl (by omega)) obj (Array.getElem?_eq_some_iff.1 hx).1)⟩,zah.refl _,rfl⟩
       rw [← hmm]
       exact hr3.dropM hx hi obj
      rcases hQ with ⟨ρ',hm',hk⟩|⟨e,hm',hne,hk⟩
      · obtain ⟨rc,hrc,hst,hpd,_⟩:=hr3.h.x l _ hm'
        refine ⟨none,w3.putObj l (.loop { rc with state:=.exhausted }),?_,?_⟩
        · simp [Instr.endLoop,Instr.getLoop,run_getObj_loop hrc,Result.andThen,hst,hpd,run_setObj_loop _ hrc]
        · exact ⟨_,hk,after _ rfl _ hrc rfl⟩
      · obtain ⟨rc,hrc,hst,hpd⟩:=hr3.h.x l _ hm'
        refine ⟨some e.code,w3.putObj l (.loop { rc with state:=.exhausted }),?_,?_⟩
        · simp [Instr.endLoop,Instr.getLoop,run_getObj_loop hrc,Result.andThen,hst,hpd,run_setObj_loop _ hrc]
        · cases e with
          | normal=>exact absurd rfl hne
          | exit id=>exact wpIn_exit ⟨_,hk,after _ rfl _ hrc rfl⟩
          | ret=>exact wpIn_ret ⟨_,hk,after _ rfl _ hrc rfl⟩
    · rw [zbp hcd] at hx
      cases hx
 | region id ops draw=>obtain ⟨_,_,e⟩:=za2 hc;cases e
 | seq a b=>obtain ⟨_,_,e,_⟩:=zbz hc;cases e
 | cond c a b=>obtain ⟨_,_,_,e,_⟩:=zbj hc;cases e
 | block id a=>obtain ⟨_,e,_⟩:=za6 hc;cases e
 | loop a=>obtain ⟨_,e,_⟩:=zbk hc;cases e
 | scope a=>obtain ⟨_,e,_⟩:=za7 hc;cases e
 | _=>simp [zai] at hc
end
section
variable {P:Program} {S:Stb} {ms:List (Nat→Nat)} {ow:Nat→Option Nat} {base:Nat} {O:Nat→Prop} {ρ:Env} {L:Hp} {σ:List Hp} {G:Gh} {a:Act} {w:World}
def ze6 (ρ:Env):List Nat→List D→Env
 | p::ps,x::xs=>ze6 (upd ρ p (.d x)) ps xs
 | _,_=>ρ
def zd3 (ρ:Env):Env:=fun i=>match (ρ i).data with|some x=>.d x|none=>.undef
def z77 (P:Program) (l:Nat) (ρ0:Env) (ps:List Nat) (c1 c2:ACode) (Q:AV→List Hp→Gh→Prop):zaz→St→Prop
 | .normal,st=>st.2.2.2.m l=none→Q (.d (.bool true)) st.2.2.1 (st.2.2.2.setM l (some (.loop P ρ0 ps c1 c2)))
 | e,st=>st.2.2.2.m l=none→Q (.d (.bool false)) st.2.2.1 (st.2.2.2.setM l (some (.done e)))
theorem zcw.tailH {m:List (Nat→Nat)} {lv:List Hp} {L:Hp} (h:zcw S m (L::lv) G w):zcw S m.tail lv G w:=by
 have live:∀ {k s b cs},zds lv m.tail k s b cs→zds (L::lv) m (k+1) s b cs:=by
  rintro k s b cs ⟨x,y,h1,h2,h3,h4⟩
  exact ⟨x,y,by simpa using h1,by simpa using h2,h3,h4⟩
 refine ⟨h.sub,by have:=h.len;simp at this ⊢;omega,fun hl=>h.box (live hl),fun hl=>h.nos (live hl),fun h1 h2=>?_,h.gbox,h.gnos,fun hb hl=>h.gnl hb (live hl),h.x,h.tab⟩
 have:=h.inj (live h1) (live h2)
 exact ⟨by omega,this.2⟩
theorem zcw.worldH {lv:List Hp} (h:zcw S ms lv G w) {G':Gh} {w':World} (hc:G'.c=G.c) (hx:zmh S G' w') (hw:∀ (b:Nat) (o:Obj),w.heap[b]?=some o→isM o=false→w'.heap[b]?=some o):zcw S ms lv G' w':=by
 have keepB:∀ {b cs},zeo S w b cs→w'.heap[b]?=w.heap[b]?:=fun hb=>by
  obtain ⟨vs,e,h1⟩:=hb.heap
  rw [h1,hw _ _ h1 rfl]
 have at_:∀ {b cs},G' b=some cs→G b=some cs:=fun {b cs} hb=>by rw [hc] at hb;exact hb
 refine ⟨fun ad v hs=>?_,h.len,fun hl=>(h.box hl).mono (Sub.refl S) (keepB (h.box hl)),h.nos,h.inj,fun hb=>(h.gbox (at_ hb)).mono (Sub.refl S) (keepB (h.gbox (at_ hb))),fun hb=>h.gnos (at_ hb),fun hb=>h.gnl (at_ hb),hx,h.tab⟩
 have h1:=h.sub _ _ hs
 unfold World.cell? at h1 ⊢
 split at h1
 · rename_i c0 e0 f0 e1
   rw [hw _ _ e1 rfl]
   exact h1
 · cases h1
theorem zud {lv:List Hp}:∀ (ps:List Nat) (xs:List D) (vs:List Value) (ρ:Env) (tmps:Array Value),zz S xs vs→(∀ t∈ps,t<tmps.size)→(∀ i,VR S lv ms (ρ i) (tmps.getD i undef))→(∀ i sz es,ρ i≠.own sz es) →
 ∀ i,VR S lv ms (ze6 ρ ps xs i) (((ps.zip vs).foldl (fun tmps (p:Nat×Value)=>tmps.setIfInBounds p.1 p.2) tmps).getD i undef)∧∀ sz es,ze6 ρ ps xs i≠.own sz es
 | [],xs,vs,ρ,tmps,_,_,h,ho,i=>by exact ⟨h i,ho i⟩
 | p::ps,[],vs,ρ,tmps,hv,_,h,ho,i=>by
   have:=hv.nil_inv
   subst this
   exact ⟨h i,ho i⟩
 | p::ps,x::xs,vs,ρ,tmps,hv,hp,h,ho,i=>by
   obtain ⟨v,vs',rfl,h1,h2⟩:=hv.cons_inv
   simp only [ze6,List.zip_cons_cons,List.foldl_cons]
   refine zud ps xs vs' _ _ h2 (fun t ht=>by simpa using hp t (List.mem_cons_of_mem _ ht)) (fun j=>?_) (fun j sz es=>?_) i
   · simp only [upd]
     have hlt:=hp p List.mem_cons_self
     split
     · rename_i e
       subst e
       have:(tmps.setIfInBounds j v).getD j undef=v:=by simp [Array.getD_eq_getD_getElem?,hlt]
       rw [this];exact h1
     · rename_i e
       have:(tmps.setIfInBounds p v).getD j undef=tmps.getD j undef:=by
        simp [Array.getD_eq_getD_getElem?,Array.getElem?_setIfInBounds_ne (Ne.symm e)]
       rw [this];exact h j
   · simp only [upd]
     split
     · simp
     · exact ho j sz es
theorem zlk:∀ (l:List (Nat×Value)) (tmps:Array Value),(l.foldl (fun tmps (p:Nat×Value)=>tmps.setIfInBounds p.1 p.2) tmps).size=tmps.size
 | [],_=>rfl
 | p::l,tmps=>by simp only [List.foldl_cons];rw [zlk l];simp
theorem zpc (hm:P.follows .mixedOrders=true) {l:Nat} {ρ0:Env} {ps:List Nat} {c1 c2:ACode} {vs:List D} {Q:AV→List Hp→Gh→Prop} (hl:G.m l=some (.loop P ρ0 ps c1 c2)) (hlen:vs.length=ps.length)
 (h:SW P c1 (zaz.then (fun st'=>SW P c2 (z77 P l ρ0 ps c1 c2 Q) st') fun _ _=>False) (ze6 (zd3 ρ0) ps vs,zm5,σ,G.setM l none)):zk2 P l vs σ G Q:=by
 intro S ms w args hrel hargs
 obtain ⟨rc,hrc,hst,hpd,hps,⟨gs,nt,defs,k1,k2,hnt,hpnt⟩,htm⟩:=hrel.x l _ hl
 have hlt:=hrel.x.lt hl
 have hasz:args.size=rc.params.size:=by
  have:=hargs.1
  have:rc.params.size=ps.length:=by rw [← hps];simp
  simp at *;omega
 let tmps:=(rc.params.zip args).foldl (fun tmps (t,a)=>tmps.setIfInBounds t a) rc.tmps
 have htl:tmps=(ps.zip args.toList).foldl (fun tmps (p:Nat×Value)=>tmps.setIfInBounds p.1 p.2) rc.tmps:=by
  simp only [tmps]
  rw [← Array.foldl_toList,Array.toList_zip,hps]
 refine ⟨rc.fn,tmps,rc.assign,rc.body,?_,?_⟩
 · simp [Instr.yield,Instr.getLoop,run_getObj_loop hrc,Result.andThen,hasz,tmps]
 have hno:∀ s:Nat,(zm5 s).c=none:=fun s=>rfl
 have live0:∀ {m0:Nat→Nat} {k s b cs},zds (zm5::σ) (m0::ms) k s b cs→∃ k',k=k'+1∧zds σ ms k' s b cs:=by
  rintro m0 k s b cs ⟨x,y,h1,h2,h3,h4⟩
  cases k with
  | zero=>simp at h1;subst h1;rw [hno] at h3;cases h3
  | succ k=>exact ⟨k,rfl,x,y,by simpa using h1,by simpa using h2,h3,h4⟩
 have hdrop:∀ {b o},(G.setM l none).m b=some o→b≠l∧G.m b=some o:=fun {b o} hb=>by
  simp only [Gh.setM_m,upd] at hb
  split at hb
  · cases hb
  · rename_i e;exact ⟨e,hb⟩
 have htmps:∀ i,VR S (zm5::σ) ((fun _=>0)::ms) (ze6 (zd3 ρ0) ps vs i) (tmps.getD i undef)∧∀ sz es,ze6 (zd3 ρ0) ps vs i≠.own sz es:=fun i=>by
  rw [htl]
  refine zud ps vs args.toList _ _ hargs (fun t ht=>Nat.lt_of_lt_of_le (hpnt t ht) hnt) (fun i=>?_) (fun i sz es=>?_) i
  · unfold zd3
    cases hd:(ρ0 i).data with
    | none=>trivial
    | some x=>exact htm i x hd
  · unfold zd3
    cases (ρ0 i).data<;>simp
 have hR0:Rel S ((fun _=>0)::ms) (fun _=>none) w.heap.size (zbt σ ms (G.setM l none)) (ze6 (zd3 ρ0) ps vs) zm5 σ (G.setM l none) { tmps:=tmps,defers:=[] } w:=by
  refine { h:=⟨hrel.sub,by simp [hrel.len],fun hl=>?_,fun hl=>?_,fun h1 h2=>?_,hrel.gbox,hrel.gnos,fun hb hl=>?_,fun b o hb=>hrel.x b o (hdrop hb).2,hrel.tab⟩,tmp:=fun i=>(htmps i).1,own:=fun {i sz es} hi=>absurd hi ((htmps i).2 sz es),ownI:=fun {i j sz es sz' es' g} hi _=>absurd hi ((htmps i).2 _ _),
           ownB:=fun {i sz es g} hi=>absurd hi ((htmps i).2 _ _),new:=fun {s b cs} hl=>?_,old:=fun {k s b cs} hl=>?_,gold:=fun {b cs} hb _=>.inr (.inl ⟨cs,hb⟩),mold:=fun {b o} hb _=>.inr (.inr ⟨o,hb⟩),dfs:=zgk.nil,bas:=Nat.le_refl _ }
  · obtain ⟨k',rfl,hl'⟩:=live0 hl;exact hrel.box hl'
  · obtain ⟨k',rfl,hl'⟩:=live0 hl;exact hrel.nos hl'
  · obtain ⟨k',rfl,hl'⟩:=live0 h1
    obtain ⟨k'',rfl,hl''⟩:=live0 h2
    have:=hrel.inj hl' hl''
    exact ⟨by omega,this.2⟩
  · obtain ⟨k',rfl,hl'⟩:=live0 hl;exact hrel.gnl hb hl'
  · obtain ⟨k',e,_⟩:=live0 hl;cases e
  · obtain ⟨k',e,hl'⟩:=live0 hl
    cases e
    exact ⟨hrel.block_lt hl',.inl ⟨k,s,cs,hl'⟩⟩
 have hlO:¬ zbt σ ms (G.setM l none) l:=by
  rintro (⟨k,s,cs,hl'⟩|⟨cs,hg⟩|⟨o,hm'⟩)
  · obtain ⟨vs',e,hv,_⟩:=hrel.box hl'
    rw [hrc] at hv;cases hv
  · obtain ⟨vs',e,hv,_⟩:=hrel.gbox hg
    rw [hrc] at hv;cases hv
  · exact (hdrop hm').1 rfl
 have hO2:∀ b,zbt σ ms (G.setM l none) b→zbt σ ms G b:=by
  rintro b (hl'|hg|⟨o,hm'⟩)
  · exact .inl hl'
  · exact .inr (.inl hg)
  · exact .inr (.inr ⟨o,(hdrop hm').2⟩)
 have hlO2:zbt σ ms G l:=.inr (.inr ⟨_,hl⟩)
 have hrd:zsl (some l) w.heap.size (zbt σ ms (G.setM l none)) w:=fun l' e=>by cases e;exact ⟨hlt,hlO,rc,hrc⟩
 have htsz:nt≤tmps.size:=by rw [htl,zlk];exact hnt
 refine roundIn_of_wpIn (F:=Fence.wide) (n:=0) trivial ?_
 refine wpIn_mono (h hm (some l) gs nt defs rc.assign k1 S _ _ _ _ _ w hR0 hrd htsz) fun e a1 w1 hq=>?_
 cases e with
 | normal =>
  obtain ⟨st1,hsw,ha1⟩:=hq
  have hz1:=ha1.sz
  obtain ⟨⟨S1,m1,ow1,hr1,he1⟩,hs1,_⟩:=ha1
  have hrc1:w1.heap[l]?=some (.loop rc):=by rw [he1.keep l hlt hlO];exact hrc
  have hnone1:st1.2.2.2.m l=none:=by
   cases hq:st1.2.2.2.m l with
   | none=>rfl
   | some o=>exact absurd (hr1.mold hq hlt) hlO
  have hbeg:(Instr.beginRound l).run P w1=.ok () (w1.putObj l (.loop { rc with state:=.busy })):=by
   simp [Instr.beginRound,Instr.getLoop,run_getObj_loop hrc1,Result.andThen,hst,run_setObj_loop _ hrc1]
  refine ⟨_,hbeg,?_⟩
  have hr2:=hr1.dropM hrc1 rfl (.loop { rc with state:=.busy })
  rw [zub _ hnone1] at hr2
  have hlt1:=(Array.getElem?_eq_some_iff.1 hrc1).1
  have hrc2:(w1.putObj l (.loop { rc with state:=.busy })).heap[l]?=some (.loop { rc with state:=.busy }):=by rw [zbr hlt1,if_pos rfl]
  have hrd2:zsl (some l) w.heap.size (zbt σ ms (G.setM l none)) (w1.putObj l (.loop { rc with state:=.busy })):=fun l' e=>by cases e;exact ⟨hlt,hlO,_,hrc2⟩
  refine wpIn_mono (hsw hm (some l) gs nt defs rc.body k2 S1 _ _ _ _ a1 _ hr2 hrd2 (by rw [hz1];exact htsz)) fun e a3 w3 hq3=>?_
  -- the end of the round
  have fin:∀ (st3:St) (v:Bool) (o1:MO) (rc1:Loop),zbf S1 (m1::((fun _=>0)::ms).tail) w.heap.size (zbt σ ms (G.setM l none)) st1.2.2.1 a1 (w1.putObj l (.loop { rc with state:=.busy })) st3 a3 w3→(st3.2.2.2.m l=none→Q (.d (.bool v)) st3.2.2.1 (st3.2.2.2.setM l (some o1))) →
   (∀ S',Sub S S'→MOk S' (some (.loop rc1)) o1)→∃ v',Ending.returned (.bool v)=.returned v'∧zo1 S ms w σ G Q v' (w3.putObj l (.loop rc1)):=by
   intro st3 v o1 rc1 ha3 hQ hmo
   obtain ⟨⟨S3,m3,ow3,hr3,he3⟩,hs3,_⟩:=ha3
   have hrc3:w3.heap[l]?=some (.loop { rc with state:=.busy }):=by rw [he3.keep l hlt hlO];exact hrc2
   have hlt3:=(Array.getElem?_eq_some_iff.1 hrc3).1
   have hsub3:Sub S S3:=he1.sub.trans he3.sub
   have hnone3:st3.2.2.2.m l=none:=by
    cases hq:st3.2.2.2.m l with
    | none=>rfl
    | some o=>exact absurd (hr3.mold hq hlt) hlO
   have hH3:=zcw.tailH hr3.h
   refine ⟨_,rfl,S3,.d (.bool v),st3.2.2.1,_,hQ hnone3,?_,?_,hs1.trans hs3,VRD.bool v,?_⟩
   · have hw:∀ (b:Nat) (o:Obj),w3.heap[b]?=some o→isM o=false→(w3.putObj l (.loop rc1)).heap[b]?=some o:=fun b o hb ho=>by
      rw [zbr hlt3,if_neg]
      · exact hb
      · rintro rfl;rw [hrc3] at hb;cases hb;cases ho
     exact zcw.worldH hH3 rfl (fun b o hb=>by
      simp only [Gh.setM_m,upd] at hb
      rw [zbr hlt3]
      split at hb
      · rename_i e;subst e;cases hb;rw [if_pos rfl];exact hmo S3 hsub3
      · rename_i e;rw [if_neg e];exact hr3.h.x b o hb) hw
   · have e1:Evo w.heap.size (zbt σ ms G) S w S1 w1:=he1.wider hO2
     have e2:Evo w.heap.size (zbt σ ms G) S1 w1 S1 (w1.putObj l (.loop { rc with state:=.busy })):=Evo.put (fun _=>hlO2) _ hlt1
     have e3:=he3.wider hO2
     have e4:Evo w.heap.size (zbt σ ms G) S3 w3 S3 (w3.putObj l (.loop rc1)):=Evo.put (fun _=>hlO2) _ hlt3
     exact ((e1.trans e2).trans e3).trans e4
   · have hsh:=hs1.trans hs3
     have back:∀ {b},zbt σ ms (G.setM l none) b→zbt σ ms G b:=fun hb=>hO2 _ hb
     refine ⟨fun b cs hb hlb=>?_,fun b o hb hlb=>?_⟩
     · rcases hr3.gold hb hlb with ⟨k,s,cs',hl'⟩|⟨cs0,hg⟩|⟨o,hm'⟩
       · exfalso
         obtain ⟨x,y,q1,q2,q3,q4⟩:=hl'
         obtain ⟨x',hx'⟩:=hsh.get q1
         have e:=(hsh.2 k x x' q1 hx' s).2
         cases hc:(x' s).c with
         | none=>rw [e.1 hc] at q3;cases q3
         | some c0=>exact hH3.gnl hb ⟨x',y,hx',q2,hc,q4⟩
       · exact .inl ⟨cs0,hg⟩
       · exact .inr ⟨o,(hdrop hm').2⟩
     · simp only [Gh.setM_m,upd] at hb
       split at hb
       · rename_i e;subst e;exact .inr (.inr ⟨_,hl⟩)
       · exact back (hr3.mold hb hlb)
  have hmend:∀ st3:St,zbf S1 (m1::((fun _=>0)::ms).tail) w.heap.size (zbt σ ms (G.setM l none)) st1.2.2.1 a1 (w1.putObj l (.loop { rc with state:=.busy })) st3 a3 w3→w3.heap[l]?=some (.loop { rc with state:=.busy }):=fun st3 ha3=>by
   obtain ⟨⟨S3,m3,ow3,hr3,he3⟩,_⟩:=ha3
   rw [he3.keep l hlt hlO];exact hrc2
  have zw1:∀ (jump:Option Code) st3,zbf S1 (m1::((fun _=>0)::ms).tail) w.heap.size (zbt σ ms (G.setM l none)) st1.2.2.1 a1 (w1.putObj l (.loop { rc with state:=.busy })) st3 a3 w3 →
   (Instr.endRound l jump).run P w3=.ok (.bool jump.isNone) (w3.putObj l (.loop { rc with state:=if jump.isNone then .ready else .done,pending:=jump })):=fun jump st3 ha3=>by
   have:=hmend st3 ha3
   simp [Instr.endRound,Instr.getLoop,run_getObj_loop this,Result.andThen,run_setObj_loop _ this]
  have stop:∀ (e:zaz),e≠.normal→∀ st3,z77 P l ρ0 ps c1 c2 Q e st3→zbf S1 (m1::((fun _=>0)::ms).tail) w.heap.size (zbt σ ms (G.setM l none)) st1.2.2.1 a1 (w1.putObj l (.loop { rc with state:=.busy })) st3 a3 w3 →
   ∃ v w',(Instr.endRound l (some e.code)).run P w3=.ok v w'∧∃ v',Ending.returned v=.returned v'∧zo1 S ms w σ G Q v' w':=by
   intro e hne st3 hk ha3
   refine ⟨_,_,zw1 (some e.code) st3 ha3,fin st3 false (.done e) _ ha3 ?_ fun S' _=>⟨_,rfl,rfl,rfl⟩⟩
   cases e with
   | normal=>exact absurd rfl hne
   | exit id=>exact hk
   | ret=>exact hk
  cases e with
  | normal =>
   obtain ⟨st3,hk,ha3⟩:=hq3
   refine ⟨_,_,zw1 none st3 ha3,fin st3 true (.loop P ρ0 ps c1 c2) _ ha3 hk fun S' hS=>?_⟩
   have:({ rc with state:=.ready,pending:=none }:Loop)=rc:=by cases rc;simp only at hst hpd;subst hst;subst hpd;rfl
   simp only [Option.isNone_none,if_true]
   rw [this]
   exact ⟨rc,rfl,hst,hpd,hps,⟨gs,nt,defs,k1,k2,hnt,hpnt⟩,fun i x hx=>(htm i x hx).mono hS⟩
  | ret =>
   obtain ⟨st3,hk,ha3⟩:=hq3
   exact stop .ret (by simp) st3 hk ha3
  | exit id =>
   obtain ⟨st3,hk,ha3⟩:=hq3
   exact stop (.exit id) (by simp) st3 hk ha3
  | _=>exact hq3.elim
 | exit id=>obtain ⟨_,hq,_⟩:=hq;exact hq.elim
 | ret=>obtain ⟨_,hq,_⟩:=hq;exact hq.elim
 | _=>exact hq.elim
end
end Go.E2
namespace Go.E2
def zz4 (tmps:Array Value):ResultVar→Sem Value
 | .tmp t=>pure (tmps.getD t undef)
 | .cell a t=>do loadVar t (← asAddr (tmps.getD a undef))
theorem zsm (fn:Func) (tmps:Array Value):results fn tmps=(do
 let vs ← Functor.map List.toArray (fn.results.toList.mapM (zz4 tmps))
 pure (if h:vs.size=1 then vs[0] else .tuple vs)):=by
 unfold results
 rw [Array.mapM_eq_mapM_toList]
 rfl
section
variable {P:Program} {S:Stb} {ms:List (Nat→Nat)} {ow:Nat→Option Nat} {base:Nat} {O:Nat→Prop} {ρ:Env} {L:Hp} {σ:List Hp} {G:Gh} {a:Act} {w:World}
theorem znn [DD] (h:Rel S ms ow base O ρ L σ G a w) {r:ResultVar} {ar:zgl} (hc:zk0 P [r]=some [ar]) {x:AV} (hx:zfe ρ (L::σ) G ar=some x) :
 ∃ v,(zz4 a.tmps r).run P w=.ok v w∧Ret S w G base x v:=by
 cases r with
 | tmp t =>
  simp [zk0] at hc
  subst hc
  refine ⟨a.tmps.getD t undef,by simp only [zz4,Sem.run_pure],?_⟩
  have ht:=h.tmp t
  simp only [zfe] at hx
  split at hx
  · rename_i y e;cases hx;rw [e] at ht;exact ht
  · rename_i sz es e
    cases hx
    exact ⟨ow t,h.own e,fun g hg=>⟨(h.ownB e hg).1,(h.ownB e hg).2.1⟩⟩
  · cases hx
 | cell b t =>
  simp only [zk0] at hc
  split at hc
  · rename_i g n rs e1 e2 e3
    split at hc
    · rename_i hgn
      cases e3
      cases hc
      have ht:=h.tmp b
      simp only [zfe] at hx
      split at hx
      · rename_i k s g0 off e
        rw [e] at ht
        split at hx
        · rename_i cs hcs
          simp only [Option.map_eq_some_iff] at hx
          obtain ⟨z,hz,rfl⟩:=hx
          obtain ⟨bb,hb,_,c0,e0,hc0,hvc,hone⟩:=zj1 h.h ht hcs
          obtain ⟨v,hv,hr⟩:=zd7 (w:=w) (b:=bb) (o:=off) e1 e2 hgn (hvc.drop off) (zcd hone off) (zc8 hc0) hz
          exact ⟨v,by simp [zz4,hb,asAddr,hv],hr⟩
        · cases hx
      · rename_i bb off e
        rw [e] at ht
        have hb:=zf7 ht
        split at hx
        · rename_i cs hcs
          simp only [Option.map_eq_some_iff] at hx
          obtain ⟨z,hz,rfl⟩:=hx
          obtain ⟨c0,e0,hc0,hvc,hone⟩:=h.h.gbox hcs
          obtain ⟨v,hv,hr⟩:=zd7 (w:=w) (b:=bb) (o:=off) e1 e2 hgn (hvc.drop off) (zcd hone off) (zc8 hc0) hz
          exact ⟨v,by simp [zz4,hb,asAddr,hv],hr⟩
        · cases hx
      · cases hx
    · cases hc
  · cases hc
theorem zg3 {r:ResultVar} {rs:List ResultVar} {res:List zgl} (h:zk0 P (r::rs)=some res):∃ ar res',res=ar::res'∧zk0 P [r]=some [ar]∧zk0 P rs=some res':=by
 cases r with
 | tmp t =>
  simp only [zk0,Option.map_eq_some_iff] at h
  obtain ⟨x,hx,rfl⟩:=h
  exact ⟨_,_,rfl,rfl,hx⟩
 | cell b t =>
  simp only [zk0] at h
  split at h
  · rename_i g n rs' e1 e2 e3
    split at h
    · rename_i hgn
      cases h
      exact ⟨_,_,rfl,by simp [zk0,e1,e2,hgn],e3⟩
    · cases h
  · cases h
theorem Ret.data {x:AV} {y:D} {v:Value} (h:Ret S w G base x v) (hy:x.data=some y):VRD S y v:=by
 cases x with
 | d z=>simp [AV.data] at hy;subst hy;exact h
 | own sz es=>simp [AV.data] at hy;subst hy;obtain ⟨R,ho,_⟩:=h;exact ho.vrd
 | _=>simp [AV.data] at hy
theorem zno [DD] (h:Rel S ms ow base O ρ L σ G a w):∀ (rs:List ResultVar) (res:List zgl) (xs:List D),zk0 P rs=some res→zev ρ (L::σ) G res=some xs →
 ∃ vs,(rs.mapM (zz4 a.tmps)).run P w=.ok vs w∧zz S xs vs
 | [],res,xs,hc,hx=>by
   simp [zk0] at hc;subst hc
   simp [zev] at hx;subst hx
   exact ⟨[],by simp,zz.nil⟩
 | r::rs,res,xs,hc,hx=>by
   obtain ⟨ar,res',rfl,h1,h2⟩:=zg3 hc
   simp only [zev] at hx
   split at hx
   · rename_i v vs e1 e2
     split at hx
     · rename_i y hy
       cases hx
       obtain ⟨u,hu,hru⟩:=znn h h1 e1
       obtain ⟨us,hus,hrus⟩:=zno h rs res' vs h2 e2
       exact ⟨u::us,by simp [List.mapM_cons,hu,hus],zz.cons (hru.data hy) hrus⟩
     · cases hx
   · cases hx
theorem zqs:∀ {rs:List ResultVar} {res:List zgl},zk0 P rs=some res→rs.length=res.length
 | [],res,h=>by simp [zk0] at h;subst h;rfl
 | r::rs,res,h=>by
   obtain ⟨ar,res',rfl,_,h2⟩:=zg3 h
   simp [zqs h2]
theorem zll {lv:List Hp}:∀ {res:List zgl} {xs:List D},zev ρ lv G res=some xs→xs.length=res.length
 | [],xs,h=>by simp [zev] at h;subst h;rfl
 | r::res,xs,h=>by
   simp only [zev] at h
   split at h
   · rename_i v vs e1 e2
     split at h
     · cases h
       simp [zll e2]
     · cases h
   · cases h
theorem z3i [DD] (h:Rel S ms ow base O ρ L σ G a w) {fn:Func} {res:List zgl} (hc:zk0 P fn.results.toList=some res) {r:AV} (hx:fin res ρ (L::σ) G=some r) :
 ∃ v,(results fn a.tmps).run P w=.ok v w∧Ret S w G base r v:=by
 rw [zsm]
 generalize fn.results.toList=rs at hc
 have many:∀ xs,zev ρ (L::σ) G res=some xs→res.length≠1→r=.tup xs→∃ v,((do
  let vs ← Functor.map List.toArray (rs.mapM (zz4 a.tmps))
  pure (if h:vs.size=1 then vs[0] else .tuple vs):Sem Value)).run P w=.ok v w∧Ret S w G base r v:=by
  intro xs hxs hl ho
  subst ho
  obtain ⟨vs,hvs,hr⟩:=zno h rs res xs hc hxs
  have hlen:=zqs hc
  have hxl:=zll hxs
  refine ⟨.tuple vs.toArray,?_,vs.toArray,rfl,by simpa using hr⟩
  have h1:vs.length≠1:=by have:=hr.1;omega
  simp [hvs,h1]
 match res,hx,hc,many with
 | [ar],hx,hc,_ =>
  simp only [fin] at hx
  cases rs with
  | nil=>simp [zk0] at hc
  | cons r0 rs =>
   obtain ⟨ar',res',e,h1,h2⟩:=zg3 hc
   cases e
   have:rs=[]:=by
    cases rs with
    | nil=>rfl
    | cons r' rs'=>obtain ⟨_,_,e,_⟩:=zg3 h2;cases e
   subst this
   obtain ⟨u,hu,hru⟩:=znn h h1 hx
   exact ⟨u,by simp [List.mapM_cons,hu],hru⟩
 | [],hx,hc,many =>
  simp only [fin,Option.map_eq_some_iff] at hx
  obtain ⟨xs,hxs,rfl⟩:=hx
  exact many xs hxs (by simp) rfl
 | x::y::res,hx,hc,many =>
  simp only [fin,Option.map_eq_some_iff] at hx
  obtain ⟨xs,hxs,rfl⟩:=hx
  exact many xs hxs (by simp) rfl
end
end Go.E2
