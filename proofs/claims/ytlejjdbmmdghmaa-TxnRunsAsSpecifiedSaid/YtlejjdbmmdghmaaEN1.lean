/-
 A function's contract,from what its body comes to.
 Conditions: none;laws.
-/
import Derived.Test.YtlejjdbmmdghmaaEM8
namespace Go.E2
inductive RLe:AV→AV→Prop
 | refl (x:AV):RLe x x
 | nilown (sz:Nat):RLe (.d .nilS) (.own sz [])
 | le (x y:D) (h:DLe x y):RLe (.d x) (.d y)
 | own (sz:Nat) (es:List D) (y:D) (h:DLe (.list es) y):RLe (.own sz es) (.d y)
 | tup (xs ys:List D) (h:zhc xs ys):RLe (.tup xs) (.tup ys)
theorem Ret.le {S:Stb} {w:World} {G:Gh} {base:Nat} {r r':AV} {v:Value} (h:Ret S w G base r v) (hl:RLe r r'):Ret S w G base r' v:=by
 cases hl with
 | refl=>exact h
 | nilown sz =>
  have hv:v=.slice none 0 0:=by cases h;rfl
  exact ⟨none,⟨⟨none,hv⟩,.empty hv,rfl⟩,fun g hg=>by cases hg⟩
 | le x y hd=>exact VRD.le h hd
 | own sz es y hd=>obtain ⟨R,ho,_⟩:=h;exact ho.vrd.le hd
 | tup xs ys hd=>obtain ⟨vs,e,h⟩:=h;exact ⟨vs,e,h.le hd⟩
def zw1 (res:List zgl) (Q:AV→List Hp→Gh→Prop) (st:St):Prop:=∃ r r',fin res st.1 (st.2.1::st.2.2.1) st.2.2.2=some r∧RLe r r'∧Q r' st.2.2.1 st.2.2.2
def zxe (res:List zgl) (Q:AV→List Hp→Gh→Prop):zaz→St→Prop
 | .normal,st=>zw1 res Q st
 | .ret,st=>zw1 res Q st
 | .exit _,_=>False
theorem zcw.tail {_P:Program} {S:Stb} {m:List (Nat→Nat)} {L:Hp} {σ:List Hp} {G:Gh} {w:World} (h:zcw S m (L::σ) G w):zcw S m.tail σ G w:=by
 have live:∀ {k s b cs},zds σ m.tail k s b cs→zds (L::σ) m (k+1) s b cs:=by
  rintro k s b cs ⟨x,y,h1,h2,h3,h4⟩
  exact ⟨x,y,by simpa using h1,by simpa using h2,h3,h4⟩
 refine ⟨h.sub,by have:=h.len;simp at this ⊢;omega,fun hl=>h.box (live hl),fun hl=>h.nos (live hl),fun h1 h2=>?_,h.gbox,h.gnos,fun hb hl=>h.gnl hb (live hl),h.x,h.tab⟩
 have:=h.inj (live h1) (live h2)
 exact ⟨by omega,this.2⟩
theorem Rel.markM [DD] {S:Stb} {ms:List (Nat→Nat)} {ow:Nat→Option Nat} {base:Nat} {O:Nat→Prop} {ρ:Env} {L:Hp} {σ:List Hp} {G:Gh} {a:Act} {w w':World} {ds:List Deferred} (h:Rel S ms ow base O ρ L σ G a w)
 (hw:∀ (b:Nat) (o:Obj),w.heap[b]?=some o→(∀ x,o≠.deferred x)→w'.heap[b]?=some o) (hd:zgk base ds w') (hsz:w'.heap.size=w.heap.size):Rel S ms ow base O ρ L σ G { a with defers:=ds } w':=by
 have keepB:∀ {b cs},zeo S w b cs→w'.heap[b]?=w.heap[b]?:=fun hb=>by
  obtain ⟨vs,e,h1⟩:=hb.heap
  rw [h1,hw _ _ h1 (fun x e=>by cases e)]
 refine { h:=⟨fun ad v hs=>?_,h.h.len,fun hl=>(h.h.box hl).mono (Sub.refl S) (keepB (h.h.box hl)),h.h.nos,h.h.inj,fun hb=>(h.h.gbox hb).mono (Sub.refl S) (keepB (h.h.gbox hb)),h.h.gnos,h.h.gnl,h.h.x.keep (Sub.refl S) rfl fun r o hr ho=>hw r o hr fun x e=>(by subst e;cases ho),h.h.tab⟩,
          tmp:=h.tmp,own:=fun {i sz es} hi=>?_,ownI:=h.ownI,ownB:=h.ownB,new:=h.new,old:=h.old,gold:=h.gold,mold:=h.mold,dfs:=hd,bas:=by rw [hsz];exact h.bas }
 · have h1:=h.h.sub _ _ hs
   unfold World.cell? at h1 ⊢
   split at h1
   · rename_i c0 e0 f0 e1
     rw [hw _ _ e1 (fun x e=>by cases e)]
     exact h1
   · cases h1
 · have ho:=h.own hi
   refine ho.mono (Sub.refl S) (fun g hg=>?_) (fun _ _ _ _=>rfl)
   rw [hg] at ho
   obtain ⟨cap,cur,e,_,⟨_,h2,_⟩,_⟩:=ho
   rw [h2,hw _ _ h2 (fun x e=>by cases e)]
def zca (P:Program) (fn:Func) (tmps:Array Value) (R:Value→World→Prop):List Deferred→World→Prop
 | [],w=>∃ v,(results fn tmps).run P w=.ok v w∧R v w
 | d::ds,w=>∃ r w',d.target=.collected r∧(Instr.takeDeferred r).run P w=.ok [] w'∧zca P fn tmps R ds w'
theorem zca.leaves {P:Program} {F:Fence} {n:Nat} {fn:Func} {tmps:Array Value} {R:Value→World→Prop} {R':Ending→World→Prop} (hR:∀ v w,R v w→R' (.returned v) w):∀ (ds:List Deferred) (w:World),
 zca P fn tmps R ds w→LeavesInM F n P fn tmps R' ds .returning w
 | [],w,h=>by obtain ⟨v,h1,h2⟩:=h;exact ⟨v,h1,hR _ _ h2⟩
 | d::ds,w,h=>by obtain ⟨r,w',h1,h2,h3⟩:=h;exact ⟨by simp,.inl ⟨r,w',h1,h2,zca.leaves hR ds w' h3⟩⟩
theorem zjs {d:Deferred} {r:Nat} (h:zdn d=some r):d.target=.collected r:=by
 unfold zdn at h
 split at h
 · rename_i r' e;cases h;exact e
 · cases h
theorem Rel.pop [DD] {P:Program} {S:Stb} {ms:List (Nat→Nat)} {ow:Nat→Option Nat} {base:Nat} {O:Nat→Prop} {ρ:Env} {L:Hp} {σ:List Hp} {G:Gh} {b:Act} {w:World} {d:Deferred} {ds:List Deferred} {r:Nat} (h:Rel S ms ow base O ρ L σ G b w)
 (hb:b.defers=d::ds) (hd:zdn d=some r):∃ w',(Instr.takeDeferred r).run P w=.ok [] w'∧Rel S ms ow base O ρ L σ G { b with defers:=ds } w'∧∀ {S0:Stb} {w0:World},Evo base O S0 w0 S w→Evo base O S0 w0 S w':=by
 have hmk:=h.dfs
 rw [hb] at hmk
 obtain ⟨hf,hnd,hmem⟩:=hmk
 simp only [List.filter_cons,hd,Option.isNone_some,Bool.false_eq_true,if_false] at hf
 simp only [List.filterMap_cons,hd,List.nodup_cons] at hnd
 obtain ⟨hrb,hheap⟩:=hmem r (by simp [hd])
 have hlt:=(Array.getElem?_eq_some_iff.1 hheap).1
 refine ⟨w.putObj r (.deferred none),?_,?_,fun he=>he.trans (Evo.put (fun h=>absurd hrb (by omega)) _ hlt)⟩
 · simp [Instr.takeDeferred,getObj,setObj,Sem.run,hheap,Result.andThen,World.putObj]
 · have hw:∀ (b:Nat) (o:Obj),w.heap[b]?=some o→(∀ x,o≠.deferred x)→(w.putObj r (.deferred none)).heap[b]?=some o:=fun b o hb ho=>by
    rw [zbr hlt,if_neg]
    · exact hb
    · rintro rfl;rw [hheap] at hb;cases hb;exact ho _ rfl
   refine Rel.markM h hw ⟨hf,hnd.2,fun r' hr'=>?_⟩ (by simp)
   obtain ⟨h2,h3⟩:=hmem r' (by simp only [List.filterMap_cons,hd];exact List.mem_cons_of_mem _ hr')
   have hne:r'≠r:=fun e=>hnd.1 (by rw [← e];exact hr')
   exact ⟨h2,by rw [zbr hlt,if_neg hne];exact h3⟩
theorem zdt {P:Program} {fn:Func} {S S0:Stb} {ms:List (Nat→Nat)} {ow:Nat→Option Nat} {base:Nat} {O:Nat→Prop} {ρ:Env} {L:Hp} {σ:List Hp} {G:Gh} {w0:World} {R:Value→World→Prop}:∀ (ds:List Deferred) (b:Act) (w:World),b.defers=ds →
 Rel S ms ow base O ρ L σ G b w→Evo base O S0 w0 S w→(∀ w2,Rel S ms ow base O ρ L σ G { b with defers:=[] } w2→Evo base O S0 w0 S w2→∃ v,(results fn b.tmps).run P w2=.ok v w2∧R v w2)→zca P fn b.tmps R ds w:=by
 intro ds
 induction ds with
 | nil=>intro b w hb h he hk;exact hk w (by rw [← hb];exact h) he
 | cons d ds ih =>
  intro b w hb h he hk
  have hf:=h.dfs.1
  rw [hb] at hf
  cases hd:zdn d with
  | none=>rw [List.filter_cons] at hf;simp only [hd,Option.isNone_none,if_true] at hf;cases hf
  | some r =>
   obtain ⟨w',h1,h2,h3⟩:=h.pop (P:=P) hb hd
   exact ⟨r,w',zjs hd,h1,ih { b with defers:=ds } w' rfl h2 (h3 he) hk⟩
theorem Rel.enter {S:Stb} {ms:List (Nat→Nat)} {m0:Nat→Nat} {vs:List AV} {σ:List Hp} {G:Gh} {w:World} {args:Array Value} (hrel:zcw S ms σ G w) (hargs:∀ i,VR S (zm5::σ) (m0::ms) (ofL vs i) (args.getD i undef))
 (hown:∀ i sz es,ofL vs i≠.own sz es) (n:Nat):Rel S (m0::ms) (fun _=>none) w.heap.size (zbt σ ms G) (ofL vs) zm5 σ G { tmps:=args++Array.replicate n undef,defers:=[] } w:=by
 have hno:∀ s:Nat,(zm5 s).c=none:=fun s=>rfl
 have live0:∀ {k s b cs},zds (zm5::σ) (m0::ms) k s b cs→∃ k',k=k'+1∧zds σ ms k' s b cs:=by
  rintro k s b cs ⟨x,y,h1,h2,h3,h4⟩
  cases k with
  | zero=>simp at h1;subst h1;rw [hno] at h3;cases h3
  | succ k=>exact ⟨k,rfl,x,y,by simpa using h1,by simpa using h2,h3,h4⟩
 refine { h:=⟨hrel.sub,by simp [hrel.len],fun hl=>?_,fun hl=>?_,fun h1 h2=>?_,hrel.gbox,hrel.gnos,fun hb hl=>?_,hrel.x,hrel.tab⟩,tmp:=fun i=>?_,own:=fun {i sz es} hi=>absurd hi (hown i sz es),ownI:=fun {i j sz es sz' es' g} hi=>absurd hi (hown i sz es),ownB:=fun {i sz es g} hi=>absurd hi (hown i sz es),new:=fun {s b cs} hl=>?_,old:=fun {k s b cs} hl=>?_,gold:=fun {b cs} hb _=>.inr (.inl ⟨cs,hb⟩),mold:=fun {b o} hb _=>.inr (.inr ⟨o,hb⟩),dfs:=zgk.nil,bas:=Nat.le_refl _ }
 · obtain ⟨k',rfl,hl'⟩:=live0 hl;exact hrel.box hl'
 · obtain ⟨k',rfl,hl'⟩:=live0 hl;exact hrel.nos hl'
 · obtain ⟨k',rfl,hl'⟩:=live0 h1
   obtain ⟨k'',rfl,hl''⟩:=live0 h2
   have:=hrel.inj hl' hl''
   exact ⟨by omega,this.2⟩
 · obtain ⟨k',rfl,hl'⟩:=live0 hl;exact hrel.gnl hb hl'
 · have hai:=hargs i
   have:(args++Array.replicate n undef).getD i undef=args.getD i undef:=by
    simp only [Array.getD_eq_getD_getElem?]
    rcases Nat.lt_or_ge i args.size with hi|hi
    · rw [Array.getElem?_append_left hi]
    · rw [Array.getElem?_append_right hi,Array.getElem?_eq_none hi]
      simp only [Array.getElem?_replicate]
      split<;>rfl
   rw [this]
   exact hai
 · obtain ⟨k',e,_⟩:=live0 hl;cases e
 · obtain ⟨k',e,hl'⟩:=live0 hl
   cases e
   exact ⟨hrel.block_lt hl',.inl ⟨k,s,cs,hl'⟩⟩
theorem Rel.leave {P:Program} {S S':Stb} {ms:List (Nat→Nat)} {m':Nat→Nat} {ow':Nat→Option Nat} {ρ:Env} {L:Hp} {σ σ':List Hp} {G G':Gh} {w w2:World} {b:Act} {fn:Func} {res:List zgl} {Q:AV→List Hp→Gh→Prop} {r r':AV}
 (hrel':Rel S' (m'::ms) ow' w.heap.size (zbt σ ms G) ρ L σ' G' b w2) (hevo:Evo w.heap.size (zbt σ ms G) S w S' w2) (hsh:zah σ σ') (hres:zk0 P fn.results.toList=some res) (hr:fin res ρ (L::σ') G'=some r) (hle:RLe r r') (hQ:Q r' σ' G') :
 ∃ v,(results fn b.tmps).run P w2=.ok v w2∧zo1 S ms w σ G Q v w2:=by
 obtain ⟨v,hv,hret⟩:=z3i hrel' hres hr
 refine ⟨v,hv,S',r',σ',G',hQ,by have:=zcw.tail (_P:=P) hrel'.h;simpa using this,hevo,hsh,hret.le hle,fun b cs hb hlt=>?_,fun b o hb hlt=>hrel'.mold hb hlt⟩
 rcases hrel'.gold hb hlt with ⟨k,s,cs',hl⟩|h
 · exfalso
   obtain ⟨x,y,h1,h2,h3,h4⟩:=hl
   obtain ⟨x',hx'⟩:=hsh.get h1
   have e:=(hsh.2 k x x' h1 hx' s).2
   cases hc:(x' s).c with
   | none=>rw [e.1 hc] at h3;cases h3
   | some c0=>exact hrel'.h.gnl hb (k:=k+1) (s:=s) (cs':=c0) ⟨x',y,by simpa using hx',by simpa using h2,hc,h4⟩
 · exact h
theorem zpd {P:Program} (hm:P.follows .mixedOrders=true) {gs:List Nat} {f:FuncId} {af:AFunc} (hf:zf P gs f=some af) {vs:List AV} {σ:List Hp} {G:Gh} {Q:AV→List Hp→Gh→Prop}
 (h:SW P af.body (zxe af.res Q) (ofL vs,zm5,σ,G)):zbb P f vs σ G Q:=by
 intro S ms w args m0 _ hrel hargs hown
 obtain ⟨fn,c,hfn,hb,hng,hres,hbody,hnt⟩:=zgc hf
 refine .inl ⟨⟨fn,c,hfn,hb,hng⟩,?_⟩
 refine callsIn_wide.1 (callsIn_of_wp_marks (F:=Fence.wide) (n:=0) hfn hb trivial (wpIn_mono (h hm none gs fn.ntmps (zbn c) c hbody _ _ _ _ _ _ _ (Rel.enter hrel hargs hown _) zsl.none (by simp;omega)) fun e a' w' hq=>?_))
 have fin':∀ {st:St},zw1 af.res Q st→zbf S (m0::ms) w.heap.size (zbt σ ms G) σ { tmps:=args++Array.replicate (fn.ntmps - args.size) undef,defers:=[] } w st a' w' →
  LeavesInM Fence.wide 0 P fn a'.tmps (fun e w'=>∃ v,e=.returned v∧zo1 S ms w σ G Q v w') a'.defers .returning w':=by
  rintro st ⟨r,r',hr,hle,hQ⟩ ⟨⟨S',m',ow',hrel',hevo⟩,hsh,_⟩
  exact zca.leaves (R:=fun v w'=>zo1 S ms w σ G Q v w') (fun v w h=>⟨v,rfl,h⟩) _ _ (zdt a'.defers a' w' rfl hrel' hevo fun w2 hrel' hevo=>Rel.leave (b:={ a' with defers:=[] }) hrel' hevo hsh hres hr hle hQ)
 cases e with
 | normal=>obtain ⟨st,h1,h2⟩:=hq;exact fin' h1 h2
 | ret=>obtain ⟨st,h1,h2⟩:=hq;exact fin' h1 h2
 | exit id=>obtain ⟨st,h1,_⟩:=hq;exact h1.elim
 | _=>exact hq.elim
end Go.E2
namespace Go.E2
def zba (P:Program) (f:FuncId) (xs:List D) (Q:AV→Prop):Prop :=
 zbb P f (xs.map .d) [] zdi fun r σ' G'=>σ'=[]∧G'=zdi∧Q r
theorem zxf {xs:List D} {i:Nat}:ofL (xs.map .d) i=.undef∨∃ x,xs[i]?=some x∧ofL (xs.map .d) i=.d x:=by
 simp only [ofL,List.getD_eq_getElem?_getD,List.getElem?_map]
 cases h:xs[i]? with
 | none=>exact .inl rfl
 | some x=>exact .inr ⟨x,rfl,rfl⟩
theorem zgf {xs:List D}:∀ i sz es,ofL (xs.map .d) i≠.own sz es:=by
 intro i sz es
 rcases zxf (xs:=xs) (i:=i) with h|⟨x,_,h⟩<;>rw [h]<;>intro e<;>cases e
theorem zbb.args {P:Program} {f:FuncId} {xs ys:List D} {σ:List Hp} {G:Gh} {Q:AV→List Hp→Gh→Prop} (h:zbb P f (ys.map .d) σ G Q) (hl:zhc xs ys):zbb P f (xs.map .d) σ G Q:=by
 intro S ms w args m0 hsz hrel hargs _
 refine h S ms w args m0 (by simp only [List.length_map] at hsz ⊢;rw [hsz,hl.1]) hrel (fun i=>?_) zgf
 have ha:=hargs i
 rcases zxf (xs:=ys) (i:=i) with e|⟨y,hy,e⟩
 · rw [e];trivial
 · rw [e]
   have hi:i<xs.length:=by rw [← hl.1];exact (List.getElem?_eq_some_iff.1 hy).1
   have hx:xs[i]?=some xs[i]:=List.getElem?_eq_getElem hi
   have e':ofL (xs.map .d) i=.d xs[i]:=by simp [ofL,List.getD_eq_getElem?_getD,hx]
   rw [e'] at ha
   exact VRD.le ha (hl.2 i _ y hx hy)
theorem Evo.all {S S':Stb} {w w':World} {O:Nat→Prop} (h:Evo w.heap.size (zbt [] [] zdi) S w S' w'):Evo w.heap.size O S w S' w'∧∀ b,b<w.heap.size→w'.heap[b]?=w.heap[b]?:=by
 have hO:∀ b,¬ zbt [] [] zdi b:=by
  rintro b (⟨k,s,cs,x,m,h1,_⟩|⟨cs,hg⟩|⟨o,hg⟩)
  · simp at h1
  · cases hg
  · cases hg
 have hk:∀ b,b<w.heap.size→w'.heap[b]?=w.heap[b]?:=fun b hb=>h.keep b hb (hO b)
 exact ⟨⟨h.sz,fun b hb _=>hk b hb,h.st,h.sub,h.os,h.tape,h.out⟩,hk⟩
theorem zcw.kept {S S':Stb} {ms:List (Nat→Nat)} {σ:List Hp} {G:Gh} {w w':World} (h:zcw S ms σ G w) (hk:∀ b,b<w.heap.size→w'.heap[b]?=w.heap[b]?) (hsub:∀ ad v,S' ad=some v→w'.cell? ad=some v) (hs:Sub S S') (hst:∀ ad,ad.block<w.heap.size→S' ad=S ad):zcw S' ms σ G w' :=
 ⟨hsub,h.len,fun hl=>(h.box hl).mono hs (hk _ (h.block_lt hl)),fun {k s b cs} hl off sp=>by rw [hst ⟨b,off,sp⟩ (h.block_lt hl)];exact h.nos hl off sp,h.inj,
   fun hb=>(h.gbox hb).mono hs (hk _ (h.g_lt hb)),fun {b cs} hb off sp=>by rw [hst ⟨b,off,sp⟩ (h.g_lt hb)];exact h.gnos hb off sp,h.gnl,h.x.keep hs rfl fun r o hr _=>(hk r (Array.getElem?_eq_some_iff.1 hr).1).trans hr,h.tab.mono hs⟩
theorem zcw.bare {S:Stb} {ms:List (Nat→Nat)} {σ:List Hp} {G:Gh} {w:World} (h:zcw S ms σ G w):zcw S [] [] zdi w :=
 ⟨h.sub,rfl,fun ⟨x,m,h1,_⟩=>by simp at h1,fun ⟨x,m,h1,_⟩=>by simp at h1,fun ⟨x,m,h1,_⟩=>by simp at h1,fun h=>(by cases h),fun h=>(by cases h),fun h=>(by cases h),zmh.none,h.tab⟩
theorem zba.quiet {P:Program} {f:FuncId} {xs:List D} {Q:AV→Prop} (h:zba P f xs Q) (σ:List Hp) (G:Gh):zbb P f (xs.map .d) σ G fun r σ' G'=>σ'=σ∧G'=G∧Q r:=by
 intro S ms w args m0 hsz hrel hargs hown
 refine (h S [] w args m0 hsz hrel.bare (fun i=>?_) hown).mono fun v w' ⟨S',r,σ',G',⟨h1,h2,hQ⟩,hr,he,_,hret,_⟩=>?_
 · have:=hargs i
   rcases zxf (xs:=xs) (i:=i) with e|⟨x,_,e⟩
   · rw [e];trivial
   · rw [e] at this ⊢;exact this
 · subst h1;subst h2
   obtain ⟨he',hk⟩:=he.all (O:=zbt σ ms G)
   refine ⟨S',r,σ,G,⟨rfl,rfl,hQ⟩,hrel.kept hk hr.sub he.sub he.st,he',zah.refl _,?_,zz3.refl _ _ _ _⟩
   cases r with
   | own sz es =>
    obtain ⟨R,ho,hR⟩:=hret
    refine ⟨R,ho,fun g hg=>⟨(hR g hg).1,?_⟩⟩
    cases hG:G g with
    | none=>rfl
    | some cs=>have:=hrel.g_lt hG;have:=(hR g hg).1;omega
   | _=>exact hret

inductive z78 (G:Gh):D→D→Prop
 | refl (x:D):z78 G x x
 | nil:z78 G .nilS (.list [])
 | gs (b off n cap sz:Nat) (cs es:List D) (hb:G b=some cs) (hfit:off+n * sz≤cs.length) (hn:es.length=n) (hsz:es.all (zb sz)=true) (he:zag es=(cs.drop off).take (n * sz)):z78 G (.gs b off n cap) (.list es)
end Go.E2
namespace Go.E2
inductive FD (b:Nat) (cs:List D):D→D→Prop
 | refl (x:D):FD b cs x x
 | gs (off n cap sz:Nat) (es:List D) (hfit:off+n * sz≤cs.length) (hn:es.length=n) (hsz:es.all (zb sz)=true) (he:zag es=(cs.drop off).take (n * sz)):FD b cs (.gs b off n cap) (.list es)
 | agg (xs ys:List D) (hl:ys.length=xs.length) (h:∀ (j:Nat) (x y:D),xs[j]?=some x→ys[j]?=some y→FD b cs x y):FD b cs (.agg xs) (.agg ys)
 | list (xs ys:List D) (hl:ys.length=xs.length) (hc:(zag ys).length=(zag xs).length) (sz:Nat) (hsz:ys.all (zb sz)=true) (h:∀ (j:Nat) (x y:D),(zag xs)[j]?=some x→(zag ys)[j]?=some y→FD b cs x y):FD b cs (.list xs) (.list ys)
inductive FA (b:Nat) (cs:List D):AV→AV→Prop
 | refl (x:AV):FA b cs x x
 | d (x y:D) (h:FD b cs x y):FA b cs (.d x) (.d y)
 | tup (xs ys:List D) (hl:ys.length=xs.length) (h:∀ (j:Nat) (x y:D),xs[j]?=some x→ys[j]?=some y→FD b cs x y):FA b cs (.tup xs) (.tup ys)
theorem zbb.forget {P:Program} {f:FuncId} {vs:List AV} {σ:List Hp} {G:Gh} {Q Q2:AV→List Hp→Gh→Prop} (h:zbb P f vs σ G Q)
 (hq:∀ r σ' G',Q r σ' G'→∃ G2:Gh,(∀ b,G2 b=none∨G2 b=G' b)∧(∀ b,G2.m b=none∨G2.m b=G'.m b)∧Q2 r σ' G2):zbb P f vs σ G Q2:=by
 intro S ms w args m0 hsz hrel hargs hown
 refine (h S ms w args m0 hsz hrel hargs hown).mono fun v w' ⟨S',r,σ',G',hQ,hr,he,hsh,hret,hG⟩=>?_
 obtain ⟨G2,hg,hgm',h2⟩:=hq r σ' G' hQ
 have hgm:∀ b o,G2.m b=some o→G'.m b=some o:=by
  intro b o hb
  rcases hgm' b with h|h
  · rw [h] at hb;cases hb
  · rw [← h];exact hb
 have hs:∀ {b cs},G2 b=some cs→G' b=some cs:=by
  intro b cs hb
  rcases hg b with h|h
  · rw [h] at hb;cases hb
  · rw [← h];exact hb
 refine ⟨S',r,σ',G2,h2,⟨hr.sub,hr.len,hr.box,hr.nos,hr.inj,fun hb=>hr.gbox (hs hb),fun hb=>hr.gnos (hs hb),fun hb=>hr.gnl (hs hb),fun b o hb=>hr.x b o (hgm b o hb),hr.tab⟩,he,hsh,?_,⟨fun b cs hb hlt=>hG.c b cs (hs hb) hlt,fun b o hb hlt=>hG.m b o (hgm b o hb) hlt⟩⟩
 cases r with
 | own sz es =>
  obtain ⟨R,ho,hR⟩:=hret
  refine ⟨R,ho,fun g hg'=>⟨(hR g hg').1,?_⟩⟩
  rcases hg g with h|h
  · exact h
  · rw [h];exact (hR g hg').2
 | _=>exact hret
end Go.E2
