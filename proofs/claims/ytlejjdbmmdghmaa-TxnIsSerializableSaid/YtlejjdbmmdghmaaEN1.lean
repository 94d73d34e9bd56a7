/-
 A function's contract,from what its body comes to.
 Conditions: none;laws.
-/
import Derived.Test.YtlejjdbmmdghmaaEM8
namespace Go.E2
inductive RLe:AV→AV→Prop
 | refl (x:AV):RLe x x
 | nilown (sz:Nat):RLe (.d .nilS) (.own sz [])
 | le (x y:D) (h:DLe x y):RLe (.d x) (.d y)
 | own (sz:Nat) (es:List D) (y:D) (h:DLe (.list es) y):RLe (.own sz es) (.d y)
 | tup (xs ys:List D) (h:zhj xs ys):RLe (.tup xs) (.tup ys)
theorem Ret.le {S:Stb} {w:World} {G:Gh} {base:Nat} {r r':AV} {v:Value} (h:Ret S w G base r v) (hl:RLe r r'):Ret S w G base r' v:=by
 cases hl with
 | refl=>exact h
 | nilown sz =>
  have hv:v=.slice none 0 0:=by cases h;rfl
  exact ⟨none,⟨⟨none,hv⟩,.empty hv,rfl⟩,fun g hg=>by cases hg⟩
 | le x y hd=>exact VRD.le h hd
 | own sz es y hd=>obtain ⟨R,ho,_⟩:=h;exact ho.vrd.le hd
 | tup xs ys hd=>obtain ⟨vs,e,h⟩:=h;exact ⟨vs,e,h.le hd⟩
def zwc (res:List zfz) (Q:AV→List Hp→Gh→Prop) (st:St):Prop:=∃ r r',fin res st.1 (st.2.1::st.2.2.1) st.2.2.2=some r∧RLe r r'∧Q r' st.2.2.1 st.2.2.2
def zwr (res:List zfz) (Q:AV→List Hp→Gh→Prop):zay→St→Prop
 | .normal,st=>zwc res Q st
 | .ret,st=>zwc res Q st
 | .exit _,_=>False
theorem zct.tail {_P:Program} {S:Stb} {m:List (Nat→Nat)} {L:Hp} {σ:List Hp} {G:Gh} {w:World} (h:zct S m (L::σ) G w):zct S m.tail σ G w:=by
 have live:∀ {k s b cs},zdp σ m.tail k s b cs→zdp (L::σ) m (k+1) s b cs:=by
  rintro k s b cs ⟨x,y,h1,h2,h3,h4⟩
  exact ⟨x,y,by simpa using h1,by simpa using h2,h3,h4⟩
 refine ⟨h.sub,by have:=h.len;simp at this ⊢;omega,fun hl=>h.box (live hl),fun hl=>h.nos (live hl),fun h1 h2=>?_,h.gbox,h.gnos,fun hb hl=>h.gnl hb (live hl),h.x,h.tab⟩
 have:=h.inj (live h1) (live h2)
 exact ⟨by omega,this.2⟩
theorem Rel.markM [DD] {S:Stb} {ms:List (Nat→Nat)} {ow:Nat→Option Nat} {base:Nat} {O:Nat→Prop} {ρ:Env} {L:Hp} {σ:List Hp} {G:Gh} {a:Act} {w w':World} {ds:List Deferred} (h:Rel S ms ow base O ρ L σ G a w)
 (hw:∀ (b:Nat) (o:Obj),w.heap[b]?=some o→(∀ x,o≠.deferred x)→w'.heap[b]?=some o) (hd:zgh base ds w') (hsz:w'.heap.size=w.heap.size):Rel S ms ow base O ρ L σ G { a with defers:=ds } w':=by
 have keepB:∀ {b cs},zej S w b cs→w'.heap[b]?=w.heap[b]?:=fun hb=>by
  obtain ⟨vs,e,h1⟩:=hb.heap
  rw [h1,hw _ _ h1 (fun x e=>by cases e)]
 refine { h:=⟨fun ad v hs=>?_,h.h.len,fun hl=>(h.h.box hl).mono (Sub.refl S) (keepB (h.h.box hl)),h.h.nos,h.h.inj,fun hb=>(h.h.gbox hb).mono (Sub.refl S) (keepB (h.h.gbox hb)),h.h.gnos,h.h.gnl,h.h.x.keep (Sub.refl S) rfl fun r o hr ho=>hw r o hr fun x e=>(by subst e;cases ho),h.h.tab⟩,
          tmp:=h.tmp,own:=fun {i sz es} hi=>?_,ownI:=h.ownI,ownB:=h.ownB,new:=h.new,old:=h.old,gold:=h.gold,mold:=h.mold,dfs:=hd,bas:=by rw [hsz];exact h.bas }
 · have h1:=h.h.sub _ _ hs
   unfold World.cell? at h1 ⊢
   split at h1
   · rename_i c0 e0 f0 e1
     rw [hw _ _ e1 (fun x e=>by cases e)]
     exact h1
   · cases h1
 · have ho:=h.own hi
   refine ho.mono (Sub.refl S) (fun g hg=>?_) (fun _ _ _ _=>rfl)
   rw [hg] at ho
   obtain ⟨cap,cur,e,_,⟨_,h2,_⟩,_⟩:=ho
   rw [h2,hw _ _ h2 (fun x e=>by cases e)]
def zcc (P:Program) (fn:Func) (tmps:Array Value) (R:Value→World→Prop):List Deferred→World→Prop
 | [],w=>∃ v,(results fn tmps).run P w=.ok v w∧R v w
 | d::ds,w=>∃ r w',d.target=.collected r∧(Instr.takeDeferred r).run P w=.ok [] w'∧zcc P fn tmps R ds w'
theorem zcc.leaves {P:Program} {F:Fence} {n:Nat} {fn:Func} {tmps:Array Value} {R:Value→World→Prop} {R':Ending→World→Prop} (hR:∀ v w,R v w→R' (.returned v) w):∀ (ds:List Deferred) (w:World),
 zcc P fn tmps R ds w→LeavesInM F n P fn tmps R' ds .returning w
 | [],w,h=>by obtain ⟨v,h1,h2⟩:=h;exact ⟨v,h1,hR _ _ h2⟩
 | d::ds,w,h=>by obtain ⟨r,w',h1,h2,h3⟩:=h;exact ⟨by simp,.inl ⟨r,w',h1,h2,zcc.leaves hR ds w' h3⟩⟩
theorem zjo {d:Deferred} {r:Nat} (h:zdk d=some r):d.target=.collected r:=by
 unfold zdk at h
 split at h
 · rename_i r' e;cases h;exact e
 · cases h
theorem Rel.pop [DD] {P:Program} {S:Stb} {ms:List (Nat→Nat)} {ow:Nat→Option Nat} {base:Nat} {O:Nat→Prop} {ρ:Env} {L:Hp} {σ:List Hp} {G:Gh} {b:Act} {w:World} {d:Deferred} {ds:List Deferred} {r:Nat} (h:Rel S ms ow base O ρ L σ G b w)
 (hb:b.defers=d::ds) (hd:zdk d=some r):∃ w',(Instr.takeDeferred r).run P w=.ok [] w'∧Rel S ms ow base O ρ L σ G { b with defers:=ds } w'∧∀ {S0:Stb} {w0:World},Evo base O S0 w0 S w→Evo base O S0 w0 S w':=by
 have hmk:=h.dfs
 rw [hb] at hmk
 obtain ⟨hf,hnd,hmem⟩:=hmk
 simp only [List.filter_cons,hd,Option.isNone_some,Bool.false_eq_true,if_false] at hf
 simp only [List.filterMap_cons,hd,List.nodup_cons] at hnd
 obtain ⟨hrb,hheap⟩:=hmem r (by simp [hd])
 have hlt:=(Array.getElem?_eq_some_iff.1 hheap).1
 refine ⟨w.putObj r (.deferred none),?_,?_,fun he=>he.trans (Evo.put (fun h=>absurd hrb (by omega)) _ hlt)⟩
 · simp [Instr.takeDeferred,getObj,setObj,Sem.run,hheap,Result.andThen,World.putObj]
 · have hw:∀ (b:Nat) (o:Obj),w.heap[b]?=some o→(∀ x,o≠.deferred x)→(w.putObj r (.deferred none)).heap[b]?=some o:=fun b o hb ho=>by
    rw [zbt hlt,if_neg]
    · exact hb
    · rintro rfl;rw [hheap] at hb;cases hb;exact ho _ rfl
   refine Rel.markM h hw ⟨hf,hnd.2,fun r' hr'=>?_⟩ (by simp)
   obtain ⟨h2,h3⟩:=hmem r' (by simp only [List.filterMap_cons,hd];exact List.mem_cons_of_mem _ hr')
   have hne:r'≠r:=fun e=>hnd.1 (by rw [← e];exact hr')
   exact ⟨h2,by rw [zbt hlt,if_neg hne];exact h3⟩
theorem zdq {P:Program} {fn:Func} {S S0:Stb} {ms:List (Nat→Nat)} {ow:Nat→Option Nat} {base:Nat} {O:Nat→Prop} {ρ:Env} {L:Hp} {σ:List Hp} {G:Gh} {w0:World} {R:Value→World→Prop}:∀ (ds:List Deferred) (b:Act) (w:World),b.defers=ds →
 Rel S ms ow base O ρ L σ G b w→Evo base O S0 w0 S w→(∀ w2,Rel S ms ow base O ρ L σ G { b with defers:=[] } w2→Evo base O S0 w0 S w2→∃ v,(results fn b.tmps).run P w2=.ok v w2∧R v w2)→zcc P fn b.tmps R ds w:=by
 intro ds
 induction ds with
 | nil=>intro b w hb h he hk;exact hk w (by rw [← hb];exact h) he
 | cons d ds ih =>
  intro b w hb h he hk
  have hf:=h.dfs.1
  rw [hb] at hf
  cases hd:zdk d with
  | none=>rw [List.filter_cons] at hf;simp only [hd,Option.isNone_none,if_true] at hf;cases hf
  | some r =>
   obtain ⟨w',h1,h2,h3⟩:=h.pop (P:=P) hb hd
   exact ⟨r,w',zjo hd,h1,ih { b with defers:=ds } w' rfl h2 (h3 he) hk⟩
theorem Rel.enter {S:Stb} {ms:List (Nat→Nat)} {m0:Nat→Nat} {vs:List AV} {σ:List Hp} {G:Gh} {w:World} {args:Array Value} (hrel:zct S ms σ G w) (hargs:∀ i,VR S (zmy::σ) (m0::ms) (ofL vs i) (args.getD i undef))
 (hown:∀ i sz es,ofL vs i≠.own sz es) (n:Nat):Rel S (m0::ms) (fun _=>none) w.heap.size (zbx σ ms G) (ofL vs) zmy σ G { tmps:=args++Array.replicate n undef,defers:=[] } w:=by
 have hno:∀ s:Nat,(zmy s).c=none:=fun s=>rfl
 have live0:∀ {k s b cs},zdp (zmy::σ) (m0::ms) k s b cs→∃ k',k=k'+1∧zdp σ ms k' s b cs:=by
  rintro k s b cs ⟨x,y,h1,h2,h3,h4⟩
  cases k with
  | zero=>simp at h1;subst h1;rw [hno] at h3;cases h3
  | succ k=>exact ⟨k,rfl,x,y,by simpa using h1,by simpa using h2,h3,h4⟩
 refine { h:=⟨hrel.sub,by simp [hrel.len],fun hl=>?_,fun hl=>?_,fun h1 h2=>?_,hrel.gbox,hrel.gnos,fun hb hl=>?_,hrel.x,hrel.tab⟩,tmp:=fun i=>?_,own:=fun {i sz es} hi=>absurd hi (hown i sz es),ownI:=fun {i j sz es sz' es' g} hi=>absurd hi (hown i sz es),ownB:=fun {i sz es g} hi=>absurd hi (hown i sz es),new:=fun {s b cs} hl=>?_,old:=fun {k s b cs} hl=>?_,gold:=fun {b cs} hb _=>.inr (.inl ⟨cs,hb⟩),mold:=fun {b o} hb _=>.inr (.inr ⟨o,hb⟩),dfs:=zgh.nil,bas:=Nat.le_refl _ }
 · obtain ⟨k',rfl,hl'⟩:=live0 hl;exact hrel.box hl'
 · obtain ⟨k',rfl,hl'⟩:=live0 hl;exact hrel.nos hl'
 · obtain ⟨k',rfl,hl'⟩:=live0 h1
   obtain ⟨k'',rfl,hl''⟩:=live0 h2
   have:=hrel.inj hl' hl''
   exact ⟨by omega,this.2⟩
 · obtain ⟨k',rfl,hl'⟩:=live0 hl;exact hrel.gnl hb hl'
 · have hai:=hargs i
   have:(args++Array.replicate n undef).getD i undef=args.getD i undef:=by
    simp only [Array.getD_eq_getD_getElem?]
    rcases Nat.lt_or_ge i args.size with hi|hi
    · rw [Array.getElem?_append_left hi]
    · rw [Array.getElem?_append_right hi,Array.getElem?_eq_none hi]
      simp only [Array.getElem?_replicate]
      split<;>rfl
   rw [this]
   exact hai
 · obtain ⟨k',e,_⟩:=live0 hl;cases e
 · obtain ⟨k',e,hl'⟩:=live0 hl
   cases e
   exact ⟨hrel.block_lt hl',.inl ⟨k,s,cs,hl'⟩⟩
theorem Rel.leave {P:Program} {S S':Stb} {ms:List (Nat→Nat)} {m':Nat→Nat} {ow':Nat→Option Nat} {ρ:Env} {L:Hp} {σ σ':List Hp} {G G':Gh} {w w2:World} {b:Act} {fn:Func} {res:List zfz} {Q:AV→List Hp→Gh→Prop} {r r':AV}
 (hrel':Rel S' (m'::ms) ow' w.heap.size (zbx σ ms G) ρ L σ' G' b w2) (hevo:Evo w.heap.size (zbx σ ms G) S w S' w2) (hsh:zah σ σ') (hres:zkm P fn.results.toList=some res) (hr:fin res ρ (L::σ') G'=some r) (hle:RLe r r') (hQ:Q r' σ' G') :
 ∃ v,(results fn b.tmps).run P w2=.ok v w2∧zoo S ms w σ G Q v w2:=by
 obtain ⟨v,hv,hret⟩:=z3a hrel' hres hr
 refine ⟨v,hv,S',r',σ',G',hQ,by have:=zct.tail (_P:=P) hrel'.h;simpa using this,hevo,hsh,hret.le hle,fun b cs hb hlt=>?_,fun b o hb hlt=>hrel'.mold hb hlt⟩
 rcases hrel'.gold hb hlt with ⟨k,s,cs',hl⟩|h
 · exfalso
   obtain ⟨x,y,h1,h2,h3,h4⟩:=hl
   obtain ⟨x',hx'⟩:=hsh.get h1
   have e:=(hsh.2 k x x' h1 hx' s).2
   cases hc:(x' s).c with
   | none=>rw [e.1 hc] at h3;cases h3
   | some c0=>exact hrel'.h.gnl hb (k:=k+1) (s:=s) (cs':=c0) ⟨x',y,by simpa using hx',by simpa using h2,hc,h4⟩
 · exact h
theorem zoz {P:Program} (hm:P.follows .mixedOrders=true) {gs:List Nat} {f:FuncId} {af:AFunc} (hf:zj P gs f=some af) {vs:List AV} {σ:List Hp} {G:Gh} {Q:AV→List Hp→Gh→Prop}
 (h:SW P af.body (zwr af.res Q) (ofL vs,zmy,σ,G)):zaq P f vs σ G Q:=by
 intro S ms w args m0 _ hrel hargs hown
 obtain ⟨fn,c,hfn,hb,hng,hres,hbody,hnt⟩:=zf7 hf
 refine .inl ⟨⟨fn,c,hfn,hb,hng⟩,?_⟩
 refine callsIn_wide.1 (callsIn_of_wp_marks (F:=Fence.wide) (n:=0) hfn hb trivial (wpIn_mono (h hm none gs fn.ntmps (zbp c) c hbody _ _ _ _ _ _ _ (Rel.enter hrel hargs hown _) zr3.none (by simp;omega)) fun e a' w' hq=>?_))
 have fin':∀ {st:St},zwc af.res Q st→zbg S (m0::ms) w.heap.size (zbx σ ms G) σ { tmps:=args++Array.replicate (fn.ntmps - args.size) undef,defers:=[] } w st a' w' →
  LeavesInM Fence.wide 0 P fn a'.tmps (fun e w'=>∃ v,e=.returned v∧zoo S ms w σ G Q v w') a'.defers .returning w':=by
  rintro st ⟨r,r',hr,hle,hQ⟩ ⟨⟨S',m',ow',hrel',hevo⟩,hsh,_⟩
  exact zcc.leaves (R:=fun v w'=>zoo S ms w σ G Q v w') (fun v w h=>⟨v,rfl,h⟩) _ _ (zdq a'.defers a' w' rfl hrel' hevo fun w2 hrel' hevo=>Rel.leave (b:={ a' with defers:=[] }) hrel' hevo hsh hres hr hle hQ)
 cases e with
 | normal=>obtain ⟨st,h1,h2⟩:=hq;exact fin' h1 h2
 | ret=>obtain ⟨st,h1,h2⟩:=hq;exact fin' h1 h2
 | exit id=>obtain ⟨st,h1,_⟩:=hq;exact h1.elim
 | _=>exact hq.elim
end Go.E2
namespace Go.E2
def zb2 (P:Program) (f:FuncId) (xs:List D) (Q:AV→Prop):Prop :=
 zaq P f (xs.map .d) [] zel fun r σ' G'=>σ'=[]∧G'=zel∧Q r
theorem zb2.mono {P:Program} {f:FuncId} {xs:List D} {Q Q':AV→Prop} (h:zb2 P f xs Q) (hq:∀ r,Q r→Q' r):zb2 P f xs Q' :=
 zaq.mono h fun _ _ _ ⟨h1,h2,h3⟩=>⟨h1,h2,hq _ h3⟩
theorem zws {xs:List D} {i:Nat}:ofL (xs.map .d) i=.undef∨∃ x,xs[i]?=some x∧ofL (xs.map .d) i=.d x:=by
 simp only [ofL,List.getD_eq_getElem?_getD,List.getElem?_map]
 cases h:xs[i]? with
 | none=>exact .inl rfl
 | some x=>exact .inr ⟨x,rfl,rfl⟩
theorem zga {xs:List D}:∀ i sz es,ofL (xs.map .d) i≠.own sz es:=by
 intro i sz es
 rcases zws (xs:=xs) (i:=i) with h|⟨x,_,h⟩<;>rw [h]<;>intro e<;>cases e
theorem zaq.args {P:Program} {f:FuncId} {xs ys:List D} {σ:List Hp} {G:Gh} {Q:AV→List Hp→Gh→Prop} (h:zaq P f (ys.map .d) σ G Q) (hl:zhj xs ys):zaq P f (xs.map .d) σ G Q:=by
 intro S ms w args m0 hsz hrel hargs _
 refine h S ms w args m0 (by simp only [List.length_map] at hsz ⊢;rw [hsz,hl.1]) hrel (fun i=>?_) zga
 have ha:=hargs i
 rcases zws (xs:=ys) (i:=i) with e|⟨y,hy,e⟩
 · rw [e];trivial
 · rw [e]
   have hi:i<xs.length:=by rw [← hl.1];exact (List.getElem?_eq_some_iff.1 hy).1
   have hx:xs[i]?=some xs[i]:=List.getElem?_eq_getElem hi
   have e':ofL (xs.map .d) i=.d xs[i]:=by simp [ofL,List.getD_eq_getElem?_getD,hx]
   rw [e'] at ha
   exact VRD.le ha (hl.2 i _ y hx hy)
theorem zb2.args {P:Program} {f:FuncId} {xs ys:List D} {Q:AV→Prop} (h:zb2 P f ys Q) (hl:zhj xs ys):zb2 P f xs Q:=zaq.args h hl
theorem Evo.all {S S':Stb} {w w':World} {O:Nat→Prop} (h:Evo w.heap.size (zbx [] [] zel) S w S' w'):Evo w.heap.size O S w S' w'∧∀ b,b<w.heap.size→w'.heap[b]?=w.heap[b]?:=by
 have hO:∀ b,¬ zbx [] [] zel b:=by
  rintro b (⟨k,s,cs,x,m,h1,_⟩|⟨cs,hg⟩|⟨o,hg⟩)
  · simp at h1
  · cases hg
  · cases hg
 have hk:∀ b,b<w.heap.size→w'.heap[b]?=w.heap[b]?:=fun b hb=>h.keep b hb (hO b)
 exact ⟨⟨h.sz,fun b hb _=>hk b hb,h.st,h.sub,h.os,h.tape,h.out⟩,hk⟩
theorem zct.kept {S S':Stb} {ms:List (Nat→Nat)} {σ:List Hp} {G:Gh} {w w':World} (h:zct S ms σ G w) (hk:∀ b,b<w.heap.size→w'.heap[b]?=w.heap[b]?) (hsub:∀ ad v,S' ad=some v→w'.cell? ad=some v) (hs:Sub S S') (hst:∀ ad,ad.block<w.heap.size→S' ad=S ad):zct S' ms σ G w' :=
 ⟨hsub,h.len,fun hl=>(h.box hl).mono hs (hk _ (h.block_lt hl)),fun {k s b cs} hl off sp=>by rw [hst ⟨b,off,sp⟩ (h.block_lt hl)];exact h.nos hl off sp,h.inj,
   fun hb=>(h.gbox hb).mono hs (hk _ (h.g_lt hb)),fun {b cs} hb off sp=>by rw [hst ⟨b,off,sp⟩ (h.g_lt hb)];exact h.gnos hb off sp,h.gnl,h.x.keep hs rfl fun r o hr _=>(hk r (Array.getElem?_eq_some_iff.1 hr).1).trans hr,h.tab.mono hs⟩
theorem zct.bare {S:Stb} {ms:List (Nat→Nat)} {σ:List Hp} {G:Gh} {w:World} (h:zct S ms σ G w):zct S [] [] zel w :=
 ⟨h.sub,rfl,fun ⟨x,m,h1,_⟩=>by simp at h1,fun ⟨x,m,h1,_⟩=>by simp at h1,fun ⟨x,m,h1,_⟩=>by simp at h1,fun h=>(by cases h),fun h=>(by cases h),fun h=>(by cases h),zl9.none,h.tab⟩
theorem zb2.quiet {P:Program} {f:FuncId} {xs:List D} {Q:AV→Prop} (h:zb2 P f xs Q) (σ:List Hp) (G:Gh):zaq P f (xs.map .d) σ G fun r σ' G'=>σ'=σ∧G'=G∧Q r:=by
 intro S ms w args m0 hsz hrel hargs hown
 refine (h S [] w args m0 hsz hrel.bare (fun i=>?_) hown).mono fun v w' ⟨S',r,σ',G',⟨h1,h2,hQ⟩,hr,he,_,hret,_⟩=>?_
 · have:=hargs i
   rcases zws (xs:=xs) (i:=i) with e|⟨x,_,e⟩
   · rw [e];trivial
   · rw [e] at this ⊢;exact this
 · subst h1;subst h2
   obtain ⟨he',hk⟩:=he.all (O:=zbx σ ms G)
   refine ⟨S',r,σ,G,⟨rfl,rfl,hQ⟩,hrel.kept hk hr.sub he.sub he.st,he',zah.refl _,?_,zzg.refl _ _ _ _⟩
   cases r with
   | own sz es =>
    obtain ⟨R,ho,hR⟩:=hret
    refine ⟨R,ho,fun g hg=>⟨(hR g hg).1,?_⟩⟩
    cases hG:G g with
    | none=>rfl
    | some cs=>have:=hrel.g_lt hG;have:=(hR g hg).1;omega
   | _=>exact hret
mutual
def ztv:D→Bool
 | .agg cs=>zqg cs
 | .bool _=>true
 | .int _ _=>true
 | .str _=>true
 | _=>false
def zqg:List D→Bool
 | []=>true
 | x::xs=>ztv x && zqg xs
end
theorem zk8:∀ l,zqg l=l.all ztv
 | []=>rfl
 | x::xs=>by simp [zqg,zk8 xs]
theorem VRD.flat {S S':Stb} {x:D} {v:Value} (h:VRD S x v):ztv x=true→VRD S' x v:=by
 induction h with
 | bool b=>exact fun _=>.bool b
 | int k n=>exact fun _=>.int k n
 | str s l h=>exact fun _=>.str s l h
 | agg cs vs hl ho _ ih =>
  intro hf
  simp only [ztv,zk8,List.all_eq_true] at hf
  exact .agg cs vs hl ho fun j x v a b=>ih j x v a b (hf x (List.mem_of_getElem? a))
 | _=>intro hf;simp [ztv] at hf
inductive z3b (G:Gh):D→D→Prop
 | refl (x:D):z3b G x x
 | nil:z3b G .nilS (.list [])
 | gs (b off n cap sz:Nat) (cs es:List D) (hb:G b=some cs) (hfit:off+n * sz≤cs.length) (hn:es.length=n) (hsz:es.all (za sz)=true) (he:flat es=(cs.drop off).take (n * sz)):z3b G (.gs b off n cap) (.list es)
def ztw (G:Gh) (xs ys:List D):Prop:=ys.length=xs.length∧∀ (j:Nat) (x y:D),xs[j]?=some x→ys[j]?=some y→z3b G x y
theorem ztw.nil {G:Gh}:ztw G [] []:=⟨rfl,fun j x y h=>by simp at h⟩
theorem ztw.cons {G:Gh} {x y:D} {xs ys:List D} (h:z3b G x y) (hs:ztw G xs ys):ztw G (x::xs) (y::ys):=by
 refine ⟨by simp [hs.1],fun j u v a b=>?_⟩
 cases j with
 | zero=>simp at a b;subst a;subst b;exact h
 | succ j=>exact hs.2 j u v (by simpa using a) (by simpa using b)
end Go.E2
namespace Go.E2
inductive FD (b:Nat) (cs:List D):D→D→Prop
 | refl (x:D):FD b cs x x
 | gs (off n cap sz:Nat) (es:List D) (hfit:off+n * sz≤cs.length) (hn:es.length=n) (hsz:es.all (za sz)=true) (he:flat es=(cs.drop off).take (n * sz)):FD b cs (.gs b off n cap) (.list es)
 | agg (xs ys:List D) (hl:ys.length=xs.length) (h:∀ (j:Nat) (x y:D),xs[j]?=some x→ys[j]?=some y→FD b cs x y):FD b cs (.agg xs) (.agg ys)
 | list (xs ys:List D) (hl:ys.length=xs.length) (hc:(flat ys).length=(flat xs).length) (sz:Nat) (hsz:ys.all (za sz)=true) (h:∀ (j:Nat) (x y:D),(flat xs)[j]?=some x→(flat ys)[j]?=some y→FD b cs x y):FD b cs (.list xs) (.list ys)
theorem FD.one {b:Nat} {cs:List D} {x y:D} (h:FD b cs x y):y.one=x.one:=by cases h<;>rfl
theorem FD.vrd {S:Stb} {b:Nat} {cs:List D} {vs:List Value} (hv:zz S cs vs) (hS:∀ (j:Nat) (u:Value),vs[j]?=some u→S ⟨b,j,none⟩=some u) {x y:D} (h:FD b cs x y):∀ {v:Value},VRD S x v→VRD S y v:=by
 induction h with
 | refl x=>exact fun h=>h
 | gs off n cap sz es hfit hn hsz he =>
  intro v h
  cases h
  rename_i hnc
  rw [← hn]
  refine VRD.list_mk (c:=(vs.drop off).take (n * sz)) rfl (by rw [hn];exact hnc) hsz (by rw [he];exact (hv.drop _).take _) fun j u hj=>?_
  rw [List.getElem?_take] at hj
  split at hj
  · rw [List.getElem?_drop] at hj;exact hS _ _ hj
  · cases hj
 | agg xs ys hl h ih =>
  intro v hx
  obtain ⟨us,rfl,hus,ho⟩:=hx.agg_inv
  refine .agg ys us (by rw [hl];simpa using hus.1) ?_ fun j y u hy hu=>?_
  · rw [List.all_eq_true] at ho ⊢
    intro y hy
    obtain ⟨j,hj⟩:=List.getElem?_of_mem hy
    have hlt:j<xs.length:=by rw [← hl];exact (List.getElem?_eq_some_iff.1 hj).1
    have hx:xs[j]?=some xs[j]:=List.getElem?_eq_getElem hlt
    rw [(h j _ y hx hj).one]
    exact ho _ (List.getElem_mem hlt)
  · have hlt:j<xs.length:=by rw [← hl];exact (List.getElem?_eq_some_iff.1 hy).1
    have hx:xs[j]?=some xs[j]:=List.getElem?_eq_getElem hlt
    exact ih j _ y hx hy (hus.2 j _ u hx (by simpa using hu))
 | list xs ys hl hc sz hsz h ih =>
  intro v hx
  rcases hx.list_inv with ⟨rfl,rfl⟩|⟨a,cap,c,rfl,hsp,hcap,_,hcv,hcS⟩
  · have:ys=[]:=List.eq_nil_of_length_eq_zero (by simpa using hl)
    subst this
    exact .nilL
  · rw [← hl]
    refine VRD.list_mk' (c:=c) hsp (by rw [hl];exact hcap) hsz ⟨by rw [hcv.1,hc],fun j y u hy hu=>?_⟩ hcS
    have hlt:j<(flat xs).length:=by rw [← hc];exact (List.getElem?_eq_some_iff.1 hy).1
    have hx:(flat xs)[j]?=some (flat xs)[j]:=List.getElem?_eq_getElem hlt
    exact ih j _ y hx hy (hcv.2 j _ u hx hu)
inductive FA (b:Nat) (cs:List D):AV→AV→Prop
 | refl (x:AV):FA b cs x x
 | d (x y:D) (h:FD b cs x y):FA b cs (.d x) (.d y)
 | tup (xs ys:List D) (hl:ys.length=xs.length) (h:∀ (j:Nat) (x y:D),xs[j]?=some x→ys[j]?=some y→FD b cs x y):FA b cs (.tup xs) (.tup ys)
theorem zaq.frz {P:Program} {f:FuncId} {vs:List AV} {σ:List Hp} {G:Gh} {Q Q2:AV→List Hp→Gh→Prop} (h:zaq P f vs σ G Q)
 (hq:∀ r σ' G',Q r σ' G'→Q2 r σ' G'∨∃ b cs r2,G b=none∧G.m b=none∧G' b=some cs∧FA b cs r r2∧Q2 r2 σ' (G'.set b none)):zaq P f vs σ G Q2:=by
 intro S ms w args m0 hsz hrel hargs hown
 refine (h S ms w args m0 hsz hrel hargs hown).mono fun v w' ⟨S',r,σ',G',hQ,hr,he,hsh,hret,hG⟩=>?_
 rcases hq r σ' G' hQ with h2|⟨b,cs,r2,hb0,hbm,hb,hfa,h2⟩
 · exact ⟨S',r,σ',G',h2,hr,he,hsh,hret,hG⟩
 · have hbase:w.heap.size≤b:=by
    rcases Nat.lt_or_ge b w.heap.size with hlt|hge
    · rcases hG.c b cs hb hlt with ⟨cs0,h0⟩|⟨o,h0⟩
      · rw [hb0] at h0;cases h0
      · rw [hbm] at h0;cases h0
    · exact hge
   obtain ⟨c0,e0,hc0,hvc,hone⟩:=hr.gbox hb
   let S2:Stb:=fun ad=>if ad.block=b∧ad.spot=none then w'.cell? ad else S' ad
   have hsub:Sub S' S2:=by
    intro ad u hs
    simp only [S2]
    split
    · exact hr.sub _ _ hs
    · exact hs
   have hS2:∀ ad,ad.block≠b→S2 ad=S' ad:=fun ad hne=>by
    have:¬ (ad.block=b∧ad.spot=none):=fun e=>hne e.1
    simp only [S2,if_neg this]
   have hSb:∀ (j:Nat) (u:Value),c0.toList[j]?=some u→S2 ⟨b,j,none⟩=some u:=by
    intro j u hj
    simp only [S2,and_self,if_true]
    simpa [World.cell?,hc0] using hj
   have hne:∀ {b' cs'},G'.set b none b'=some cs'→b'≠b∧G' b'=some cs':=by
    intro b' cs' hb'
    rw [Gh.set_c] at hb'
    unfold upd at hb'
    split at hb'
    · cases hb'
    · rename_i hne;exact ⟨hne,hb'⟩
   have hvc2:=hvc.mono hsub
   refine ⟨S2,r2,σ',G'.set b none,h2,⟨?_,hr.len,fun hl=>(hr.box hl).mono hsub rfl,fun {k s b' cs'} hl off sp=>?_,hr.inj,fun hb'=>(hr.gbox (hne hb').2).mono hsub rfl,fun {b' cs'} hb' off sp=>?_,fun hb'=>hr.gnl (hne hb').2,hr.x.keep hsub rfl fun _ _ hr _=>hr,hr.tab.mono hsub⟩,
    ⟨he.sz,he.keep,fun ad hlt=>by rw [hS2 ad (by omega)];exact he.st ad hlt,he.sub.trans hsub,he.os,he.tape,he.out⟩,hsh,?_,⟨fun b' cs' hb' hlt=>hG.c b' cs' (hne hb').2 hlt,hG.m⟩⟩
   · intro ad u hs
     simp only [S2] at hs
     split at hs
     · exact hs
     · exact hr.sub _ _ hs
   · have:b'≠b:=fun e=>hr.gnl hb (e▸hl)
     rw [hS2 _ this]
     exact hr.nos hl off sp
   · rw [hS2 _ (hne hb').1]
     exact hr.gnos (hne hb').2 off sp
   · have hret2:Ret S2 w' (G'.set b none) w.heap.size r v:=by
      cases r with
      | own sz es =>
       obtain ⟨R,ho,hR⟩:=hret
       refine ⟨R,ho.mono hsub (fun g _=>rfl) (fun g hg off sp=>?_),fun g hg=>⟨(hR g hg).1,?_⟩⟩
       · have hgb:g≠b:=by rintro rfl;have:=(hR g hg).2;rw [hb] at this;cases this
         exact hS2 _ hgb
       · rw [Gh.set_c];unfold upd;split
         · rfl
         · exact (hR g hg).2
      | d x=>exact VRD.mono hsub hret
      | tup xs=>obtain ⟨vs,e,h3⟩:=hret;exact ⟨vs,e,h3.mono hsub⟩
      | _=>exact hret.elim
     cases hfa with
     | refl=>exact hret2
     | d x y hd=>exact hd.vrd hvc2 hSb hret2
     | tup xs ys hl hd =>
      obtain ⟨us,e,h3⟩:=hret2
      refine ⟨us,e,by rw [hl];exact h3.1,fun j y u hy hu=>?_⟩
      have hlt:j<xs.length:=by rw [← hl];exact (List.getElem?_eq_some_iff.1 hy).1
      have hx:xs[j]?=some xs[j]:=List.getElem?_eq_getElem hlt
      exact (hd j _ y hx hy).vrd hvc2 hSb (h3.2 j _ u hx hu)
theorem zaq.forget {P:Program} {f:FuncId} {vs:List AV} {σ:List Hp} {G:Gh} {Q Q2:AV→List Hp→Gh→Prop} (h:zaq P f vs σ G Q)
 (hq:∀ r σ' G',Q r σ' G'→∃ G2:Gh,(∀ b,G2 b=none∨G2 b=G' b)∧(∀ b,G2.m b=none∨G2.m b=G'.m b)∧Q2 r σ' G2):zaq P f vs σ G Q2:=by
 intro S ms w args m0 hsz hrel hargs hown
 refine (h S ms w args m0 hsz hrel hargs hown).mono fun v w' ⟨S',r,σ',G',hQ,hr,he,hsh,hret,hG⟩=>?_
 obtain ⟨G2,hg,hgm',h2⟩:=hq r σ' G' hQ
 have hgm:∀ b o,G2.m b=some o→G'.m b=some o:=by
  intro b o hb
  rcases hgm' b with h|h
  · rw [h] at hb;cases hb
  · rw [← h];exact hb
 have hs:∀ {b cs},G2 b=some cs→G' b=some cs:=by
  intro b cs hb
  rcases hg b with h|h
  · rw [h] at hb;cases hb
  · rw [← h];exact hb
 refine ⟨S',r,σ',G2,h2,⟨hr.sub,hr.len,hr.box,hr.nos,hr.inj,fun hb=>hr.gbox (hs hb),fun hb=>hr.gnos (hs hb),fun hb=>hr.gnl (hs hb),fun b o hb=>hr.x b o (hgm b o hb),hr.tab⟩,he,hsh,?_,⟨fun b cs hb hlt=>hG.c b cs (hs hb) hlt,fun b o hb hlt=>hG.m b o (hgm b o hb) hlt⟩⟩
 cases r with
 | own sz es =>
  obtain ⟨R,ho,hR⟩:=hret
  refine ⟨R,ho,fun g hg'=>⟨(hR g hg').1,?_⟩⟩
  rcases hg g with h|h
  · exact h
  · rw [h];exact (hR g hg').2
 | _=>exact hret
end Go.E2
