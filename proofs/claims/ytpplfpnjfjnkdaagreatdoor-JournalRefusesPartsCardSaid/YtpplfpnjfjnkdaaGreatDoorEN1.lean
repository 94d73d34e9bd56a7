/-
 A function's contract,from what its body comes to.
 Conditions: none;laws.
-/
import Derived.Test.YtpplfpnjfjnkdaaGreatDoorEM9
namespace Go.E2
inductive RLe:AV→AV→Prop
 | refl (x:AV):RLe x x
 | nilown (sz:Nat):RLe (.d .nilS) (.own sz [])
 | le (x y:D) (h:DLe x y):RLe (.d x) (.d y)
 | own (sz:Nat) (es:List D) (y:D) (h:DLe (.list es) y):RLe (.own sz es) (.d y)
 | tup (xs ys:List D) (h:zm4 xs ys):RLe (.tup xs) (.tup ys)
theorem Ret.le {S:Stb} {w:World} {G:Gh} {base:Nat} {r r':AV} {v:Value} (h:Ret S w G base r v) (hl:RLe r r'):Ret S w G base r' v:=by
 cases hl with
 | refl=>exact h
 | nilown sz =>
  have hv:v=.slice none 0 0:=by cases h;rfl
  exact ⟨none,⟨⟨none,hv⟩,.empty hv,rfl⟩,fun g hg=>by cases hg⟩
 | le x y hd=>exact VRD.le h hd
 | own sz es y hd=>obtain ⟨R,ho,_⟩:=h;exact ho.vrd.le hd
 | tup xs ys hd=>obtain ⟨vs,e,h⟩:=h;exact ⟨vs,e,h.le hd⟩
def z2u (res:List zh4) (Q:AV→List Hp→Gh→Prop) (st:St):Prop:=∃ r r',fin res st.1 (st.2.1::st.2.2.1) st.2.2.2=some r∧RLe r r'∧Q r' st.2.2.1 st.2.2.2
def zyq (res:List zh4) (Q:AV→List Hp→Gh→Prop):zby→St→Prop
 | .normal,st=>z2u res Q st
 | .ret,st=>z2u res Q st
 | .exit _,_=>False
theorem zc7.tail {_P:Program} {S:Stb} {m:List (Nat→Nat)} {L:Hp} {σ:List Hp} {G:Gh} {w:World} (h:zc7 S m (L::σ) G w):zc7 S m.tail σ G w:=by
 have live:∀ {k s b cs},zea σ m.tail k s b cs→zea (L::σ) m (k+1) s b cs:=by
  rintro k s b cs ⟨x,y,h1,h2,h3,h4⟩
  exact ⟨x,y,by simpa using h1,by simpa using h2,h3,h4⟩
 refine ⟨h.sub,by have:=h.len;simp at this ⊢;omega,fun hl=>h.box (live hl),fun hl=>h.nos (live hl),fun h1 h2=>?_,h.gbox,h.gnos,fun hb hl=>h.gnl hb (live hl),h.x,h.tab⟩
 have:=h.inj (live h1) (live h2)
 exact ⟨by omega,this.2⟩
theorem Rel.markM {S:Stb} {ms:List (Nat→Nat)} {ow:Nat→Option Nat} {base:Nat} {O:Nat→Prop} {ρ:Env} {L:Hp} {σ:List Hp} {G:Gh} {a:Act} {w w':World} {ds:List Deferred} (h:Rel S ms ow base O ρ L σ G a w)
 (hw:∀ (b:Nat) (o:Obj),w.heap[b]?=some o→(∀ x,o≠.deferred x)→w'.heap[b]?=some o) (hd:zjg base ds w') (hsz:w'.heap.size=w.heap.size):Rel S ms ow base O ρ L σ G { a with defers:=ds } w':=by
 have keepB:∀ {b cs},ze2 S w b cs→w'.heap[b]?=w.heap[b]?:=fun hb=>by
  obtain ⟨vs,e,h1⟩:=hb.heap
  rw [h1,hw _ _ h1 (fun x e=>by cases e)]
 refine { h:=⟨fun ad v hs=>?_,h.h.len,fun hl=>(h.h.box hl).mono (Sub.refl S) (keepB (h.h.box hl)),h.h.nos,h.h.inj,fun hb=>(h.h.gbox hb).mono (Sub.refl S) (keepB (h.h.gbox hb)),h.h.gnos,h.h.gnl,h.h.x.keep (Sub.refl S) rfl fun r o hr ho=>hw r o hr fun x e=>(by subst e;cases ho),h.h.tab⟩,
          tmp:=h.tmp,own:=fun {i sz es} hi=>?_,ownI:=h.ownI,ownB:=h.ownB,new:=h.new,old:=h.old,gold:=h.gold,mold:=h.mold,dfs:=hd,bas:=by rw [hsz];exact h.bas }
 · have h1:=h.h.sub _ _ hs
   unfold World.cell? at h1 ⊢
   split at h1
   · rename_i c0 e0 f0 e1
     rw [hw _ _ e1 (fun x e=>by cases e)]
     exact h1
   · cases h1
 · have ho:=h.own hi
   refine ho.mono (Sub.refl S) (fun g hg=>?_) (fun _ _ _ _=>rfl)
   rw [hg] at ho
   obtain ⟨cap,cur,e,_,⟨_,h2,_⟩,_⟩:=ho
   rw [h2,hw _ _ h2 (fun x e=>by cases e)]
theorem zp9 {P:Program} (hm:P.follows .mixedOrders=true) {gs:List Nat} {f:FuncId} {af:AFunc} (hf:zb P gs f=some af) {vs:List AV} {σ:List Hp} {G:Gh} {Q:AV→List Hp→Gh→Prop}
 (h:SW P af.body (zyq af.res Q) (ofL vs,zpu,σ,G)):zaz P f vs σ G Q:=by
 intro S ms w args m0 _ hrel hargs hown
 obtain ⟨fn,c,hfn,hb,hng,hres,hbody,hnt⟩:=zj1 hf
 refine .inl ⟨⟨fn,c,hfn,hb,hng⟩,?_⟩
 have hno:∀ s:Nat,(zpu s).c=none:=fun s=>rfl
 have live0:∀ {k s b cs},zea (zpu::σ) (m0::ms) k s b cs→∃ k',k=k'+1∧zea σ ms k' s b cs:=by
  rintro k s b cs ⟨x,y,h1,h2,h3,h4⟩
  cases k with
  | zero=>simp at h1;subst h1;rw [hno] at h3;cases h3
  | succ k=>exact ⟨k,rfl,x,y,by simpa using h1,by simpa using h2,h3,h4⟩
 have hR0:Rel S (m0::ms) (fun _=>none) w.heap.size (zb9 σ ms G) (ofL vs) zpu σ G { tmps:=args++Array.replicate (fn.ntmps - args.size) undef,defers:=[] } w:=by
  refine { h:=⟨hrel.sub,by simp [hrel.len],fun hl=>?_,fun hl=>?_,fun h1 h2=>?_,hrel.gbox,hrel.gnos,fun hb hl=>?_,hrel.x,hrel.tab⟩,tmp:=fun i=>?_,own:=fun {i sz es} hi=>absurd hi (hown i sz es),ownI:=fun {i j sz es sz' es' g} hi=>absurd hi (hown i sz es),ownB:=fun {i sz es g} hi=>absurd hi (hown i sz es),new:=fun {s b cs} hl=>?_,old:=fun {k s b cs} hl=>?_,gold:=fun {b cs} hb _=>.inr (.inl ⟨cs,hb⟩),mold:=fun {b o} hb _=>.inr (.inr ⟨o,hb⟩),dfs:=zjg.nil,bas:=Nat.le_refl _ }
  · obtain ⟨k',rfl,hl'⟩:=live0 hl;exact hrel.box hl'
  · obtain ⟨k',rfl,hl'⟩:=live0 hl;exact hrel.nos hl'
  · obtain ⟨k',rfl,hl'⟩:=live0 h1
    obtain ⟨k'',rfl,hl''⟩:=live0 h2
    have:=hrel.inj hl' hl''
    exact ⟨by omega,this.2⟩
  · obtain ⟨k',rfl,hl'⟩:=live0 hl;exact hrel.gnl hb hl'
  · have hai:=hargs i
    have:(args++Array.replicate (fn.ntmps - args.size) undef).getD i undef=args.getD i undef:=by
     simp only [Array.getD_eq_getD_getElem?]
     rcases Nat.lt_or_ge i args.size with hi|hi
     · rw [Array.getElem?_append_left hi]
     · rw [Array.getElem?_append_right hi,Array.getElem?_eq_none hi]
       simp only [Array.getElem?_replicate]
       split<;>rfl
    rw [this]
    exact hai
  · obtain ⟨k',e,_⟩:=live0 hl;cases e
  · obtain ⟨k',e,hl'⟩:=live0 hl
    cases e
    exact ⟨hrel.block_lt hl',.inl ⟨k,s,cs,hl'⟩⟩
 refine callsIn_wide.1 (callsIn_of_wp_marks (F:=Fence.wide) (n:=0) hfn hb trivial (wpIn_mono (h hm none gs fn.ntmps (zcu c) c hbody _ _ _ _ _ _ _ hR0 zyp.none (by simp;omega)) fun e a' w' hq=>?_))
 have fin':∀ {st:St},z2u af.res Q st→zch S (m0::ms) w.heap.size (zb9 σ ms G) σ { tmps:=args++Array.replicate (fn.ntmps - args.size) undef,defers:=[] } w st a' w' →
  LeavesInM Fence.wide 0 P fn a'.tmps (fun e w'=>∃ v,e=.returned v∧zyo S ms w σ G Q v w') a'.defers .returning w':=by
  rintro st ⟨r,r',hr,hle,hQ⟩ ⟨⟨S',m',ow',hrel',hevo⟩,hsh,_⟩
  have gen:∀ (ds:List Deferred) (b':Act) (w':World),b'.tmps=a'.tmps→b'.defers=ds→Rel S' (m'::(m0::ms).tail) ow' w.heap.size (zb9 σ ms G) st.1 st.2.1 st.2.2.1 st.2.2.2 b' w'→Evo w.heap.size (zb9 σ ms G) S w S' w' →
   LeavesInM Fence.wide 0 P fn a'.tmps (fun e w'=>∃ v,e=.returned v∧zyo S ms w σ G Q v w') ds .returning w':=by
   intro ds
   induction ds with
   | nil =>
    intro b' w' htm _ hrel' hevo
    obtain ⟨v,hv,hret⟩:=z6t hrel' hres hr
    rw [htm] at hv
    refine ⟨v,hv,v,rfl,S',r',st.2.2.1,st.2.2.2,hQ,by have:=zc7.tail (_P:=P) hrel'.h;simpa using this,hevo,hsh,hret.le hle,fun b cs hb hlt=>?_,fun b o hb hlt=>hrel'.mold hb hlt⟩
    rcases hrel'.gold hb hlt with ⟨k,s,cs',hl⟩|h
    · exfalso
      obtain ⟨x,y,h1,h2,h3,h4⟩:=hl
      obtain ⟨x',hx'⟩:=hsh.get h1
      have e:=(hsh.2 k x x' h1 hx' s).2
      cases hc:(x' s).c with
      | none=>rw [e.1 hc] at h3;cases h3
      | some c0=>exact hrel'.h.gnl hb (k:=k+1) (s:=s) (cs':=c0) ⟨x',y,by simpa using hx',by simpa using h2,hc,h4⟩
    · exact h
   | cons d ds ih =>
    intro b' w' htm hds hrel' hevo
    have hmk:=hrel'.dfs
    rw [hds] at hmk
    obtain ⟨rb,ht,hrb,hheap⟩:=hmk.2 d ylpQ
    have hlt:=(Array.getElem?_eq_some_iff.1 hheap).1
    refine ⟨by simp,.inl ⟨rb,w'.putObj rb (.deferred none),ht,?_,ih { b' with defers:=ds } _ htm rfl ?_ (hevo.trans (Evo.put (fun h=>absurd hrb (by omega)) _ hlt))⟩⟩
    · simp [Instr.takeDeferred,getObj,setObj,Sem.run,hheap,Result.andThen,World.putObj]
    · have hw:∀ (b:Nat) (o:Obj),w'.heap[b]?=some o→(∀ x,o≠.deferred x)→(w'.putObj rb (.deferred none)).heap[b]?=some o:=fun b o hb ho=>by
       rw [zb1 hlt,if_neg]
       · exact hb
       · rintro rfl;rw [hheap] at hb;cases hb;exact ho _ rfl
      have hnd:∀ r',(∃ d'∈ds,d'.target=.collected r')→r'≠rb:=by
       rintro r' ⟨d',hd',ht'⟩ rfl
       have:=hmk.1
       simp only [List.map_cons,List.nodup_cons,ht] at this
       exact this.1 (List.mem_map.2 ⟨d',hd',by rw [ht']⟩)
      have hms:zjg w.heap.size ds (w'.putObj rb (.deferred none)):=by
       refine ⟨by have:=hmk.1;simp only [List.map_cons,List.nodup_cons] at this;exact this.2,fun d' hd'=>?_⟩
       obtain ⟨r',h1,h2,h3⟩:=hmk.2 d' (List.mem_cons_of_mem _ hd')
       exact ⟨r',h1,h2,by rw [zb1 hlt,if_neg (hnd r' ⟨d',hd',h1⟩)];exact h3⟩
      exact Rel.markM hrel' hw hms (by simp)
  exact gen a'.defers a' w' rfl rfl hrel' hevo
 cases e with
 | normal=>obtain ⟨st,h1,h2⟩:=hq;exact fin' h1 h2
 | ret=>obtain ⟨st,h1,h2⟩:=hq;exact fin' h1 h2
 | exit id=>obtain ⟨st,h1,_⟩:=hq;exact h1.elim
 | _=>exact hq.elim
end Go.E2
namespace Go.E2
def zw (P:Program) (f:FuncId) (xs:List D) (Q:AV→Prop):Prop :=
 zaz P f (xs.map .d) [] noGh fun r σ' G'=>σ'=[]∧G'=noGh∧Q r
theorem zvf {xs:List D} {i:Nat}:ofL (xs.map .d) i=.undef∨∃ x,xs[i]?=some x∧ofL (xs.map .d) i=.d x:=by
 simp only [ofL,List.getD_eq_getElem?_getD,ylhQ]
 cases h:xs[i]? with
 | none=>exact .inl rfl
 | some x=>exact .inr ⟨x,rfl,rfl⟩
theorem zgt {xs:List D}:∀ i sz es,ofL (xs.map .d) i≠.own sz es:=by
 intro i sz es
 rcases zvf (xs:=xs) (i:=i) with h|⟨x,_,h⟩<;>rw [h]<;>intro e<;>cases e
theorem zaz.args {P:Program} {f:FuncId} {xs ys:List D} {σ:List Hp} {G:Gh} {Q:AV→List Hp→Gh→Prop} (h:zaz P f (ys.map .d) σ G Q) (hl:zm4 xs ys):zaz P f (xs.map .d) σ G Q:=by
 intro S ms w args m0 hsz hrel hargs _
 refine h S ms w args m0 (by simp only [yk3Q] at hsz ⊢;rw [hsz,hl.1]) hrel (fun i=>?_) zgt
 have ha:=hargs i
 rcases zvf (xs:=ys) (i:=i) with e|⟨y,hy,e⟩
 · rw [e];trivial
 · rw [e]
   have hi:i<xs.length:=by rw [← hl.1];exact (List.getElem?_eq_some_iff.1 hy).1
   have hx:xs[i]?=some xs[i]:=yliQ hi
   have e':ofL (xs.map .d) i=.d xs[i]:=by simp [ofL,List.getD_eq_getElem?_getD,hx]
   rw [e'] at ha
   exact VRD.le ha (hl.2 i _ y hx hy)
theorem Evo.all {S S':Stb} {w w':World} {O:Nat→Prop} (h:Evo w.heap.size (zb9 [] [] noGh) S w S' w'):Evo w.heap.size O S w S' w'∧∀ b,b<w.heap.size→w'.heap[b]?=w.heap[b]?:=by
 have hO:∀ b,¬ zb9 [] [] noGh b:=by
  rintro b (⟨k,s,cs,x,m,h1,_⟩|⟨cs,hg⟩|⟨o,hg⟩)
  · simp at h1
  · cases hg
  · cases hg
 have hk:∀ b,b<w.heap.size→w'.heap[b]?=w.heap[b]?:=fun b hb=>h.keep b hb (hO b)
 exact ⟨⟨h.sz,fun b hb _=>hk b hb,h.st,h.sub,h.os,h.tape,h.out⟩,hk⟩
theorem zc7.kept {S S':Stb} {ms:List (Nat→Nat)} {σ:List Hp} {G:Gh} {w w':World} (h:zc7 S ms σ G w) (hk:∀ b,b<w.heap.size→w'.heap[b]?=w.heap[b]?) (hsub:∀ ad v,S' ad=some v→w'.cell? ad=some v) (hs:Sub S S') (hst:∀ ad,ad.block<w.heap.size→S' ad=S ad):zc7 S' ms σ G w' :=
 ⟨hsub,h.len,fun hl=>(h.box hl).mono hs (hk _ (h.block_lt hl)),fun {k s b cs} hl off sp=>by rw [hst ⟨b,off,sp⟩ (h.block_lt hl)];exact h.nos hl off sp,h.inj,
   fun hb=>(h.gbox hb).mono hs (hk _ (h.g_lt hb)),fun {b cs} hb off sp=>by rw [hst ⟨b,off,sp⟩ (h.g_lt hb)];exact h.gnos hb off sp,h.gnl,h.x.keep hs rfl fun r o hr _=>(hk r (Array.getElem?_eq_some_iff.1 hr).1).trans hr,h.tab.mono hs⟩
theorem zc7.bare {S:Stb} {ms:List (Nat→Nat)} {σ:List Hp} {G:Gh} {w:World} (h:zc7 S ms σ G w):zc7 S [] [] noGh w :=
 ⟨h.sub,rfl,fun ⟨x,m,h1,_⟩=>by simp at h1,fun ⟨x,m,h1,_⟩=>by simp at h1,fun ⟨x,m,h1,_⟩=>by simp at h1,fun h=>(by cases h),fun h=>(by cases h),fun h=>(by cases h),zl7.none,h.tab⟩
theorem zw.quiet {P:Program} {f:FuncId} {xs:List D} {Q:AV→Prop} (h:zw P f xs Q) (σ:List Hp) (G:Gh):zaz P f (xs.map .d) σ G fun r σ' G'=>σ'=σ∧G'=G∧Q r:=by
 intro S ms w args m0 hsz hrel hargs hown
 refine (h S [] w args m0 hsz hrel.bare (fun i=>?_) hown).mono fun v w' ⟨S',r,σ',G',⟨h1,h2,hQ⟩,hr,he,_,hret,_⟩=>?_
 · have:=hargs i
   rcases zvf (xs:=xs) (i:=i) with e|⟨x,_,e⟩
   · rw [e];trivial
   · rw [e] at this ⊢;exact this
 · subst h1;subst h2
   obtain ⟨he',hk⟩:=he.all (O:=zb9 σ ms G)
   refine ⟨S',r,σ,G,⟨rfl,rfl,hQ⟩,hrel.kept hk hr.sub he.sub he.st,he',zam.refl _,?_,z00.refl _ _ _ _⟩
   cases r with
   | own sz es =>
    obtain ⟨R,ho,hR⟩:=hret
    refine ⟨R,ho,fun g hg=>⟨(hR g hg).1,?_⟩⟩
    cases hG:G g with
    | none=>rfl
    | some cs=>have:=hrel.g_lt hG;have:=(hR g hg).1;omega
   | _=>exact hret
mutual
def zmu:D→Bool
 | .agg cs=>zlz cs
 | .bool _=>true
 | .int _ _=>true
 | .str _=>true
 | _=>false
def zlz:List D→Bool
 | []=>true
 | x::xs=>zmu x && zlz xs
end
theorem zf4:∀ l,zlz l=l.all zmu
 | []=>rfl
 | x::xs=>by simp [zlz,zf4 xs]
theorem VRD.flat {S S':Stb} {x:D} {v:Value} (h:VRD S x v):zmu x=true→VRD S' x v:=by
 induction h with
 | bool b=>exact fun _=>.bool b
 | int k n=>exact fun _=>.int k n
 | str s l h=>exact fun _=>.str s l h
 | agg cs vs hl ho _ ih =>
  intro hf
  simp only [zmu,zf4,ylbQ] at hf
  exact .agg cs vs hl ho fun j x v a b=>ih j x v a b (hf x (List.mem_of_getElem? a))
 | _=>intro hf;simp [zmu] at hf
def zoc:AV→Bool
 | .d x=>zmu x
 | .own _ es=>es.isEmpty
 | .tup xs=>xs.all zmu
 | _=>false
inductive zvg (G:Gh):D→D→Prop
 | refl (x:D):zvg G x x
 | nil:zvg G .nilS (.list [])
 | gs (b off n cap sz:Nat) (cs es:List D) (hb:G b=some cs) (hfit:off+n * sz≤cs.length) (hn:es.length=n) (hsz:es.all (ze sz)=true) (he:flat es=(cs.drop off).take (n * sz)):zvg G (.gs b off n cap) (.list es)
def zj9 (G:Gh) (xs ys:List D):Prop:=ys.length=xs.length∧∀ (j:Nat) (x y:D),xs[j]?=some x→ys[j]?=some y→zvg G x y
theorem zj9.nil {G:Gh}:zj9 G [] []:=⟨rfl,fun j x y h=>by simp at h⟩
theorem zj9.cons {G:Gh} {x y:D} {xs ys:List D} (h:zvg G x y) (hs:zj9 G xs ys):zj9 G (x::xs) (y::ys):=by
 refine ⟨by simp [hs.1],fun j u v a b=>?_⟩
 cases j with
 | zero=>simp at a b;subst a;subst b;exact h
 | succ j=>exact hs.2 j u v (by simpa using a) (by simpa using b)
open Classical in
theorem zw.lend {P:Program} {f:FuncId} {xs ys:List D} {Q:AV→Prop} (h:zw P f ys Q) {G:Gh} (hl:zj9 G xs ys) (hf:∀ r,Q r→zoc r=true) (σ:List Hp):zaz P f (xs.map .d) σ G fun r σ' G'=>σ'=σ∧G'=G∧Q r:=by
 intro S ms w args m0 hsz hrel hargs hown
 let S1:Stb:=fun ad=>if (G ad.block).isSome∧ad.spot=none then w.cell? ad else S ad
 have hsub1:Sub S S1:=by
  intro ad v hs
  simp only [S1]
  split
  · exact hrel.sub _ _ hs
  · exact hs
 have hrel1:zc7 S1 [] [] noGh w:=by
  refine ⟨fun ad v hs=>?_,rfl,fun ⟨x,m,h1,_⟩=>by simp at h1,fun ⟨x,m,h1,_⟩=>by simp at h1,fun ⟨x,m,h1,_⟩=>by simp at h1,fun h=>(by cases h),fun h=>(by cases h),fun h=>(by cases h),zl7.none,hrel.tab.mono fun ad v hs=>by
   simp only [S1]
   split
   · exact hrel.sub _ _ hs
   · exact hs⟩
  simp only [S1] at hs
  split at hs
  · exact hs
  · exact hrel.sub _ _ hs
 refine (h S1 [] w args m0 (by simp only [yk3Q] at hsz ⊢;rw [hsz,hl.1]) hrel1 (fun i=>?_) zgt).mono fun v w' ⟨S',r,σ',G',⟨h1,h2,hQ⟩,hr,he,_,hret,_⟩=>?_
 · have ha:=hargs i
   rcases zvf (xs:=ys) (i:=i) with e|⟨y,hy,e⟩
   · rw [e];trivial
   · rw [e]
     have hi:i<xs.length:=by rw [← hl.1];exact (List.getElem?_eq_some_iff.1 hy).1
     have hx:xs[i]?=some xs[i]:=yliQ hi
     have e':ofL (xs.map .d) i=.d xs[i]:=by simp [ofL,List.getD_eq_getElem?_getD,hx]
     rw [e'] at ha
     have hle:=hl.2 i _ y hx hy
     generalize xs[i]=x at ha hle
     cases hle with
     | refl=>exact VRD.mono hsub1 ha
     | nil=>exact (VRD.mono hsub1 ha).le (.inr rfl)
     | gs b off n cap sz cs es hb hfit hn hsz hes =>
      obtain ⟨hav,hnc⟩:args.getD i undef=.slice (some ⟨b,off,none⟩) n cap∧n≤cap:=by
       generalize args.getD i undef=u at ha
       cases ha;rename_i hh;exact ⟨rfl,hh⟩
      rw [hav]
      obtain ⟨c0,e0,hc0,hvc,hone⟩:=hrel.gbox hb
      have hcl:c0.toList.length=cs.length:=hvc.1
      show VRD S1 (.list es) _
      rw [← hn]
      refine VRD.list_mk (c:=(c0.toList.drop off).take (n * sz)) rfl (by rw [hn];exact hnc) hsz (by rw [hes];exact ((hvc.drop _).take _).mono hsub1) fun j u hj=>?_
      have hG:(G b).isSome=true:=by rw [hb];rfl
      simp only [S1,hG,and_self,if_true]
      rw [List.getElem?_take] at hj
      split at hj
      · rw [List.getElem?_drop] at hj
        simpa [World.cell?,hc0] using hj
      · cases hj
 · subst h1;subst h2
   obtain ⟨he',hk⟩:=he.all (O:=zb9 σ ms G)
   let S2:Stb:=fun ad=>if ad.block<w.heap.size then S ad else S' ad
   have hS2:∀ ad,ad.block<w.heap.size→S2 ad=S ad:=fun ad hb=>by simp only [S2,if_pos hb]
   have hsub2:Sub S S2:=fun ad v hs=>by rw [hS2 ad (hrel.S_lt hs)];exact hs
   have hcell:∀ ad v,S2 ad=some v→w'.cell? ad=some v:=by
    intro ad v hs
    simp only [S2] at hs
    split at hs
    · rename_i hb
      have:=hrel.sub _ _ hs
      simpa [World.cell?,hk _ hb] using this
    · exact hr.sub _ _ hs
   refine ⟨S2,r,σ,G,⟨rfl,rfl,hQ⟩,hrel.kept hk hcell hsub2 hS2,⟨he.sz,fun b hb _=>hk b hb,hS2,hsub2,he.os,he.tape,he.out⟩,zam.refl _,?_,z00.refl _ _ _ _⟩
   have hfr:=hf r hQ
   cases r with
   | d x=>exact VRD.flat hret hfr
   | own sz es =>
    obtain ⟨R,ho,hR⟩:=hret
    refine ⟨R,?_,fun g hg=>⟨(hR g hg).1,?_⟩⟩
    · cases R with
      | none =>
       obtain rfl:es=[]:=by simpa [zoc] using hfr
       exact ⟨ho.1,by obtain ⟨a,rfl⟩:=ho.1;exact .empty rfl,rfl⟩
      | some g =>
       have hgb:=(hR g rfl).1
       obtain ⟨cap,cur,e,q1,q2,q3,q4,q5,q6,q7,q8,q9⟩:=ho
       have hS':∀ off sp,S2 ⟨g,off,sp⟩=S' ⟨g,off,sp⟩:=fun off sp=>by
        have hn:¬ (g<w.heap.size):=by omega
        simp only [S2,if_neg hn]
       refine ⟨cap,cur,e,q1,q2,q3,q4,q5,q6,⟨q7.1,fun j x v a b=>(q7.2 j x v a b).flat ?_⟩,fun j u hj=>by rw [hS'];exact q8 j u hj,fun off sp ho=>by rw [hS'];exact q9 off sp ho⟩
       obtain rfl:es=[]:=by simpa [zoc] using hfr
       simp [flat] at a
    · cases hG:G g with
      | none=>rfl
      | some cs=>have:=hrel.g_lt hG;have:=(hR g hg).1;omega
   | tup zs =>
    obtain ⟨vs,e,h3⟩:=hret
    refine ⟨vs,e,h3.1,fun j x v a b=>(h3.2 j x v a b).flat ?_⟩
    simp only [zoc,ylbQ] at hfr
    exact hfr x (List.mem_of_getElem? a)
   | _=>exact hret
end Go.E2
namespace Go.E2
inductive FD (b:Nat) (cs:List D):D→D→Prop
 | refl (x:D):FD b cs x x
 | gs (off n cap sz:Nat) (es:List D) (hfit:off+n * sz≤cs.length) (hn:es.length=n) (hsz:es.all (ze sz)=true) (he:flat es=(cs.drop off).take (n * sz)):FD b cs (.gs b off n cap) (.list es)
 | agg (xs ys:List D) (hl:ys.length=xs.length) (h:∀ (j:Nat) (x y:D),xs[j]?=some x→ys[j]?=some y→FD b cs x y):FD b cs (.agg xs) (.agg ys)
 | list (xs ys:List D) (hl:ys.length=xs.length) (hc:(flat ys).length=(flat xs).length) (sz:Nat) (hsz:ys.all (ze sz)=true) (h:∀ (j:Nat) (x y:D),(flat xs)[j]?=some x→(flat ys)[j]?=some y→FD b cs x y):FD b cs (.list xs) (.list ys)
inductive FA (b:Nat) (cs:List D):AV→AV→Prop
 | refl (x:AV):FA b cs x x
 | d (x y:D) (h:FD b cs x y):FA b cs (.d x) (.d y)
 | tup (xs ys:List D) (hl:ys.length=xs.length) (h:∀ (j:Nat) (x y:D),xs[j]?=some x→ys[j]?=some y→FD b cs x y):FA b cs (.tup xs) (.tup ys)
theorem zaz.forget {P:Program} {f:FuncId} {vs:List AV} {σ:List Hp} {G:Gh} {Q Q2:AV→List Hp→Gh→Prop} (h:zaz P f vs σ G Q)
 (hq:∀ r σ' G',Q r σ' G'→∃ G2:Gh,(∀ b,G2 b=none∨G2 b=G' b)∧(∀ b,G2.m b=none∨G2.m b=G'.m b)∧Q2 r σ' G2):zaz P f vs σ G Q2:=by
 intro S ms w args m0 hsz hrel hargs hown
 refine (h S ms w args m0 hsz hrel hargs hown).mono fun v w' ⟨S',r,σ',G',hQ,hr,he,hsh,hret,hG⟩=>?_
 obtain ⟨G2,hg,hgm',h2⟩:=hq r σ' G' hQ
 have hgm:∀ b o,G2.m b=some o→G'.m b=some o:=by
  intro b o hb
  rcases hgm' b with h|h
  · rw [h] at hb;cases hb
  · rw [← h];exact hb
 have hs:∀ {b cs},G2 b=some cs→G' b=some cs:=by
  intro b cs hb
  rcases hg b with h|h
  · rw [h] at hb;cases hb
  · rw [← h];exact hb
 refine ⟨S',r,σ',G2,h2,⟨hr.sub,hr.len,hr.box,hr.nos,hr.inj,fun hb=>hr.gbox (hs hb),fun hb=>hr.gnos (hs hb),fun hb=>hr.gnl (hs hb),fun b o hb=>hr.x b o (hgm b o hb),hr.tab⟩,he,hsh,?_,⟨fun b cs hb hlt=>hG.c b cs (hs hb) hlt,fun b o hb hlt=>hG.m b o (hgm b o hb) hlt⟩⟩
 cases r with
 | own sz es =>
  obtain ⟨R,ho,hR⟩:=hret
  refine ⟨R,ho,fun g hg'=>⟨(hR g hg').1,?_⟩⟩
  rcases hg g with h|h
  · exact h
  · rw [h];exact (hR g hg').2
 | _=>exact hret
