/-
 The relation between the evaluator's state and the machine's,and how it is kept.
 Conditions: none;definitions and laws.
-/
import Derived.Test.YtlejjdbmmdghmaaEC
namespace Go.E2
structure DDT where
 d0:List Deferred
abbrev DD:=Inhabited DDT
abbrev DD.d0 [dd:DD]:List Deferred:=dd.default.d0
instance ddNil:DD:=⟨⟨[]⟩⟩
def zds (lv:List Hp) (ms:List (Nat→Nat)) (k s b:Nat) (cs:List D):Prop :=
 ∃ h m,lv[k]?=some h∧ms[k]?=some m∧(h s).c=some cs∧m s=b
def zeo (S:Stb) (w:World) (b:Nat) (cs:List D):Prop :=
 ∃ (vs:Array Value) (e:TypeId),w.heap[b]?=some (.cells vs e (0,0))∧zz S cs vs.toList∧cs.all D.one=true
def z71 (w:World) (g:Nat) (cur:Array Value) (e:TypeId):Prop:=∃ fr:Nat×Nat,w.heap[g]?=some (.cells cur e fr)∧(fr=(0,0)∨cur.size≤fr.1)
def zgj (S:Stb) (w:World) (sz:Nat) (es:List D) (v:Value):Option Nat→Prop
 | none=>(∃ a:Option Addr,v=.slice a es.length es.length)∧VRD S (.list es) v∧es.all (zb sz)=true
 | some g=>∃ (cap:Nat) (cur:Array Value) (e:TypeId),v=.slice (some ⟨g,0,none⟩) es.length cap∧z71 w g cur e∧es.length≤cap∧cap≤maxLen ∧
    cur.size=cap * sz∧es.all (zb sz)=true∧zz S (zag es) (cur.toList.take (es.length * sz)) ∧
    (∀ (j:Nat) (u:Value),(cur.toList.take (es.length * sz))[j]?=some u→S ⟨g,j,none⟩=some u)∧(∀ off sp,es.length * sz≤off→S ⟨g,off,sp⟩=none)
def zep (lv:List Hp) (ms:List (Nat→Nat)) (k s g off:Nat) (v:Value):Prop :=
 ∃ h m b,lv[k]?=some h∧ms[k]?=some m∧v=.pointer (some ⟨b,off,none⟩)∧g≤(h s).g∧((h s).c≠none→g=(h s).g→b=m s)
def VR (S:Stb) (lv:List Hp) (ms:List (Nat→Nat)):AV→Value→Prop
 | .d x,v=>VRD S x v
 | .ptr k s g off,v=>zep lv ms k s g off v
 | .cptr cs,v=>∃ (a:Addr) (c:List Value),v=.pointer (some a)∧a.spot=none∧zz S cs c∧cs.all D.one=true∧∀ (j:Nat) (u:Value),c[j]?=some u→S ⟨a.block,a.off+j,none⟩=some u
 | .func f caps,v=>∃ cv:Array Value,v=.func (.func f) #[] cv∧cv.size=caps.length∧∀ (j:Nat) (p:Nat×Nat×Nat) (u:Value),caps[j]?=some p→cv[j]?=some u→zep lv ms p.1 p.2.1 p.2.2 0 u
 | .own _ es,v=>VRD S (.list es) v
 | .tup xs,v=>∃ vs:Array Value,v=.tuple vs∧zz S xs vs.toList
 | .skp,v=>v=Go.undef
 | .undef,_=>True
def isM:Obj→Bool
 | .map _ _=>true
 | .mapIter _ _ _ _=>true
 | .loop _=>true
 | _=>false
def zaz.code:zaz→Code
 | .normal=>.skip
 | .exit id=>.exit id
 | .ret=>.ret
def zdm (S:Stb) (e:ME) (v:MapEntry):Prop:=VRD S e.k v.key∧VRD S e.v v.val∧v.born=e.b
def MOk (S:Stb) (x:Option Obj):MO→Prop
 | .map es clock=>∃ vs:Array MapEntry,x=some (.map vs clock)∧vs.size=es.length∧∀ (j:Nat) (e:ME) (v:MapEntry),es[j]?=some e→vs[j]?=some v→zdm S e v
 | .iter m since seen last=>x=some (.mapIter m since seen.toArray last)
 | .loop P ρ ps c1 c2=>∃ r:Loop,x=some (.loop r)∧r.state=.ready∧r.pending=none∧r.params.toList=ps ∧
   (∃ gs nt defs,zai P gs nt defs r.assign=some c1∧zai P gs nt defs r.body=some c2∧nt≤r.tmps.size∧∀ t∈ps,t<nt)∧∀ i x,(ρ i).data=some x→VRD S x (r.tmps.getD i undef)
 | .done e=>∃ r:Loop,x=some (.loop r)∧r.state=.done∧r.pending=some e.code
def zmh (S:Stb) (G:Gh) (w:World):Prop:=∀ b o,G.m b=some o→MOk S w.heap[b]? o
theorem MOk.mono {S S':Stb} {x:Option Obj} {o:MO} (h:MOk S x o) (hS:Sub S S'):MOk S' x o:=by
 cases o with
 | map es clock =>
  obtain ⟨vs,h1,h2,h3⟩:=h
  exact ⟨vs,h1,h2,fun j e v a b=>⟨(h3 j e v a b).1.mono hS,(h3 j e v a b).2.1.mono hS,(h3 j e v a b).2.2⟩⟩
 | iter m since seen last=>exact h
 | loop P ρ ps c1 c2 =>
  obtain ⟨r,h1,h2,h3,h4,h5,h6⟩:=h
  exact ⟨r,h1,h2,h3,h4,h5,fun i x hx=>(h6 i x hx).mono hS⟩
 | done e=>exact h
theorem MOk.isM {S:Stb} {x:Option Obj} {o:MO} (h:MOk S x o):∃ y,x=some y∧E2.isM y=true:=by
 cases o with
 | map es clock=>obtain ⟨vs,h1,_⟩:=h;exact ⟨_,h1,rfl⟩
 | iter m since seen last=>exact ⟨_,h,rfl⟩
 | loop P ρ ps c1 c2=>obtain ⟨r,h1,_⟩:=h;exact ⟨_,h1,rfl⟩
 | done e=>obtain ⟨r,h1,_⟩:=h;exact ⟨_,h1,rfl⟩
theorem zmh.get {S:Stb} {G:Gh} {w:World} (h:zmh S G w) {b:Nat} {o:MO} (hb:G.m b=some o):∃ x,w.heap[b]?=some x∧isM x=true:=(h b o hb).isM
theorem zmh.lt {S:Stb} {G:Gh} {w:World} (h:zmh S G w) {b:Nat} {o:MO} (hb:G.m b=some o):b<w.heap.size:=by
 obtain ⟨x,hx,_⟩:=h.get hb
 exact (Array.getElem?_eq_some_iff.1 hx).1
theorem zmh.keep {S S':Stb} {G G':Gh} {w w':World} (h:zmh S G w) (hS:Sub S S') (hm:G'.m=G.m) (hw:∀ (r:Nat) (o:Obj),w.heap[r]?=some o→isM o=true→w'.heap[r]?=some o):zmh S' G' w':=by
 intro b o hb
 rw [hm] at hb
 obtain ⟨x,hx,hi⟩:=h.get hb
 have:=h b o hb
 rw [hx] at this
 rw [hw b x hx hi]
 exact this.mono hS
theorem zmh.none {S:Stb} {w:World}:zmh S zdi w:=fun _ _ e=>(by cases e)
def zdn (d:Deferred):Option Nat:=match d.target with|.collected r=>some r|_=>none
def zgk [DD] (base:Nat) (ds:List Deferred) (w:World):Prop :=
 ds.filter (fun d=>(zdn d).isNone)=DD.d0∧(ds.filterMap zdn).Nodup∧∀ r∈ds.filterMap zdn,base≤r∧w.heap[r]?=some (.deferred (some []))
theorem zgk.nil {base:Nat} {w:World}:@zgk ddNil base [] w:=⟨rfl,List.nodup_nil,fun d h=>(by cases h)⟩
theorem zgk.keep [DD] {base:Nat} {ds:List Deferred} {w w':World} (h:zgk base ds w) (hw:∀ r,base≤r→w.heap[r]?=some (.deferred (some []))→w'.heap[r]?=some (.deferred (some []))):zgk base ds w' :=
 ⟨h.1,h.2.1,fun r hr=>by obtain ⟨h2,h3⟩:=h.2.2 r hr;exact ⟨h2,hw r h2 h3⟩⟩
theorem zgk.mark [DD] {base:Nat} {ds:List Deferred} {w:World} (h:zgk base ds w) {r:Nat} (hb:base≤r) (hr:w.heap[r]?=some (.deferred (some []))) (hn:∀ r'∈ds.filterMap zdn,r'≠r):zgk base ({ target:=.collected r,args:=#[] }::ds) w:=by
 refine ⟨by simp only [List.filter_cons,zdn,Option.isNone_some,Bool.false_eq_true,if_false];exact h.1,?_,?_⟩
 · simp only [List.filterMap_cons,zdn,List.nodup_cons]
   exact ⟨fun hm=>hn r hm rfl,h.2.1⟩
 · intro r' hr'
   simp only [List.filterMap_cons,zdn,List.mem_cons] at hr'
   rcases hr' with rfl|hr'
   · exact ⟨hb,hr⟩
   · exact h.2.2 r' hr'
def zpu (S:Stb):Prop:=∀ g cs,z72 g=some cs→∃ c:List Value,zz S cs c∧cs.all D.one=true∧∀ (j:Nat) (u:Value),c[j]?=some u→S ⟨g,j,none⟩=some u
theorem zpu.mono {S S':Stb} (hs:Sub S S') (h:zpu S):zpu S':=fun g cs e=>by
 obtain ⟨c,h1,h2,h3⟩:=h g cs e
 exact ⟨c,h1.mono hs,h2,fun j u hj=>hs _ _ (h3 j u hj)⟩
structure zcw (S:Stb) (ms:List (Nat→Nat)) (lv:List Hp) (G:Gh) (w:World):Prop where
 sub:∀ ad v,S ad=some v→w.cell? ad=some v
 len:ms.length=lv.length
 box:∀ {k s b cs},zds lv ms k s b cs→zeo S w b cs
 nos:∀ {k s b cs},zds lv ms k s b cs→∀ off sp,S ⟨b,off,sp⟩=none
 inj:∀ {k s b cs k' s' cs'},zds lv ms k s b cs→zds lv ms k' s' b cs'→k=k'∧s=s'
 gbox:∀ {b cs},G b=some cs→zeo S w b cs
 gnos:∀ {b cs},G b=some cs→∀ off sp,S ⟨b,off,sp⟩=none
 gnl:∀ {b cs k s cs'},G b=some cs→¬ zds lv ms k s b cs'
 x:zmh S G w
 tab:zpu S
structure Rel [DD] (S:Stb) (ms:List (Nat→Nat)) (ow:Nat→Option Nat) (base:Nat) (O:Nat→Prop) (ρ:Env) (L:Hp) (σ:List Hp) (G:Gh) (a:Act) (w:World):Prop where
 h:zcw S ms (L::σ) G w
 tmp:∀ i,VR S (L::σ) ms (ρ i) (a.tmps.getD i undef)
 own:∀ {i sz es},ρ i=.own sz es→zgj S w sz es (a.tmps.getD i undef) (ow i)
 ownI:∀ {i j sz es sz' es' g},ρ i=.own sz es→ρ j=.own sz' es'→ow i=some g→ow j=some g→i=j
 ownB:∀ {i sz es g},ρ i=.own sz es→ow i=some g→base≤g∧G g=none∧∀ k s cs,¬ zds (L::σ) ms k s g cs
 new:∀ {s b cs},zds (L::σ) ms 0 s b cs→base≤b
 old:∀ {k s b cs},zds (L::σ) ms (k+1) s b cs→b<base∧O b
 gold:∀ {b cs},G b=some cs→b<base→O b
 mold:∀ {b o},G.m b=some o→b<base→O b
 dfs:zgk base a.defers w
 bas:base≤w.heap.size
def zfc (S:Stb) (lv:List Hp) (ms:List (Nat→Nat)) (ρ:Env) (a:Act):Prop:=zpu S∧∀ i,VR S lv ms (ρ i) (a.tmps.getD i undef)
theorem Rel.tmpT [DD] {S:Stb} {ms:List (Nat→Nat)} {ow:Nat→Option Nat} {base:Nat} {O:Nat→Prop} {ρ:Env} {L:Hp} {σ:List Hp} {G:Gh} {a:Act} {w:World} (h:Rel S ms ow base O ρ L σ G a w):zfc S (L::σ) ms ρ a:=⟨h.h.tab,h.tmp⟩
structure Evo (base:Nat) (O:Nat→Prop) (S:Stb) (w:World) (S':Stb) (w':World):Prop where
 sz:w.heap.size≤w'.heap.size
 keep:∀ b,b<base→¬ O b→w'.heap[b]?=w.heap[b]?
 st:∀ ad,ad.block<base→S' ad=S ad
 sub:Sub S S'
 os:w'.os=w.os
 tape:w'.tape=w.tape
 out:w'.output=w.output
theorem Evo.refl (base:Nat) (O:Nat→Prop) (S:Stb) (w:World):Evo base O S w S w :=
 ⟨Nat.le_refl _,fun _ _ _=>rfl,fun _ _=>rfl,Sub.refl S,rfl,rfl,rfl⟩
theorem Evo.trans {base:Nat} {O:Nat→Prop} {S S' S'':Stb} {w w' w'':World} (h:Evo base O S w S' w') (h':Evo base O S' w' S'' w''):Evo base O S w S'' w'' :=
 ⟨Nat.le_trans h.sz h'.sz,fun b x y=>(h'.keep b x y).trans (h.keep b x y),fun ad x=>(h'.st ad x).trans (h.st ad x),h.sub.trans h'.sub,h'.os.trans h.os,h'.tape.trans h.tape,h'.out.trans h.out⟩
theorem zd9 {w:World} {ad:Addr} (h:w.heap.size≤ad.block):w.cell? ad=none:=by
 simp [World.cell?,Array.getElem?_eq_none h]
theorem zcw.block_lt {S:Stb} {ms:List (Nat→Nat)} {lv:List Hp} {G:Gh} {w:World} (h:zcw S ms lv G w) {k s b:Nat} {cs:List D} (hl:zds lv ms k s b cs):b<w.heap.size:=by
 obtain ⟨vs,e,hb,_⟩:=h.box hl
 exact (Array.getElem?_eq_some_iff.1 hb).1
theorem zcw.g_lt {S:Stb} {ms:List (Nat→Nat)} {lv:List Hp} {G:Gh} {w:World} (h:zcw S ms lv G w) {b:Nat} {cs:List D} (hb:G b=some cs):b<w.heap.size:=by
 obtain ⟨vs,e,hb,_⟩:=h.gbox hb
 exact (Array.getElem?_eq_some_iff.1 hb).1
theorem zcw.S_lt {S:Stb} {ms:List (Nat→Nat)} {lv:List Hp} {G:Gh} {w:World} (h:zcw S ms lv G w) {ad:Addr} {v:Value} (hs:S ad=some v):ad.block<w.heap.size:=by
 rcases Nat.lt_or_ge ad.block w.heap.size with hlt|hge
 · exact hlt
 · have:=h.sub _ _ hs;rw [zd9 hge] at this;cases this
theorem zcw.S_spot {S:Stb} {ms:List (Nat→Nat)} {lv:List Hp} {G:Gh} {w:World} (h:zcw S ms lv G w) {ad:Addr} {v:Value} (hs:S ad=some v):ad.spot=none:=by
 have:=h.sub _ _ hs
 unfold World.cell? at this
 split at this
 · split at this
   · cases this
   · rename_i hn;simpa using hn
 · cases this
theorem VR.mono {S S':Stb} {lv:List Hp} {ms:List (Nat→Nat)} (hs:Sub S S') {x:AV} {v:Value} (h:VR S lv ms x v):VR S' lv ms x v:=by
 cases x with
 | d x=>exact VRD.mono hs h
 | ptr k s g off=>exact h
 | cptr cs=>obtain ⟨a,c,h1,h2,h3,h4,h5⟩:=h;exact ⟨a,c,h1,h2,h3.mono hs,h4,fun j u hj=>hs _ _ (h5 j u hj)⟩
 | func f caps=>exact h
 | own sz es=>exact VRD.mono hs h
 | tup xs=>obtain ⟨vs,h1,h2⟩:=h;exact ⟨vs,h1,h2.mono hs⟩
 | skp=>exact h
 | undef=>trivial
theorem zeo.mono {S S':Stb} {w w':World} (hs:Sub S S') {b:Nat} {cs:List D} (hb:w'.heap[b]?=w.heap[b]?) (h:zeo S w b cs):zeo S' w' b cs:=by
 obtain ⟨vs,e,h1,h2,h3⟩:=h
 exact ⟨vs,e,hb.trans h1,h2.mono hs,h3⟩
theorem zgj.mono {S S':Stb} {w w':World} (hs:Sub S S') {sz:Nat} {es:List D} {v:Value} {R:Option Nat} (hb:∀ g,R=some g→w'.heap[g]?=w.heap[g]?)
 (hS:∀ g,R=some g→∀ off sp,S' ⟨g,off,sp⟩=S ⟨g,off,sp⟩) (h:zgj S w sz es v R):zgj S' w' sz es v R:=by
 cases R with
 | none=>exact ⟨h.1,h.2.1.mono hs,h.2.2⟩
 | some g =>
  obtain ⟨cap,cur,e,h1,h2,h3,h4,h5,h6,h7,h8,h9⟩:=h
  exact ⟨cap,cur,e,h1,h2.imp fun _ h=>⟨(hb g rfl).trans h.1,h.2⟩,h3,h4,h5,h6,h7.mono hs,fun j u hj=>hs _ _ (h8 j u hj),fun off sp ho=>(hS g rfl off sp).trans (h9 off sp ho)⟩
theorem zgj.lt {S:Stb} {w:World} {sz:Nat} {es:List D} {v:Value} {g:Nat} (h:zgj S w sz es v (some g)):g<w.heap.size:=by
 obtain ⟨cap,cur,e,_,⟨_,h2,_⟩,_⟩:=h
 exact (Array.getElem?_eq_some_iff.1 h2).1
theorem zu8 {S:Stb} (a:Option Addr):VRD S (.list []) (.slice a 0 0):=by
 cases a with
 | none=>exact .nilL
 | some a=>exact .list 0 [] a 0 [] (fun h=>absurd h (Nat.lt_irrefl _)) (Nat.le_refl _) rfl rfl (fun j v h=>by simp at h) (fun j x v h _=>by simp [zag] at h)
theorem zgj.vrd {S:Stb} {w:World} {sz:Nat} {es:List D} {v:Value} {R:Option Nat} (h:zgj S w sz es v R):VRD S (.list es) v:=by
 cases R with
 | none=>exact h.2.1
 | some g =>
  obtain ⟨cap,cur,e,rfl,h2,h3,h4,h5,h6,h7,h8,h9⟩:=h
  exact VRD.list_mk rfl h3 h6 h7 (fun j v hj=>by simpa using h8 j v hj)
theorem zcw.ext {S S':Stb} {ms:List (Nat→Nat)} {lv:List Hp} {G:Gh} {w w':World} {g:Nat} (h:zcw S ms lv G w)
 (hg:∀ k s cs,¬ zds lv ms k s g cs) (hgG:G g=none) (hM:∀ o,w.heap[g]?=some o→∃ c e f,o=.cells c e f) (hw:∀ b,b<w.heap.size→b≠g→w'.heap[b]?=w.heap[b]?)
 (hs:Sub S S') (hS:∀ ad,ad.block<w.heap.size→ad.block≠g→S' ad=S ad) (hc:∀ ad v,S' ad=some v→w'.cell? ad=some v):zcw S' ms lv G w':=by
 have ne:∀ {b cs},G b=some cs→b≠g:=fun hb e=>by rw [e,hgG] at hb;cases hb
 refine ⟨hc,h.len,fun {k s b cs} hl=>?_,fun {k s b cs} hl off sp=>?_,h.inj,fun {b cs} hb=>(h.gbox hb).mono hs (hw b (h.g_lt hb) (ne hb)),fun {b cs} hb off sp=>by rw [hS ⟨b,off,sp⟩ (h.g_lt hb) (ne hb)];exact h.gnos hb off sp,h.gnl,h.x.keep hs rfl fun r o hr ho=>?_,h.tab.mono hs⟩
 rotate_left 2
 · rw [hw r (Array.getElem?_eq_some_iff.1 hr).1 fun e=>?_]
   · exact hr
   · subst e;obtain ⟨c,e,f,rfl⟩:=hM o hr;cases ho
 · have hb:=h.block_lt hl
   exact (h.box hl).mono hs (hw b hb (fun e=>hg k s cs (e▸hl)))
 · have hb:=h.block_lt hl
   rw [hS ⟨b,off,sp⟩ hb (fun e=>hg k s cs (e▸hl))]
   exact h.nos hl off sp
theorem Rel.ext [DD] {S S':Stb} {ms:List (Nat→Nat)} {ow:Nat→Option Nat} {base:Nat} {O:Nat→Prop} {ρ:Env} {L:Hp} {σ:List Hp} {G:Gh} {a:Act} {w w':World} {g:Nat}
 (h:Rel S ms ow base O ρ L σ G a w) (hg:∀ k s cs,¬ zds (L::σ) ms k s g cs) (hgG:G g=none) (hM:∀ o,w.heap[g]?=some o→∃ c e f,o=.cells c e f) (ho:∀ i sz es,ρ i=.own sz es→ow i≠some g)
 (hsz:w.heap.size≤w'.heap.size) (hw:∀ b,b<w.heap.size→b≠g→w'.heap[b]?=w.heap[b]?)
 (hs:Sub S S') (hS:∀ ad,ad.block<w.heap.size→ad.block≠g→S' ad=S ad) (hc:∀ ad v,S' ad=some v→w'.cell? ad=some v) :
 Rel S' ms ow base O ρ L σ G a w' :=
 { h:=h.h.ext hg hgG hM hw hs hS hc
   tmp:=fun i=>(h.tmp i).mono hs
   own:=fun {i sz es} hi=>(h.own hi).mono hs
    (fun g' hg'=>hw g' (by have:=h.own hi;rw [hg'] at this;exact this.lt) (fun e=>ho i sz es hi (e▸hg')))
    (fun g' hg' off sp=>hS ⟨g',off,sp⟩ (by have:=h.own hi;rw [hg'] at this;exact this.lt) (fun e=>ho i sz es hi (e▸hg')))
   ownI:=h.ownI
   ownB:=h.ownB
   new:=h.new
   old:=h.old
   gold:=h.gold
   mold:=h.mold
   dfs:=h.dfs.keep fun r _ hr=>by
    rw [hw r (Array.getElem?_eq_some_iff.1 hr).1 fun e=>?_]
    · exact hr
    · subst e;obtain ⟨c,e,f,he⟩:=hM _ hr;cases he
   bas:=Nat.le_trans h.bas hsz }
theorem za9 {α:Type} (f:Nat→α) (i:Nat) (v:α):upd f i v i=v:=by simp [upd]
theorem zak {α:Type} (f:Nat→α) {i j:Nat} (v:α) (h:j≠i):upd f i v j=f j:=by simp [upd,h]
theorem zfy {a:Act} {d:Nat} {v:Value} (hd:d<a.tmps.size) (i:Nat):(a.put (some d) v).tmps.getD i undef=if i=d then v else a.tmps.getD i undef:=by
 simp only [Act.put]
 by_cases h:i=d
 · subst h;simp [hd]
 · simp [h,Array.getElem?_setIfInBounds_ne (Ne.symm h)]
theorem zda {a:Act} {d:Option Nat} {v:Value}:(a.put d v).tmps.size=a.tmps.size:=by cases d<;>simp [Act.put]
theorem Rel.put [DD] {S:Stb} {ms:List (Nat→Nat)} {ow:Nat→Option Nat} {base:Nat} {O:Nat→Prop} {ρ:Env} {L:Hp} {σ:List Hp} {G:Gh} {a:Act} {w:World}
 (h:Rel S ms ow base O ρ L σ G a w) {d:Option Nat} {x:AV} {v:Value} (hx:VR S (L::σ) ms x v) (hn:∀ sz es,x≠.own sz es) (hd:∀ i,d=some i→i<a.tmps.size) :
 Rel S ms ow base O (put ρ d x) L σ G (a.put d v) w:=by
 cases d with
 | none=>exact h
 | some d =>
  have hd':=hd d rfl
  refine { h:=h.h,tmp:=fun i=>?_,own:=fun {i sz es} hi=>?_,ownI:=fun {i j sz es sz' es' g} hi hj=>?_,ownB:=fun {i sz es g} hi=>?_,new:=h.new,old:=h.old,gold:=h.gold,mold:=h.mold,dfs:=h.dfs,bas:=h.bas }
  · rw [zfy hd']
    simp only [E2.put,upd]
    split
    · exact hx
    · exact h.tmp i
  · rw [zfy hd']
    simp only [E2.put,upd] at hi
    split at hi
    · exact absurd hi (hn sz es)
    · rename_i hne;rw [if_neg hne];exact h.own hi
  · simp only [E2.put,upd] at hi hj
    split at hi
    · exact absurd hi (hn _ _)
    · split at hj
      · exact absurd hj (hn _ _)
      · exact h.ownI hi hj
  · simp only [E2.put,upd] at hi
    split at hi
    · exact absurd hi (hn _ _)
    · exact h.ownB hi
theorem Rel.putOwn [DD] {S:Stb} {ms:List (Nat→Nat)} {ow:Nat→Option Nat} {base:Nat} {O:Nat→Prop} {ρ:Env} {L:Hp} {σ:List Hp} {G:Gh} {a:Act} {w:World}
 (h:Rel S ms ow base O ρ L σ G a w) {d:Nat} {sz:Nat} {es:List D} {v:Value} {R:Option Nat} (hx:zgj S w sz es v R)
 (hR:∀ g,R=some g→base≤g∧G g=none∧(∀ k s cs,¬ zds (L::σ) ms k s g cs)∧∀ i sz es,i≠d→ρ i=.own sz es→ow i≠some g) (hd:d<a.tmps.size) :
 Rel S ms (upd ow d R) base O (upd ρ d (.own sz es)) L σ G (a.put (some d) v) w:=by
 refine { h:=h.h,tmp:=fun i=>?_,own:=fun {i sz' es'} hi=>?_,ownI:=fun {i j sz1 es1 sz2 es2 g} hi hj gi gj=>?_,ownB:=fun {i sz' es' g} hi gi=>?_,new:=h.new,old:=h.old,gold:=h.gold,mold:=h.mold,dfs:=h.dfs,bas:=h.bas }
 · rw [zfy hd]
   simp only [upd]
   split
   · exact hx.vrd
   · exact h.tmp i
 · rw [zfy hd]
   simp only [upd] at hi ⊢
   split at hi
   · rename_i e;rw [if_pos e,if_pos e];cases hi;exact hx
   · rename_i e;rw [if_neg e,if_neg e];exact h.own hi
 · simp only [upd] at hi hj gi gj
   by_cases e1:i=d<;>by_cases e2:j=d
   · rw [e1,e2]
   · rw [if_pos e1] at gi;rw [if_neg e2] at hj gj
     exact absurd gj ((hR g gi).2.2.2 j _ _ e2 hj)
   · rw [if_neg e1] at hi gi;rw [if_pos e2] at gj
     exact absurd gi ((hR g gj).2.2.2 i _ _ e1 hi)
   · rw [if_neg e1] at hi gi;rw [if_neg e2] at hj gj
     exact h.ownI hi hj gi gj
 · simp only [upd] at hi gi
   by_cases e1:i=d
   · rw [if_pos e1] at gi;exact ⟨(hR g gi).1,(hR g gi).2.1,(hR g gi).2.2.1⟩
   · rw [if_neg e1] at hi gi;exact h.ownB hi gi
theorem VR.cp {S:Stb} {lv:List Hp} {ms:List (Nat→Nat)} {x:AV} {v:Value} (h:VR S lv ms x v):VR S lv ms x.cp v:=by cases x<;>exact h
theorem zbu {x:AV}:∀ sz es,x.cp≠.own sz es:=by intro sz es;cases x<;>simp [AV.cp]
theorem VR.data {S:Stb} {lv:List Hp} {ms:List (Nat→Nat)} {x:AV} {v:Value} {y:D} (h:VR S lv ms x v) (hy:x.data=some y):VRD S y v:=by
 cases x<;>simp [AV.data] at hy<;>subst hy<;>exact h
theorem Rel.give [DD] {S:Stb} {ms:List (Nat→Nat)} {ow:Nat→Option Nat} {base:Nat} {O:Nat→Prop} {ρ:Env} {L:Hp} {σ:List Hp} {G:Gh} {a:Act} {w:World}
 (h:Rel S ms ow base O ρ L σ G a w) (x:AO):Rel S ms ow base O (zdb ρ x) L σ G a w:=by
 cases x with
 | c x=>exact h
 | g x=>exact h
 | m x y=>exact h
 | t i =>
  refine { h:=h.h,tmp:=fun j=>?_,own:=fun {j sz es} hj=>?_,ownI:=fun {j k sz es sz' es' g} hj hk=>?_,ownB:=fun {j sz es g} hj=>?_,new:=h.new,old:=h.old,gold:=h.gold,mold:=h.mold,dfs:=h.dfs,bas:=h.bas }
  · simp only [zdb,upd]
    split
    · rename_i e;subst e;exact (h.tmp j).cp
    · exact h.tmp j
  · simp only [zdb,upd] at hj
    split at hj
    · exact absurd hj (zbu _ _)
    · exact h.own hj
  · simp only [zdb,upd] at hj hk
    split at hj
    · exact absurd hj (zbu _ _)
    · split at hk
      · exact absurd hk (zbu _ _)
      · exact h.ownI hj hk
  · simp only [zdb,upd] at hj
    split at hj
    · exact absurd hj (zbu _ _)
    · exact h.ownB hj
end Go.E2
namespace Go.E2
def zah (lv lv':List Hp):Prop :=
 lv'.length=lv.length∧∀ (k:Nat) (h h':Hp),lv[k]?=some h→lv'[k]?=some h'→∀ s,(h' s).g=(h s).g∧((h' s).c=none↔(h s).c=none)
theorem zah.refl (lv:List Hp):zah lv lv:=⟨rfl,fun k h h' a b s=>by rw [a] at b;cases b;exact ⟨rfl,Iff.rfl⟩⟩
theorem zah.get {lv lv':List Hp} (h:zah lv lv') {k:Nat} {x:Hp} (hx:lv[k]?=some x):∃ y,lv'[k]?=some y:=by
 have:=(List.getElem?_eq_some_iff.1 hx).1
 exact ⟨_,List.getElem?_eq_getElem (by rw [h.1];exact this)⟩
theorem zah.trans {a b c:List Hp} (h:zah a b) (h':zah b c):zah a c:=by
 refine ⟨h'.1.trans h.1,fun k x z hx hz s=>?_⟩
 obtain ⟨y,hy⟩:=h.get hx
 exact ⟨((h'.2 k y z hy hz s).1).trans (h.2 k x y hx hy s).1,((h'.2 k y z hy hz s).2).trans (h.2 k x y hx hy s).2⟩
theorem zah.tail {x y:Hp} {a b:List Hp} (h:zah (x::a) (y::b)):zah a b :=
 ⟨by have:=h.1;simpa using this,fun k u v hu hv=>h.2 (k+1) u v (by simpa using hu) (by simpa using hv)⟩
theorem zep.shape {lv lv':List Hp} {ms:List (Nat→Nat)} (hs:zah lv lv') {k s g off:Nat} {v:Value} (h:zep lv ms k s g off v):zep lv' ms k s g off v:=by
 obtain ⟨x,m,b,h1,h2,h3,h4,h5⟩:=h
 obtain ⟨y,hy⟩:=hs.get h1
 have e:=hs.2 k x y h1 hy s
 exact ⟨y,m,b,hy,h2,h3,by rw [e.1];exact h4,fun n1 n2=>h5 (fun z=>n1 (e.2.2 z)) (by rw [← e.1];exact n2)⟩
theorem VR.shape {S:Stb} {lv lv':List Hp} {ms:List (Nat→Nat)} (hs:zah lv lv') {x:AV} {v:Value} (h:VR S lv ms x v):VR S lv' ms x v:=by
 cases x with
 | ptr k s g off=>exact zep.shape hs h
 | func f caps=>obtain ⟨cv,h1,h2,h3⟩:=h;exact ⟨cv,h1,h2,fun j p u a b=>(h3 j p u a b).shape hs⟩
 | _=>exact h
def push (m:Nat→Nat) (s b:Nat):Nat→Nat:=upd m s b
theorem zdw {L:Hp} {σ:List Hp} {m:Nat→Nat} {mt:List (Nat→Nat)} {s B:Nat} {g:Nat} {cs:List D} {k s' b:Nat} {cs':List D}
 (h:zds (upd L s ⟨g,some cs⟩::σ) (upd m s B::mt) k s' b cs') :
 (k=0∧s'=s∧b=B∧cs'=cs)∨(¬(k=0∧s'=s)∧zds (L::σ) (m::mt) k s' b cs'):=by
 obtain ⟨x,y,h1,h2,h3,h4⟩:=h
 cases k with
 | zero =>
  simp at h1 h2
  subst h1;subst h2
  by_cases e:s'=s
  · subst e
    rw [za9] at h3 h4
    simp at h3
    exact .inl ⟨rfl,rfl,h4.symm,h3.symm⟩
  · rw [zak _ _ e] at h3 h4
    exact .inr ⟨fun z=>e z.2,L,m,rfl,rfl,h3,h4⟩
 | succ k =>
  simp at h1 h2
  exact .inr ⟨fun z=>by simp at z,x,y,by simpa using h1,by simpa using h2,h3,h4⟩
theorem zep.new {L:Hp} {σ:List Hp} {m:Nat→Nat} {mt:List (Nat→Nat)} {s B:Nat} {cs:List D} {k s' g off:Nat} {v:Value}
 (h:zep (L::σ) (m::mt) k s' g off v):zep (upd L s ⟨(L s).g+1,some cs⟩::σ) (upd m s B::mt) k s' g off v:=by
 obtain ⟨x,y,b,h1,h2,h3,h4,h5⟩:=h
 cases k with
 | zero =>
  simp at h1 h2
  subst h1;subst h2
  refine ⟨_,_,b,rfl,rfl,h3,?_,?_⟩
  · by_cases e:s'=s
    · subst e;rw [za9];simp;omega
    · rw [zak _ _ e];exact h4
  · by_cases e:s'=s
    · subst e;rw [za9];intro _ hg;simp at hg;omega
    · rw [zak _ _ e,zak _ _ e];exact h5
 | succ k=>exact ⟨x,y,b,by simpa using h1,by simpa using h2,h3,h4,h5⟩
theorem VR.new {S:Stb} {L:Hp} {σ:List Hp} {m:Nat→Nat} {mt:List (Nat→Nat)} {s B:Nat} {cs:List D} {x:AV} {v:Value}
 (h:VR S (L::σ) (m::mt) x v):VR S (upd L s ⟨(L s).g+1,some cs⟩::σ) (upd m s B::mt) x v:=by
 cases x with
 | ptr k s g off=>exact zep.new h
 | func f caps=>obtain ⟨cv,h1,h2,h3⟩:=h;exact ⟨cv,h1,h2,fun j p u a b=>(h3 j p u a b).new⟩
 | _=>exact h
theorem zq {w:World} {o:Obj} {b:Nat} (h:b<w.heap.size):(w.alloc o).heap[b]?=w.heap[b]?:=by
 exact Go.heap_alloc_old (w:=w) (o:=o) h
theorem zab {w:World} {o:Obj}:(w.alloc o).heap[w.heap.size]?=some o:=heap_alloc_new w o
theorem zmi {w:World} {o:Obj} {ad:Addr} (h:ad.block<w.heap.size):(w.alloc o).cell? ad=w.cell? ad:=by
 simp only [World.cell?,zq h]
theorem za3 {w:World} {o:Obj}:(w.alloc o).heap.size=w.heap.size+1:=by
 show (w.heap.push o).size=_
 simp
theorem Rel.alloc [DD] {S:Stb} {m:Nat→Nat} {mt:List (Nat→Nat)} {ow:Nat→Option Nat} {base:Nat} {O:Nat→Prop} {ρ:Env} {L:Hp} {σ:List Hp} {G:Gh} {a:Act} {w:World}
 (h:Rel S (m::mt) ow base O ρ L σ G a w) {s:Nat} {cs:List D} {vs:Array Value} {e:TypeId} (hv:zz S cs vs.toList) (ho:cs.all D.one=true) (hs:s<a.tmps.size) :
 Rel S (upd m s w.heap.size::mt) ow base O (upd ρ s (.ptr 0 s ((L s).g+1) 0)) (upd L s ⟨(L s).g+1,some cs⟩) σ G (a.put (some s) (.pointer (some ⟨w.heap.size,0,none⟩))) (w.alloc (.cells vs e)):=by
 have hold:∀ {k s' b cs'},zds (L::σ) (m::mt) k s' b cs'→b<w.heap.size:=fun hl=>h.h.block_lt hl
 refine { h:={ sub:=?_,len:=?_,box:=?_,nos:=?_,inj:=?_,gbox:=fun {b cs'} hb=>(h.h.gbox hb).mono (Sub.refl S) (zq (h.h.g_lt hb)),gnos:=h.h.gnos,gnl:=fun {b cs' k s' c2} hb hl=>?_,x:=h.h.x.keep (Sub.refl S) rfl fun r o hr _=>(zq (Array.getElem?_eq_some_iff.1 hr).1).trans hr,tab:=h.h.tab },tmp:=fun i=>?_,own:=fun {i sz es} hi=>?_,ownI:=fun {i j sz es sz' es' g} hi hj=>?_,ownB:=fun {i sz es g} hi gi=>?_,
          new:=fun {s' b cs'} hl=>?_,old:=fun {k s' b cs'} hl=>?_,gold:=h.gold,mold:=h.mold,dfs:=h.dfs.keep fun r _ hr=>(zq (Array.getElem?_eq_some_iff.1 hr).1).trans hr,bas:=by rw [za3];exact Nat.le_succ_of_le h.bas }
 · intro ad v hS
   rw [zmi (h.h.S_lt hS)];exact h.h.sub _ _ hS
 · have:=h.h.len;simpa using this
 · intro k s' b cs' hl
   rcases zdw hl with ⟨_,_,rfl,rfl⟩|⟨_,hl⟩
   · exact ⟨vs,e,zab,hv,ho⟩
   · exact (h.h.box hl).mono (Sub.refl S) (zq (hold hl))
 · intro k s' b cs' hl off sp
   rcases zdw hl with ⟨_,_,rfl,rfl⟩|⟨_,hl⟩
   · cases hS:S ⟨w.heap.size,off,sp⟩ with
     | none=>rfl
     | some v=>have:=h.h.S_lt hS;simp at this
   · exact h.h.nos hl off sp
 · intro k s1 b c1 k' s2 c2 hl hl'
   rcases zdw hl with ⟨e1,e2,e3,_⟩|⟨_,hl⟩<;>rcases zdw hl' with ⟨e4,e5,e6,_⟩|⟨_,hl'⟩
   · exact ⟨e1.trans e4.symm,e2.trans e5.symm⟩
   · exact absurd (hold hl') (by omega)
   · exact absurd (hold hl) (by omega)
   · exact h.h.inj hl hl'
 · rcases zdw hl with ⟨_,_,rfl,_⟩|⟨_,hl⟩
   · have:=h.h.g_lt hb;omega
   · exact h.h.gnl hb hl
 · rw [zfy hs]
   simp only [upd]
   split
   · refine ⟨_,_,w.heap.size,rfl,rfl,rfl,?_,?_⟩
     · rw [za9];exact Nat.le_refl _
     · intro _ _;rw [za9]
   · exact (h.tmp i).new
 · rw [zfy hs]
   simp only [upd] at hi
   split at hi
   · cases hi
   · rename_i hne
     rw [if_neg hne]
     have hown:=h.own hi
     exact hown.mono (Sub.refl S) (fun g hg=>by rw [hg] at hown;exact zq hown.lt) (fun _ _ _ _=>rfl)
 · simp only [upd] at hi hj
   split at hi
   · cases hi
   · split at hj
     · cases hj
     · exact h.ownI hi hj
 · simp only [upd] at hi
   split at hi
   · cases hi
   · refine ⟨(h.ownB hi gi).1,(h.ownB hi gi).2.1,fun k s' cs' hl=>?_⟩
     rcases zdw hl with ⟨_,_,e3,_⟩|⟨_,hl⟩
     · have hown:=h.own hi;rw [gi] at hown;have:=hown.lt;omega
     · exact (h.ownB hi gi).2.2 _ _ _ hl
 · rcases zdw hl with ⟨_,_,rfl,_⟩|⟨_,hl⟩
   · exact h.bas
   · exact h.new hl
 · rcases zdw hl with ⟨e1,_⟩|⟨_,hl⟩
   · simp at e1
   · exact h.old hl
theorem Evo.alloc {base:Nat} {O:Nat→Prop} {S:Stb} {w:World} (hb:base≤w.heap.size) (o:Obj):Evo base O S w S (w.alloc o) :=
 ⟨by rw [za3];omega,fun b h _=>zq (by omega),fun _ _=>rfl,Sub.refl S,rfl,rfl,rfl⟩
theorem zx4 {lv:List Hp} {ms:List (Nat→Nat)} {k s:Nat} {h:Hp} {g:Nat} {cs1 cs:List D} (hk:lv[k]?=some h) (hc:(h s).c=some cs1) (hg:(h s).g=g) {k' s' b:Nat} {cs':List D}
 (hl:zds (lv.set k (upd h s ⟨g,some cs⟩)) ms k' s' b cs'):(k'=k∧s'=s∧cs'=cs∧zds lv ms k s b cs1)∨(¬(k'=k∧s'=s)∧zds lv ms k' s' b cs'):=by
 obtain ⟨x,y,h1,h2,h3,h4⟩:=hl
 rw [List.getElem?_set] at h1
 split at h1
 · rename_i e
   subst e
   split at h1
   · simp at h1
     subst h1
     by_cases e:s'=s
     · subst e
       rw [za9] at h3
       simp at h3
       exact .inl ⟨rfl,rfl,h3.symm,h,y,hk,h2,hc,h4⟩
     · rw [zak _ _ e] at h3
       exact .inr ⟨fun z=>e z.2,h,y,hk,h2,h3,h4⟩
   · cases h1
 · rename_i e
   exact .inr ⟨fun z=>e z.1.symm,x,y,h1,h2,h3,h4⟩
theorem zn8 {lv:List Hp} {k s:Nat} {h:Hp} {g:Nat} {cs1 cs:List D} (hk:lv[k]?=some h) (hc:(h s).c=some cs1) (hg:(h s).g=g):zah lv (lv.set k (upd h s ⟨g,some cs⟩)):=by
 refine ⟨by simp,fun k' x y hx hy s'=>?_⟩
 rw [List.getElem?_set] at hy
 split at hy
 · rename_i e
   subst e
   rw [hk] at hx;cases hx
   split at hy
   · simp at hy
     subst hy
     by_cases e:s'=s
     · subst e;rw [za9];simp [hc,hg]
     · rw [zak _ _ e];exact ⟨rfl,Iff.rfl⟩
   · cases hy
 · rw [hx] at hy;cases hy;exact ⟨rfl,Iff.rfl⟩
theorem Rel.store [DD] {S:Stb} {ms:List (Nat→Nat)} {ow:Nat→Option Nat} {base:Nat} {O:Nat→Prop} {ρ:Env} {L:Hp} {σ:List Hp} {G:Gh} {a:Act} {w w':World}
 (h:Rel S ms ow base O ρ L σ G a w) {k s g b:Nat} {x:Hp} {cs1 cs:List D} (hk:(L::σ)[k]?=some x) (hc:(x s).c=some cs1) (hg:(x s).g=g) (hl:zds (L::σ) ms k s b cs1)
 (hsz:w'.heap.size=w.heap.size) (hw:∀ i,i≠b→w'.heap[i]?=w.heap[i]?) (hbox:zeo S w' b cs) {L':Hp} {σ':List Hp} (he:(L::σ).set k (upd x s ⟨g,some cs⟩)=L'::σ') :
 Rel S ms ow base O ρ L' σ' G a w':=by
 have hsh:=zn8 (cs:=cs) hk hc hg
 rw [he] at hsh
 have hlv:∀ {k' s' b' cs'},zds (L'::σ') ms k' s' b' cs'→(k'=k∧s'=s∧cs'=cs∧zds (L::σ) ms k s b' cs1)∨(¬(k'=k∧s'=s)∧zds (L::σ) ms k' s' b' cs'):=fun hl'=>zx4 hk hc hg (he▸hl')
 have hany:∀ {k' s' b' cs'},zds (L'::σ') ms k' s' b' cs'→∃ cs'',zds (L::σ) ms k' s' b' cs'':=fun hl'=>by
  rcases hlv hl' with ⟨rfl,rfl,_,hl⟩|⟨_,hl⟩
  · exact ⟨_,hl⟩
  · exact ⟨_,hl⟩
 have hM:∀ o,w.heap[b]?=some o→∃ c e f,o=.cells c e f:=fun o ho=>by
  obtain ⟨vs,e,hv,_⟩:=h.h.box hl
  rw [hv] at ho;cases ho;exact ⟨_,_,_,rfl⟩
 have hb:∀ {b' cs'},zds (L::σ) ms k s b' cs'→b'=b:=fun hl'=>by
  obtain ⟨x1,y1,a1,a2,a3,a4⟩:=hl
  obtain ⟨x2,y2,b1,b2,b3,b4⟩:=hl'
  rw [a2] at b2;cases b2;exact b4.symm.trans a4
 refine { h:={ sub:=?_,len:=?_,box:=?_,nos:=?_,inj:=?_,gbox:=fun {b' cs'} hb'=>(h.h.gbox hb').mono (Sub.refl S) (hw _ fun e=>h.h.gnl hb' (e▸hl)),gnos:=h.h.gnos,gnl:=fun {b' c1 k' s' c2} hb' hl'=>by obtain ⟨_,h2⟩:=hany hl';exact h.h.gnl hb' h2,x:=h.h.x.keep (Sub.refl S) rfl fun r o hr ho=>(hw r fun e=>by subst e;obtain ⟨_,_,_,e⟩:=hM o hr;subst e;cases ho).trans hr,tab:=h.h.tab },tmp:=fun i=>(h.tmp i).shape hsh,own:=fun {i sz es} hi=>?_,ownI:=h.ownI,ownB:=fun {i sz es g} hi gi=>?_,
          new:=fun {s' b cs'} hl'=>?_,old:=fun {k s' b cs'} hl'=>?_,gold:=h.gold,mold:=h.mold,dfs:=h.dfs.keep fun r _ hr=>(hw r fun e=>by subst e;obtain ⟨_,_,_,e⟩:=hM _ hr;cases e).trans hr,bas:=by rw [hsz];exact h.bas }
 · intro ad v hS
   have hne:ad.block≠b:=fun e=>by
    have:=h.h.nos hl ad.off ad.spot
    rw [← e] at this
    have:S ad=none:=this
    rw [this] at hS;cases hS
   have:w'.cell? ad=w.cell? ad:=by simp only [World.cell?,hw _ hne]
   rw [this];exact h.h.sub _ _ hS
 · have:=h.h.len;rw [this,← he];simp
 · intro k' s' b' cs' hl'
   rcases hlv hl' with ⟨_,_,rfl,hl2⟩|⟨hne,hl2⟩
   · rw [hb hl2];exact hbox
   · refine (h.h.box hl2).mono (Sub.refl S) (hw _ fun e=>hne ?_)
     subst e
     exact h.h.inj hl2 hl
 · intro k' s' b' cs' hl' off sp
   obtain ⟨_,hl2⟩:=hany hl'
   exact h.h.nos hl2 off sp
 · intro k1 s1 b1 c1 k2 s2 c2 hl1 hl2
   obtain ⟨_,h1⟩:=hany hl1
   obtain ⟨_,h2⟩:=hany hl2
   exact h.h.inj h1 h2
 · have hown:=h.own hi
   exact hown.mono (Sub.refl S) (fun g' hg'=>hw g' fun e=>by subst e;exact (h.ownB hi hg').2.2 _ _ _ hl) (fun _ _ _ _=>rfl)
 · exact ⟨(h.ownB hi gi).1,(h.ownB hi gi).2.1,fun k' s' cs' hl'=>by obtain ⟨_,h2⟩:=hany hl';exact (h.ownB hi gi).2.2 _ _ _ h2⟩
 · obtain ⟨_,h2⟩:=hany hl';exact h.new h2
 · obtain ⟨_,h2⟩:=hany hl';exact h.old h2
theorem Evo.store {base:Nat} {O:Nat→Prop} {S:Stb} {w w':World} {b:Nat} (hsz:w'.heap.size=w.heap.size) (hw:∀ i,i≠b→w'.heap[i]?=w.heap[i]?) (hb:b<base→O b)
 (h1:w'.os=w.os) (h2:w'.tape=w.tape) (h3:w'.output=w.output):Evo base O S w S w' :=
 ⟨by omega,fun i hi hO=>hw i fun e=>by subst e;exact hO (hb hi),fun _ _=>rfl,Sub.refl S,h1,h2,h3⟩
theorem Rel.g_none [DD] {S:Stb} {ms:List (Nat→Nat)} {ow:Nat→Option Nat} {base:Nat} {O:Nat→Prop} {ρ:Env} {L:Hp} {σ:List Hp} {G:Gh} {a:Act} {w:World} (h:Rel S ms ow base O ρ L σ G a w):G w.heap.size=none:=by
 cases hg:G w.heap.size with
 | none=>rfl
 | some c=>have:=h.h.g_lt hg;omega
theorem Rel.allocG [DD] {S:Stb} {ms:List (Nat→Nat)} {ow:Nat→Option Nat} {base:Nat} {O:Nat→Prop} {ρ:Env} {L:Hp} {σ:List Hp} {G:Gh} {a:Act} {w w':World}
 (h:Rel S ms ow base O ρ L σ G a w) {cs:List D} (hsz:w'.heap.size=w.heap.size+1) (hold:∀ b,b<w.heap.size→w'.heap[b]?=w.heap[b]?) (hB:zeo S w' w.heap.size cs) :
 Rel S ms ow base O ρ L σ (G.set w.heap.size (some cs)) a w':=by
 have hg0:G w.heap.size=none:=by
  cases hg:G w.heap.size with
  | none=>rfl
  | some c=>have:=h.h.g_lt hg;omega
 have hnl:∀ {k s cs'},¬ zds (L::σ) ms k s w.heap.size cs':=fun hl=>by have:=h.h.block_lt hl;omega
 have hnos:∀ off sp,S ⟨w.heap.size,off,sp⟩=none:=fun off sp=>by
  cases hS:S ⟨w.heap.size,off,sp⟩ with
  | none=>rfl
  | some v=>have:=h.h.S_lt hS;simp at this
 have h1:Rel S ms ow base O ρ L σ G a w':=h.ext (g:=w.heap.size) (fun k s cs=>hnl) hg0 (fun o ho=>by have:=(Array.getElem?_eq_some_iff.1 ho).1;omega) (fun i sz es hi e=>by have:=h.own hi;rw [e] at this;have:=this.lt;omega) (by omega) (fun b hb _=>hold b hb) (Sub.refl S) (fun _ _ _=>rfl) (fun ad v hS=>by
  have:=h.h.S_lt hS
  have e:w'.cell? ad=w.cell? ad:=by simp only [World.cell?,hold _ this]
  rw [e];exact h.h.sub _ _ hS)
 have at_:∀ {b c},G.set w.heap.size (some cs) b=some c→(b=w.heap.size∧c=cs)∨(b≠w.heap.size∧G b=some c):=fun {b c} hb=>by
  rw [Gh.set_c] at hb
  by_cases e:b=w.heap.size
  · subst e;rw [za9] at hb;cases hb;exact .inl ⟨rfl,rfl⟩
  · rw [zak _ _ e] at hb;exact .inr ⟨e,hb⟩
 exact { h1 with
  h:={ h1.h with
    gbox:=fun hb=>by rcases at_ hb with ⟨rfl,rfl⟩|⟨_,hb⟩;exact hB;exact h1.h.gbox hb
    gnos:=fun hb off sp=>by rcases at_ hb with ⟨rfl,rfl⟩|⟨_,hb⟩;exact hnos off sp;exact h1.h.gnos hb off sp
    gnl:=fun hb hl=>by rcases at_ hb with ⟨rfl,rfl⟩|⟨_,hb⟩;exact hnl hl;exact h1.h.gnl hb hl
    x:=h1.h.x.keep (Sub.refl S) rfl fun _ _ hr _=>hr }
  ownB:=fun {i sz es g} hi gi=>⟨(h1.ownB hi gi).1,by
   have hne:g≠w.heap.size:=by have:=h.own hi;rw [gi] at this;have:=this.lt;omega
   rw [Gh.set_c,zak _ _ hne];exact (h1.ownB hi gi).2.1,(h1.ownB hi gi).2.2⟩
  gold:=fun hb hlt=>by rcases at_ hb with ⟨rfl,rfl⟩|⟨_,hb⟩;exact absurd h.bas (by omega);exact h1.gold hb hlt }
theorem Rel.storeG [DD] {S:Stb} {ms:List (Nat→Nat)} {ow:Nat→Option Nat} {base:Nat} {O:Nat→Prop} {ρ:Env} {L:Hp} {σ:List Hp} {G:Gh} {a:Act} {w w':World}
 (h:Rel S ms ow base O ρ L σ G a w) {g:Nat} {cs1 cs:List D} (hg:G g=some cs1) (hsz:w'.heap.size=w.heap.size) (hw:∀ i,i≠g→w'.heap[i]?=w.heap[i]?) (hbox:zeo S w' g cs) :
 Rel S ms ow base O ρ L σ (G.set g (some cs)) a w':=by
 have hM:∀ o,w.heap[g]?=some o→∃ c e f,o=.cells c e f:=fun o ho=>by
  obtain ⟨vs,e,hv,_⟩:=h.h.gbox hg
  rw [hv] at ho;cases ho;exact ⟨_,_,_,rfl⟩
 have at_:∀ {b c},G.set g (some cs) b=some c→(b=g∧c=cs)∨(b≠g∧G b=some c):=fun {b c} hb=>by
  rw [Gh.set_c] at hb
  by_cases e:b=g
  · subst e;rw [za9] at hb;cases hb;exact .inl ⟨rfl,rfl⟩
  · rw [zak _ _ e] at hb;exact .inr ⟨e,hb⟩
 have hS:∀ ad v,S ad=some v→ad.block≠g:=fun ad v hS e=>by
  have:=h.h.gnos hg ad.off ad.spot
  rw [← e] at this
  have:S ad=none:=this
  rw [this] at hS;cases hS
 refine { h:={ sub:=fun ad v hs=>?_,len:=h.h.len,box:=fun hl=>(h.h.box hl).mono (Sub.refl S) (hw _ fun e=>h.h.gnl hg (e▸hl)),nos:=h.h.nos,inj:=h.h.inj,gbox:=fun hb=>?_,gnos:=fun hb off sp=>?_,gnl:=fun hb hl=>?_,x:=h.h.x.keep (Sub.refl S) rfl fun r o hr ho=>(hw r fun e=>by subst e;obtain ⟨_,_,_,e⟩:=hM o hr;subst e;cases ho).trans hr,tab:=h.h.tab },
          tmp:=h.tmp,own:=fun {i sz es} hi=>?_,ownI:=h.ownI,ownB:=fun {i sz es g'} hi gi=>⟨(h.ownB hi gi).1,?_,(h.ownB hi gi).2.2⟩,new:=h.new,old:=h.old,gold:=fun hb hlt=>?_,mold:=h.mold,dfs:=h.dfs.keep fun r _ hr=>(hw r fun e=>by subst e;obtain ⟨_,_,_,e⟩:=hM _ hr;cases e).trans hr,bas:=by rw [hsz];exact h.bas }
 · have e:w'.cell? ad=w.cell? ad:=by simp only [World.cell?,hw _ (hS ad v hs)]
   rw [e];exact h.h.sub _ _ hs
 · rcases at_ hb with ⟨rfl,rfl⟩|⟨hne,hb⟩
   · exact hbox
   · exact (h.h.gbox hb).mono (Sub.refl S) (hw _ hne)
 · rcases at_ hb with ⟨rfl,rfl⟩|⟨hne,hb⟩
   · exact h.h.gnos hg off sp
   · exact h.h.gnos hb off sp
 · rcases at_ hb with ⟨rfl,rfl⟩|⟨hne,hb⟩
   · exact h.h.gnl hg hl
   · exact h.h.gnl hb hl
 · have hown:=h.own hi
   exact hown.mono (Sub.refl S) (fun g' hg'=>hw g' fun e=>by have:=(h.ownB hi hg').2.1;rw [e,hg] at this;cases this) (fun _ _ _ _=>rfl)
 · have hne:g'≠g:=fun e=>by have:=(h.ownB hi gi).2.1;rw [e,hg] at this;cases this
   rw [Gh.set_c,zak _ _ hne];exact (h.ownB hi gi).2.1
 · rcases at_ hb with ⟨rfl,rfl⟩|⟨hne,hb⟩
   · exact h.gold hg hlt
   · exact h.gold hb hlt
end Go.E2
