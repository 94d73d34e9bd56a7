/-
 Operations of one outcome on maps and on blocks that may change: what the evaluator says of them,the machine does.
 Conditions: none;laws.
-/
import Derived.Test.YtailhmffljoojaaEO10
namespace Go.E2
open Go.MapKept
section
variable {S:Stb} {ms:List (Nat→Nat)} {ow:Nat→Option Nat} {base:Nat} {O:Nat→Prop} {ρ:Env} {L:Hp} {σ:List Hp} {G:Gh} {a:Act} {w:World} {c:Ctx} {P:Program}
theorem z09 {e:TypeId} {z:D} (h:zD P e=some z):∃ zv:Value,(∀ w,(zeroValue e).run P w=.ok zv w)∧VRD S z zv:=by
 unfold zD at h
 split at h
 · rename_i i hi
   have run:∀ zv,i.zero=some zv→∀ w,(zeroValue e).run P w=.ok zv w:=fun zv hz w=>by
    simp [zeroValue,typeInfo,hi,hz]
   split at h
   · rename_i cs hz
     simp only [Option.map_eq_some_iff] at h
     obtain ⟨xs,hx,rfl⟩:=h
     obtain ⟨h1,h2⟩:=zh4 (S:=S) hx
     exact ⟨_,run _ hz,by simpa using VRD.agg_mk h1 h2⟩
   · rename_i v _ hz
     exact ⟨v,run _ hz,zmj h⟩
   · cases h
 · cases h
theorem ze3 {t k e:TypeId} (h:zme P t=some (k,e)):P.underlying t=some (.map k e):=by
 unfold zme at h
 split at h
 · rename_i k' e' hu;cases h;exact hu
 · cases h
theorem zdf {r:Nat} {v:Value} (h:VRD S (.mref r) v):v=.map (some r):=by cases h;rfl
theorem zf8 {v:Value} (h:VRD S .nilM v):v=.map none:=by cases h;rfl
theorem zdw {m:D} {es:List ME} {clock:Nat} (h:zec G m=some (es,clock)):∃ r,m=.mref r∧G.m r=some (.map es clock):=by
 unfold zec at h
 split at h
 · rename_i r
   split at h
   · rename_i es' c' hm;cases h;exact ⟨r,rfl,hm⟩
   · cases h
 · cases h
theorem zkp.map (h:zkp S G w) {r clock:Nat} {es:List ME} (hm:G.m r=some (.map es clock)):∃ vs:Array MapEntry,w.heap[r]?=some (.map vs clock)∧vs.size=es.length∧∀ (j:Nat) (e:ME) (v:MapEntry),es[j]?=some e→vs[j]?=some v→zc9 S e v:=h r _ hm
theorem zcd {r:Nat} {x:Obj} (o:Obj) (h:w.heap[r]?=some x) (hi:isM x=true):(setObj r o).run P w=.ok () (w.putObj r o):=by
 cases x<;>first|(cases hi;done)|simp [setObj,Sem.run,h,World.putObj]
theorem zlq.cases {r:Option (Nat×D)} {r':Option (Nat×Value)} (h:zlq S r r'):(r=none∧r'=none)∨∃ i x u,r=some (i,x)∧r'=some (i,u)∧VRD S x u:=by
 cases r with
 | none=>cases r' with
   | none=>exact .inl ⟨rfl,rfl⟩
   | some p=>exact h.elim
 | some p =>
  cases r' with
  | none=>exact h.elim
  | some q=>obtain ⟨h1,h2⟩:=h;exact .inr ⟨p.1,p.2,q.2,rfl,by rw [h1],h2⟩
theorem zq1 {x y:D} {u v:Value} (hx:VRD S x u) (hy:VRD S y v):zx S [x,y] [u,v]:=zx.cons hx (zx.cons hy zx.nil)
theorem zq2 (h:zkp S G w) {t kt e:TypeId} (ht:zme P t=some (kt,e)) {ks:List Kd} (hk:zph P kt=some ks) {z:D} (hz:zD P e=some z) {ok:Bool} {m key:D} {mv kv:Value} (hm:VRD S m mv) (hkv:VRD S key kv) {r:AV} {G1:Gh} (hg:gdD (.mlook ks z ok) [m,key] G=some (r,G1)) :
 G1=G∧∃ v,(Instr.lookup t mv kv ok).run P w=.ok v w∧VR S (L::σ) ms r v∧∀ sz es,r≠.own sz es:=by
 have hu:=ze3 ht
 obtain ⟨zv,hzr,hzv⟩:=z09 (S:=S) hz
 have out:∀ (x:D) (u:Value) (b:Bool),VRD S x u→VR S (L::σ) ms (if ok then .tup [x,.bool b] else .d x) (if ok then .tuple #[u,.bool b] else u)∧∀ sz es,(if ok then (AV.tup [x,.bool b]) else .d x)≠.own sz es:=by
  intro x u b hx
  cases ok with
  | true=>exact ⟨⟨_,rfl,zq1 hx (VRD.bool b)⟩,fun _ _ e=>by cases e⟩
  | false=>exact ⟨hx,fun _ _ e=>by cases e⟩
 simp only [gdD] at hg
 split at hg
 · rename_i hok
   obtain ⟨hck,_,hfk⟩:=zhi hk hkv hok w
   split at hg
   · cases hg
     have hmv:=zf8 hm
     subst hmv
     obtain ⟨r',hr',hf⟩:=hfk [] #[] none rfl (fun j e v h=>by simp at h) rfl
     have:r'=none:=by cases r' with|none=>rfl|some p=>exact hf.elim
     subst this
     refine ⟨rfl,_,?_,out z zv false hzv⟩
     have hr2:(Instr.findKey kt kv []).run P w=.ok none w:=hr'
     cases ok<;>simp [Instr.lookup,run_underlying hu,Result.andThen,hck,hr2,hzr]
   · split at hg
     · rename_i es cl hmp
       obtain ⟨q,rfl,hmq⟩:=zdw hmp
       obtain ⟨vs,hvs,hsz,hent⟩:=h.map hmq
       have hmv:=zdf hm
       subst hmv
       have hget:(getObj q).run P w=.ok (.map vs cl) w:=MapKept.run_getObj_map hvs
       split at hg
       · rename_i i x hf
         cases hg
         obtain ⟨r',hr',hf'⟩:=hfk es vs _ hsz hent hf
         rcases hf'.cases with ⟨e,_⟩|⟨i,x,u,e,rfl,hx⟩
         · cases e
         · cases e
           refine ⟨rfl,_,?_,out x u true hx⟩
           cases ok<;>simp [Instr.lookup,run_underlying hu,Result.andThen,hget,hck,hr']
       · rename_i hf
         cases hg
         obtain ⟨r',hr',hf'⟩:=hfk es vs _ hsz hent hf
         rcases hf'.cases with ⟨_,rfl⟩|⟨i,x,u,e,_⟩
         · refine ⟨rfl,_,?_,out z zv false hzv⟩
           cases ok<;>simp [Instr.lookup,run_underlying hu,Result.andThen,hget,hck,hr',hzr]
         · cases e
       · cases hg
     · cases hg
 · cases hg
theorem ziu {es:List ME} {vs:Array MapEntry} (hsz:vs.size=es.length) {i:Nat} {e:ME} (h:es[i]?=some e):∃ v,vs[i]?=some v:=by
 have:=(List.getElem?_eq_some_iff.1 h).1
 exact ⟨vs[i]'(by omega),by simp⟩
theorem zg0 {es:List ME} {vs:Array MapEntry} (hsz:vs.size=es.length) (hent:∀ (j:Nat) (e:ME) (v:MapEntry),es[j]?=some e→vs[j]?=some v→zc9 S e v) {i:Nat} {f:ME→ME} {g:MapEntry→MapEntry} (hf:∀ e v,zc9 S e v→zc9 S (f e) (g v)) :
 (vs.modify i g).size=(es.modify i f).length∧∀ (j:Nat) (e:ME) (v:MapEntry),(es.modify i f)[j]?=some e→(vs.modify i g)[j]?=some v→zc9 S e v:=by
 refine ⟨by simp [hsz],fun j e v he hv=>?_⟩
 rw [List.getElem?_modify] at he
 rw [Array.getElem?_modify] at hv
 cases h0:es[j]? with
 | none=>simp [h0] at he
 | some e0 =>
  obtain ⟨v0,hv0⟩:=ziu hsz h0
  rw [h0] at he
  rw [hv0] at hv
  by_cases hij:i=j
  · simp [hij] at he hv
    subst he;subst hv
    exact hf _ _ (hent j e0 v0 h0 hv0)
  · simp [hij] at he hv
    subst he;subst hv
    exact hent j _ _ h0 hv0
theorem znz {es:List ME} {vs:Array MapEntry} (hsz:vs.size=es.length) (hent:∀ (j:Nat) (e:ME) (v:MapEntry),es[j]?=some e→vs[j]?=some v→zc9 S e v) {e:ME} {v:MapEntry} (h:zc9 S e v) :
 (vs.push v).size=(es++[e]).length∧∀ (j:Nat) (e':ME) (v':MapEntry),(es++[e])[j]?=some e'→(vs.push v)[j]?=some v'→zc9 S e' v':=by
 refine ⟨by simp [hsz],fun j e' v' he hv=>?_⟩
 rcases Nat.lt_trichotomy j es.length with hj|hj|hj
 · rw [List.getElem?_append_left hj] at he
   rw [Array.getElem?_push_lt (by omega)] at hv
   exact hent j e' v' he (by rw [← hv];simp)
 · subst hj
   simp at he
   rw [← hsz] at hv
   simp at hv
   subst he;subst hv;exact h
 · rw [List.getElem?_eq_none (by simp;omega)] at he;cases he
theorem zq3 {es:List ME} {vs:Array MapEntry} (hsz:vs.size=es.length) (hent:∀ (j:Nat) (e:ME) (v:MapEntry),es[j]?=some e→vs[j]?=some v→zc9 S e v) (i:Nat) :
 (vs.eraseIdxIfInBounds i).size=(es.eraseIdx i).length∧∀ (j:Nat) (e:ME) (v:MapEntry),(es.eraseIdx i)[j]?=some e→(vs.eraseIdxIfInBounds i)[j]?=some v→zc9 S e v:=by
 have hl:(vs.eraseIdxIfInBounds i).toList=vs.toList.eraseIdx i:=by
  unfold Array.eraseIdxIfInBounds
  split
  · simp
  · rename_i h
    rw [List.eraseIdx_of_length_le (by simpa using h)]
 refine ⟨?_,fun j e v he hv=>?_⟩
 · have:=congrArg List.length hl
   simp only [Array.length_toList,List.length_eraseIdx] at this
   rw [this,List.length_eraseIdx,hsz]
 · have hv':(vs.toList.eraseIdx i)[j]?=some v:=by rw [← hl,Array.getElem?_toList];exact hv
   rw [List.getElem?_eraseIdx] at he hv'
   split at he
   · rename_i hj;rw [if_pos hj] at hv';exact hent j e v he (by simpa using hv')
   · rename_i hj;rw [if_neg hj] at hv';exact hent (j+1) e v he (by simpa using hv')
theorem zn0 {k1 k2:Value} (h:Instr.sameBits 10000 k1 k2=true):(Instr.keyThatStays k1 k2).run P w=.ok k2 w:=by
 simp [Instr.keyThatStays,h]
theorem zjd {kd:Kd} {x y:D} {u v:Value} (hx:VRD S x u) (hy:VRD S y v) (h:zbm kd x y=some true):Instr.sameBits 10000 v u=true:=by
 cases kd<;>cases x<;>cases y<;>simp [zbm] at h
 · subst h;rw [hx.bool_inv,hy.bool_inv];simp [Instr.sameBits]
 · obtain ⟨rfl,rfl⟩:=h;rw [hx.int_inv,hy.int_inv];simp [Instr.sameBits]
 · subst h
   obtain ⟨s,rfl,h1⟩:=hx.str_inv
   obtain ⟨s',rfl,h2⟩:=hy.str_inv
   have:s'=s:=by cases s;cases s';simp at h1 h2 ⊢;exact Array.toList_inj.1 (h2.trans h1.symm)
   subst this
   simp only [Instr.sameBits];exact (bytes_beq _ _).2 rfl
theorem zn1 {ks:List Kd} {key:D}:∀ {es:List ME} {i j:Nat} {x:D},zd1 ks key es i=some (some (j,x))→i≤j∧∃ e,es[j - i]?=some e∧e.v=x∧(if key.one=e.k.one then zg ks key.cells e.k.cells else none)=some true
 | [],i,j,x,h=>by simp [zd1] at h
 | e::es,i,j,x,h=>by
   simp only [zd1] at h
   split at h
   · rename_i hb
     simp at h
     obtain ⟨rfl,rfl⟩:=h
     exact ⟨Nat.le_refl _,e,by simp,rfl,hb⟩
   · obtain ⟨h1,e',h2,h3,h4⟩:=zn1 h
     refine ⟨by omega,e',?_,h3,h4⟩
     have:j - i=(j - (i+1))+1:=by omega
     rw [this];simpa using h2
   · cases h
theorem zn2 {kt:TypeId} {ks:List Kd} (hk:zph P kt=some ks) {key:D} {kv:Value} (hv:VRD S key kv) (hok:keyOk ks key=true) {es:List ME} {vs:Array MapEntry} (hent:∀ (j:Nat) (e:ME) (v:MapEntry),es[j]?=some e→vs[j]?=some v→zc9 S e v)
 (hsz:vs.size=es.length) {i:Nat} {x:D} (hf:zd1 ks key es 0=some (some (i,x))):∃ e v,es[i]?=some e∧e.v=x∧vs[i]?=some v∧zc9 S e v∧Instr.sameBits 10000 v.key kv=true:=by
 obtain ⟨_,e,he,hx,hc⟩:=zn1 hf
 simp at he
 obtain ⟨v,hvs⟩:=ziu hsz he
 have hent0:=hent i e v he hvs
 refine ⟨e,v,he,hx,hvs,hent0,?_⟩
 split at hc
 · rename_i h1
   by_cases hone:key.one=true
   · rw [D.cells_one hone,D.cells_one (h1▸hone)] at hc
     obtain ⟨kd,rfl⟩:=List.length_eq_one_iff.1 (by have:=(zbg hc).1;simpa using this.symm)
     simp only [zg] at hc
     split at hc
     · rename_i b hb
       simp at hc
       subst hc
       exact zjd hv hent0.1 hb
     · cases hc
   · have hag:∃ cs,key=.agg cs:=by
      cases key<;>simp [D.one] at hone
      exact ⟨_,rfl⟩
     obtain ⟨cs,rfl⟩:=hag
     have hag2:∃ cs',e.k=.agg cs':=by
      cases hek:e.k<;>simp [hek,D.one] at h1
      exact ⟨_,rfl⟩
     obtain ⟨cs',hcs'⟩:=hag2
     have hk2:=hent0.1
     rw [hcs'] at hk2 hc
     obtain ⟨us,rfl,hus,_⟩:=hv.agg_inv
     obtain ⟨us',hu',hus',_⟩:=hk2.agg_inv
     have heq:=zlr hus hus' hc
     have:us'=us:=Array.toList_inj.1 heq.symm
     rw [hu',this]
     simp only [keyOk,Bool.and_eq_true] at hok
     simp only [Instr.sameBits,beq_self_eq_true,Bool.true_and]
     exact zgz 9999 hus hok.2
 · cases hc
theorem zhj (h:Rel S ms ow base O ρ L σ G a w) {t kt e:TypeId} (ht:zme P t=some (kt,e)) {ks:List Kd} (hk:zph P kt=some ks) {m key x:D} {mv kv xv:Value} (hm:VRD S m mv) (hkv:VRD S key kv) (hxv:VRD S x xv) {r:AV} {G1:Gh} (hg:gdD (.mset ks) [m,key,x] G=some (r,G1)) :
 ∃ w',(Instr.mapUpdate t mv kv xv).run P w=.ok () w'∧r=.undef∧Rel S ms ow base O ρ L σ G1 a w'∧Evo base O S w S w':=by
 have hu:=ze3 ht
 obtain ⟨q,rfl⟩:∃ q,m=.mref q:=by cases m<;>first|exact ⟨_,rfl⟩|simp [gdD] at hg
 simp only [gdD] at hg
 split at hg
 · rename_i es cl hmp
   obtain ⟨q',e,hmq⟩:=zdw hmp
   cases e
   obtain ⟨vs,hvs,hsz,hent⟩:=h.h.x.map hmq
   have hmv:=zdf hm
   subst hmv
   have hget:(getObj q).run P w=.ok (.map vs cl) w:=MapKept.run_getObj_map hvs
   split at hg
   · rename_i i y hok hf
     cases hg
     obtain ⟨hck,_,hfk⟩:=zhi hk hkv hok w
     obtain ⟨r',hr',hf'⟩:=hfk es vs _ hsz hent hf
     obtain ⟨e0,v0,he0,_,hv0,hent0,hsame⟩:=zn2 hk hkv hok hent hsz hf
     rcases hf'.cases with ⟨e,_⟩|⟨i',x0,u0,e,rfl,hx⟩
     · cases e
     · cases e
       obtain ⟨hs2,he2⟩:=zg0 (i:=i) (f:=fun e=>⟨key,x,e.b⟩) (g:=fun e=>{ e with key:=kv,val:=xv }) hsz hent (fun e v hev=>⟨hkv,hxv,hev.2.2⟩)
       obtain ⟨k1,k2⟩:=h.setM hmq (o1:=.map (es.modify i fun e=>⟨key,x,e.b⟩) cl) (obj:=.map (vs.modify i fun e=>{ e with key:=kv,val:=xv }) cl) ⟨_,rfl,hs2,he2⟩
       refine ⟨_,?_,rfl,k1,k2⟩
       simp [Instr.mapUpdate,run_underlying hu,Result.andThen,hget,hck,hr',hv0,zn0 hsame,zcd _ hvs rfl]
   · rename_i hok hf
     cases hg
     obtain ⟨hck,_,hfk⟩:=zhi hk hkv hok w
     obtain ⟨r',hr',hf'⟩:=hfk es vs _ hsz hent hf
     rcases hf'.cases with ⟨_,rfl⟩|⟨i',x0,u0,e,_⟩
     · obtain ⟨hs2,he2⟩:=znz (e:=⟨key,x,cl⟩) (v:={ key:=kv,val:=xv,born:=cl }) hsz hent ⟨hkv,hxv,rfl⟩
       obtain ⟨k1,k2⟩:=h.setM hmq (o1:=.map (es++[⟨key,x,cl⟩]) (cl+1)) (obj:=.map (vs.push { key:=kv,val:=xv,born:=cl }) (cl+1)) ⟨_,rfl,hs2,he2⟩
       refine ⟨_,?_,rfl,k1,k2⟩
       simp [Instr.mapUpdate,run_underlying hu,Result.andThen,hget,hck,hr',zcd _ hvs rfl]
     · cases e
   · cases hg
 · cases hg
theorem zq4 (h:Rel S ms ow base O ρ L σ G a w) {t kt e ty:TypeId} (ht:zme P t=some (kt,e)) {ks:List Kd} (hk:zph P kt=some ks) {m key:D} {mv kv:Value} (hm:VRD S m mv) (hkv:VRD S key kv) {r:AV} {G1:Gh} (hg:gdD (.mdel ks) [m,key] G=some (r,G1)) (ts:List TypeId) :
 ∃ w',(Builtin.delete_ (⟨t::ts⟩:Array TypeId) ty #[mv,kv]).run P w=.ok (.tuple #[]) w'∧r=.tup []∧Rel S ms ow base O ρ L σ G1 a w'∧Evo base O S w S w':=by
 have hu:=ze3 ht
 have hts:(⟨t::ts⟩:Array TypeId)[0]?=some t:=rfl
 simp only [gdD] at hg
 split at hg
 · split at hg
   · rename_i hok
     cases hg
     have hmv:=zf8 hm
     subst hmv
     obtain ⟨hck,_,_⟩:=zhi hk hkv hok w
     exact ⟨w,by simp [Builtin.delete_,run_underlying hu,Result.andThen,hck],rfl,h,Evo.refl _ _ _ _⟩
   · cases hg
 · rename_i q
   split at hg
   · rename_i es cl hmp
     obtain ⟨q',e,hmq⟩:=zdw hmp
     cases e
     obtain ⟨vs,hvs,hsz,hent⟩:=h.h.x.map hmq
     have hmv:=zdf hm
     subst hmv
     have hget:(getObj q).run P w=.ok (.map vs cl) w:=MapKept.run_getObj_map hvs
     split at hg
     · rename_i i y hok hf
       cases hg
       obtain ⟨hck,_,hfk⟩:=zhi hk hkv hok w
       obtain ⟨r',hr',hf'⟩:=hfk es vs _ hsz hent hf
       rcases hf'.cases with ⟨e,_⟩|⟨i',x0,u0,e,rfl,hx⟩
       · cases e
       · cases e
         obtain ⟨hs2,he2⟩:=zq3 hsz hent i
         obtain ⟨k1,k2⟩:=h.setM hmq (o1:=.map (es.eraseIdx i) cl) (obj:=.map (vs.eraseIdxIfInBounds i) cl) ⟨_,rfl,hs2,he2⟩
         refine ⟨_,?_,rfl,k1,k2⟩
         simp [Builtin.delete_,run_underlying hu,Result.andThen,hget,hck,hr',zcd _ hvs rfl]
     · rename_i hok hf
       cases hg
       obtain ⟨hck,_,hfk⟩:=zhi hk hkv hok w
       obtain ⟨r',hr',hf'⟩:=hfk es vs _ hsz hent hf
       rcases hf'.cases with ⟨_,rfl⟩|⟨i',x0,u0,e,_⟩
       · obtain ⟨k1,k2⟩:=h.setM hmq (o1:=.map es cl) (obj:=.map vs cl) ⟨_,rfl,hsz,hent⟩
         refine ⟨_,?_,rfl,k1,k2⟩
         simp [Builtin.delete_,run_underlying hu,Result.andThen,hget,hck,hr',zcd _ hvs rfl]
       · cases e
     · cases hg
   · cases hg
 · cases hg
theorem zm2 (h:Rel S ms ow base O ρ L σ G a w) {t kt e:TypeId} (ht:zme P t=some (kt,e)) {ks:List Kd} (hk:zph P kt=some ks) {z:D} (hz:zD P e=some z) {m key:D} {mv kv:Value} (hm:VRD S m mv) (hkv:VRD S key kv) {r:AV} {G1:Gh} (hg:gdD (.ment ks z) [m,key] G=some (r,G1)) :
 ∃ v w',(Instr.mapEntry t mv kv).run P w=.ok v w'∧VR S (L::σ) ms r v∧(∀ sz es,r≠.own sz es)∧Rel S ms ow base O ρ L σ G1 a w'∧Evo base O S w S w':=by
 have hu:=ze3 ht
 obtain ⟨zv,hzr,hzv⟩:=z09 (S:=S) hz
 obtain ⟨q,rfl⟩:∃ q,m=.mref q:=by cases m<;>first|exact ⟨_,rfl⟩|simp [gdD] at hg
 simp only [gdD] at hg
 split at hg
 · rename_i es cl hmp
   obtain ⟨q',e,hmq⟩:=zdw hmp
   cases e
   obtain ⟨vs,hvs,hsz,hent⟩:=h.h.x.map hmq
   have hmv:=zdf hm
   subst hmv
   have hget:(getObj q).run P w=.ok (.map vs cl) w:=MapKept.run_getObj_map hvs
   split at hg
   · rename_i i y hok hf
     cases hg
     obtain ⟨hck,_,hfk⟩:=zhi hk hkv hok w
     obtain ⟨r',hr',hf'⟩:=hfk es vs _ hsz hent hf
     obtain ⟨e0,v0,he0,hy,hv0,hent0,hsame⟩:=zn2 hk hkv hok hent hsz hf
     rcases hf'.cases with ⟨e,_⟩|⟨i',x0,u0,e,rfl,hx⟩
     · cases e
     · cases e
       obtain ⟨hs2,he2⟩:=zg0 (i:=i) (f:=fun e=>⟨key,e.v,e.b⟩) (g:=fun e=>{ e with key:=kv }) hsz hent (fun e v hev=>⟨hkv,hev.2.1,hev.2.2⟩)
       obtain ⟨k1,k2⟩:=h.setM hmq (o1:=.map (es.modify i fun e=>⟨key,e.v,e.b⟩) cl) (obj:=.map (vs.modify i fun e=>{ e with key:=kv }) cl) ⟨_,rfl,hs2,he2⟩
       refine ⟨.tuple #[u0,goInt v0.born],_,?_,⟨_,rfl,zq1 hx ?_⟩,fun _ _ e=>(by cases e),k1,k2⟩
       · simp [Instr.mapEntry,run_underlying hu,Result.andThen,hget,hck,hr',hv0,zn0 hsame,zcd _ hvs rfl]
       · rw [he0];simp only [Option.map_some,Option.getD_some]
         rw [← hent0.2.2];exact VRD.int _ _
   · rename_i hok hf
     cases hg
     obtain ⟨hck,_,hfk⟩:=zhi hk hkv hok w
     obtain ⟨r',hr',hf'⟩:=hfk es vs _ hsz hent hf
     rcases hf'.cases with ⟨_,rfl⟩|⟨i',x0,u0,e,_⟩
     · obtain ⟨hs2,he2⟩:=znz (e:=⟨key,z,cl⟩) (v:={ key:=kv,val:=zv,born:=cl }) hsz hent ⟨hkv,hzv,rfl⟩
       obtain ⟨k1,k2⟩:=h.setM hmq (o1:=.map (es++[⟨key,z,cl⟩]) (cl+1)) (obj:=.map (vs.push { key:=kv,val:=zv,born:=cl }) (cl+1)) ⟨_,rfl,hs2,he2⟩
       refine ⟨.tuple #[zv,goInt cl],_,?_,⟨_,rfl,zq1 hzv (VRD.int _ _)⟩,fun _ _ e=>(by cases e),k1,k2⟩
       simp [Instr.mapEntry,run_underlying hu,Result.andThen,hget,hck,hr',hzr,zcd _ hvs rfl]
     · cases e
   · cases hg
 · cases hg
theorem zhk {n:Int}:∀ {es:List ME} {vs:List MapEntry},vs.length=es.length→(∀ (j:Nat) (e:ME) (v:MapEntry),es[j]?=some e→vs[j]?=some v→zc9 S e v)→vs.findIdx? (fun e=>(e.born:Int) == n)=es.findIdx? (fun e=>decide ((e.b:Int)=n))
 | [],[],_,_=>rfl
 | [],_::_,h,_=>by simp at h
 | _::_,[],h,_=>by simp at h
 | e::es,v::vs,hl,h=>by
   have h0:=(h 0 e v rfl rfl).2.2
   rw [List.findIdx?_cons,List.findIdx?_cons,zhk (by simpa using hl) (fun j e' v' a b=>h (j+1) e' v' (by simpa using a) (by simpa using b)),h0]
   have:((e.b:Int) == n)=decide ((e.b:Int)=n):=by rw [Bool.eq_iff_iff];simp
   rw [this]
theorem zkl (h:Rel S ms ow base O ρ L σ G a w) {t:TypeId} {m s x:D} {mv sv xv:Value} (hm:VRD S m mv) (hsv:VRD S s sv) (hxv:VRD S x xv) {r:AV} {G1:Gh} (hg:gdD .msto [m,s,x] G=some (r,G1)) :
 ∃ w',(Instr.entryStore t mv sv xv).run P w=.ok () w'∧r=.undef∧Rel S ms ow base O ρ L σ G1 a w'∧Evo base O S w S w':=by
 obtain ⟨q,rfl⟩:∃ q,m=.mref q:=by cases m<;>first|exact ⟨_,rfl⟩|simp [gdD] at hg
 obtain ⟨k,n,rfl⟩:∃ k n,s=.int k n:=by cases s<;>first|exact ⟨_,_,rfl⟩|simp [gdD] at hg
 simp only [gdD] at hg
 split at hg
 · rename_i es cl hmp
   obtain ⟨q',e,hmq⟩:=zdw hmp
   cases e
   obtain ⟨vs,hvs,hsz,hent⟩:=h.h.x.map hmq
   have hmv:=zdf hm
   subst hmv
   have hsv':=hsv.int_inv
   subst hsv'
   have hget:(getObj q).run P w=.ok (.map vs cl) w:=MapKept.run_getObj_map hvs
   split at hg
   · rename_i i hi
     cases hg
     obtain ⟨hs2,he2⟩:=zg0 (i:=i) (f:=fun e=>⟨e.k,x,e.b⟩) (g:=fun e=>{ e with val:=xv }) hsz hent (fun e v hev=>⟨hev.1,hxv,hev.2.2⟩)
     obtain ⟨k1,k2⟩:=h.setM hmq (o1:=.map (es.modify i fun e=>⟨e.k,x,e.b⟩) cl) (obj:=.map (vs.modify i fun e=>{ e with val:=xv }) cl) ⟨_,rfl,hs2,he2⟩
     refine ⟨_,?_,rfl,k1,k2⟩
     have hfi:vs.findIdx? (fun e=>(e.born:Int) == n)=some i:=by
      rw [show vs.findIdx? (fun e=>(e.born:Int) == n)=vs.toList.findIdx? (fun e=>(e.born:Int) == n) from by cases vs;simp,zhk (by simpa using hsz) (fun j e v a b=>hent j e v a (by simpa using b)),hi]
     simp [Instr.entryStore,Result.andThen,hget,asInt,asIntOf,hfi,zcd _ hvs rfl]
   · cases hg
 · cases hg
end
end Go.E2
