/-
 Operations on maps,and those that lay new blocks: what the evaluator says of them,the machine does.
 Conditions: none;laws.
-/
import Derived.Test.YtlejjdbmmdghmaaEO7
import Derived.MapKept
import Derived.WideKeyRuns
import Derived.RangeFuncRecord
import Derived.Maps.RangeRun
import Derived.Laws.MakeOwn
namespace Go.E2
open Go.MapKept
section
variable {S:Stb} {ms:List (Nat→Nat)} {ow:Nat→Option Nat} {base:Nat} {O:Nat→Prop} {ρ:Env} {L:Hp} {σ:List Hp} {G:Gh} {a:Act} {w:World} {c:Ctx} {o:Oper}
theorem zeo.heap {b:Nat} {cs:List D} (h:zeo S w b cs):∃ vs e,w.heap[b]?=some (.cells vs e (0,0)):=by
 obtain ⟨vs,e,h1,_⟩:=h;exact ⟨vs,e,h1⟩
theorem Rel.worldM [DD] (h:Rel S ms ow base O ρ L σ G a w) {G':Gh} {w':World} (hc:G'.c=G.c) (hx:zmh S G' w') (hsz:w.heap.size≤w'.heap.size)
 (hw:∀ (b:Nat) (o:Obj),w.heap[b]?=some o→isM o=false→w'.heap[b]?=some o) (hm:∀ b o,G'.m b=some o→b<base→O b):Rel S ms ow base O ρ L σ G' a w':=by
 have keepB:∀ {b cs},zeo S w b cs→w'.heap[b]?=w.heap[b]?:=fun hb=>by
  obtain ⟨vs,e,h1⟩:=hb.heap
  rw [h1,hw _ _ h1 rfl]
 have at_:∀ {b cs},G' b=some cs→G b=some cs:=fun {b cs} hb=>by rw [hc] at hb;exact hb
 refine { h:=⟨fun ad v hs=>?_,h.h.len,fun hl=>(h.h.box hl).mono (Sub.refl S) (keepB (h.h.box hl)),h.h.nos,h.h.inj,fun hb=>(h.h.gbox (at_ hb)).mono (Sub.refl S) (keepB (h.h.gbox (at_ hb))),fun hb=>h.h.gnos (at_ hb),fun hb=>h.h.gnl (at_ hb),hx,h.h.tab⟩,
          tmp:=h.tmp,own:=fun {i sz es} hi=>?_,ownI:=h.ownI,ownB:=fun {i sz es g} hi gi=>⟨(h.ownB hi gi).1,by rw [hc];exact (h.ownB hi gi).2.1,(h.ownB hi gi).2.2⟩,new:=h.new,old:=h.old,gold:=fun hb=>h.gold (at_ hb),mold:=fun hb=>hm _ _ hb,
          dfs:=h.dfs.keep fun r _ hr=>hw r _ hr rfl,bas:=Nat.le_trans h.bas hsz }
 · have h1:=h.h.sub _ _ hs
   unfold World.cell? at h1 ⊢
   split at h1
   · rename_i c0 e0 f0 e1
     rw [hw _ _ e1 rfl]
     exact h1
   · cases h1
 · have ho:=h.own hi
   refine ho.mono (Sub.refl S) (fun g hg=>?_) (fun _ _ _ _=>rfl)
   rw [hg] at ho
   obtain ⟨cap,cur,e,_,⟨_,h2,_⟩,_⟩:=ho
   rw [h2,hw _ _ h2 rfl]
theorem zbr {r:Nat} {obj:Obj} (hr:r<w.heap.size) (b:Nat):(w.putObj r obj).heap[b]?=if b=r then some obj else w.heap[b]?:=by
 by_cases h:b=r
 · subst h;rw [if_pos rfl];exact World.putObj_heap_same hr
 · rw [if_neg h];exact World.putObj_heap_other h
theorem Rel.setM [DD] (h:Rel S ms ow base O ρ L σ G a w) {r:Nat} {o0 o1:MO} {obj:Obj} (hr:G.m r=some o0) (hk:MOk S (some obj) o1) :
 Rel S ms ow base O ρ L σ (G.setM r (some o1)) a (w.putObj r obj)∧Evo base O S w S (w.putObj r obj):=by
 have hlt:=h.h.x.lt hr
 obtain ⟨x0,hx0,hi0⟩:=h.h.x.get hr
 refine ⟨h.worldM rfl (fun b o hb=>?_) (by simp) (fun b o hb ho=>?_) (fun b o hb hlb=>?_),⟨by simp,fun b hb hn=>?_,fun _ _=>rfl,Sub.refl S,rfl,rfl,rfl⟩⟩
 · rw [zbr hlt]
   simp only [Gh.setM_m,upd] at hb
   split at hb
   · rename_i e;subst e;cases hb;rw [if_pos rfl];exact hk
   · rename_i e;rw [if_neg e];exact h.h.x b o hb
 · rw [zbr hlt,if_neg]
   · exact hb
   · rintro rfl;rw [hx0] at hb;cases hb;rw [hi0] at ho;cases ho
 · simp only [Gh.setM_m,upd] at hb
   split at hb
   · rename_i e;subst e;exact h.mold hr hlb
   · exact h.mold hb hlb
 · rw [zbr hlt,if_neg]
   rintro rfl
   exact hn (h.mold hr hb)
theorem Rel.m_none [DD] (h:Rel S ms ow base O ρ L σ G a w):G.m w.heap.size=none:=by
 cases hg:G.m w.heap.size with
 | none=>rfl
 | some c=>have:=h.h.x.lt hg;omega
theorem Rel.newM [DD] (h:Rel S ms ow base O ρ L σ G a w) {o1:MO} {obj:Obj} (hk:MOk S (some obj) o1) :
 Rel S ms ow base O ρ L σ (G.setM w.heap.size (some o1)) a (w.alloc obj)∧Evo base O S w S (w.alloc obj):=by
 refine ⟨h.worldM rfl (fun b o hb=>?_) (by rw [za3];omega) (fun b o hb _=>?_) (fun b o hb hlb=>?_),Evo.alloc h.bas _⟩
 · simp only [Gh.setM_m,upd] at hb
   split at hb
   · rename_i e;subst e;cases hb;rw [zab];exact hk
   · rw [zq (h.h.x.lt hb)];exact h.h.x b o hb
 · rw [zq (Array.getElem?_eq_some_iff.1 hb).1];exact hb
 · simp only [Gh.setM_m,upd] at hb
   split at hb
   · rename_i e;subst e;exact absurd h.bas (by omega)
   · exact h.mold hb hlb
theorem zcw.drawn {lv:List Hp} (h:zcw S ms lv G w) (d:Nat):zcw S ms lv G { w with drawn:=d }:=⟨h.sub,h.len,h.box,h.nos,h.inj,h.gbox,h.gnos,h.gnl,h.x,h.tab⟩
theorem Rel.drawn [DD] (h:Rel S ms ow base O ρ L σ G a w) (d:Nat):Rel S ms ow base O ρ L σ G a { w with drawn:=d } :=
 { h:=h.h.drawn d,tmp:=h.tmp,own:=fun {i sz es} hi=>by
     have:=h.own hi
     cases ho:ow i with
     | none=>rw [ho] at this;exact this
     | some g=>rw [ho] at this;exact this
   ownI:=h.ownI,ownB:=h.ownB,new:=h.new,old:=h.old,gold:=h.gold,mold:=h.mold,dfs:=h.dfs,bas:=h.bas }
theorem Evo.drawn (d:Nat) {S':Stb} {w':World} (h:Evo base O S { w with drawn:=d } S' w'):Evo base O S w S' w' :=
 ⟨h.sz,h.keep,h.st,h.sub,h.os,h.tape,h.out⟩
theorem zc9.mk' [DD] {P:Program} {G':Gh} {r:AV} {v:Value} {w':World} (h:Rel S ms ow base O ρ L σ G a w) (hd:∀ i,o.dst=some i→i<a.tmps.size) (hrun:(execOp a.eval o).run P w=.ok (.value v) w'∨((execOp a.eval o).run P w=.ok .skip w'∧v=undef))
 (hrel:Rel S ms ow base O ρ L σ G' a w') (hevo:Evo base O S w S w') (hv:VR S (L::σ) ms r v) (hno:∀ sz es,r≠.own sz es):zc9 P S ms ow base O σ a w o (put ρ o.dst r,L,σ,G'):=by
 obtain ⟨m,hm⟩:=za8 h
 exact ⟨v,w',S,m,ow,hrun,by rw [← hm];exact hrel.put hv hno hd,hevo,zah.refl _⟩
theorem zn {x:AO} {xs:List AO} {vs:List D} (h:zx ρ (x::xs)=some vs):∃ d ds,vs=d::ds∧(ev ρ x).data=some d∧zx ρ xs=some ds:=by
 simp only [zx] at h
 split at h
 · rename_i d ds h1 h2;cases h;exact ⟨d,ds,rfl,h1,h2⟩
 · cases h
theorem zad {vs:List D} (h:zx ρ []=some vs):vs=[]:=by simp [zx] at h;exact h
theorem zat (ht:zfc S (L::σ) ms ρ a) {p:Operand} {x:AO} (hx:cO p=some x) {d:D} (hd:(ev ρ x).data=some d):VRD S d (a.eval p):=(za ht hx).data hd
theorem zpp {kd:Kd} {d:TypeDesc} (hd:(d=.bool∧kd=.b)∨(∃ k,d=.int k∧kd=.i)∨(d=.string∧kd=.s)) {x y:D} {u v:Value} (hx:VRD S x u) (hy:VRD S y v) {r:Bool} (h:zb0 kd x y=some r):Instr.sameNow d u v=some r:=by
 rcases hd with ⟨rfl,rfl⟩|⟨k,rfl,rfl⟩|⟨rfl,rfl⟩
 · cases x<;>cases y<;>simp [zb0] at h
   rw [hx.bool_inv,hy.bool_inv];simp [Instr.sameNow,h]
 · cases x<;>cases y<;>simp [zb0] at h
   rw [hx.int_inv,hy.int_inv];simp [Instr.sameNow,h]
 · cases x<;>cases y<;>simp [zb0] at h
   obtain ⟨s,rfl,rfl⟩:=hx.str_inv
   obtain ⟨s',rfl,rfl⟩:=hy.str_inv
   simp only [Instr.sameNow,Option.some.injEq]
   rw [← h]
   by_cases e:s=s'
   · subst e;rw [(bytes_beq s s).2 rfl];simp
   · have h1:(s == s')=false:=Bool.eq_false_iff.2 fun e2=>e ((bytes_beq _ _).1 e2)
     have h2:s.data.toList≠s'.data.toList:=fun e2=>e (by cases s;cases s';simp at e2 ⊢;exact e2)
     rw [h1];simpa using h2
def zn0 (S:Stb):Option (Nat×D)→Option (Nat×Value)→Prop
 | none,none=>True
 | some (i,x),some (j,u)=>i=j∧VRD S x u
 | _,_=>False
theorem zln {kd:Kd} {d:TypeDesc} (hd:(d=.bool∧kd=.b)∨(∃ k,d=.int k∧kd=.i)∨(d=.string∧kd=.s)) {key:D} {kv:Value} (hv:VRD S key kv) (h1:key.one=true) :
 ∀ (es:List ME) (vs:List MapEntry) (i:Nat) (r:Option (Nat×D)),vs.length=es.length→(∀ (j:Nat) (e:ME) (v:MapEntry),es[j]?=some e→vs[j]?=some v→zdm S e v)→zeq [kd] key es i=some r →
   ∃ r',Instr.findNow d kv vs i=some r'∧zn0 S r r'
 | [],[],i,r,_,_,h=>by simp [zeq] at h;subst h;exact ⟨none,rfl,trivial⟩
 | [],_::_,i,r,hl,_,_=>by simp at hl
 | _::_,[],i,r,hl,_,_=>by simp at hl
 | e::es,v::vs,i,r,hl,he,h=>by
   have h0:=he 0 e v rfl rfl
   simp only [zeq] at h
   rw [D.cells_one h1] at h
   have key1:∀ {b},(if key.one=e.k.one then zk [kd] [key] e.k.cells else none)=some b→Instr.sameNow d kv v.key=some b:=by
    intro b hb
    split at hb
    · rename_i e1
      rw [D.cells_one (e1▸h1)] at hb
      simp only [zk] at hb
      split at hb
      · rename_i r1 hr1
        simp at hb
        subst hb
        exact zpp hd hv h0.1 hr1
      · cases hb
    · cases hb
   split at h
   · rename_i hb
     cases h
     exact ⟨some (i,v.val),by simp [Instr.findNow,key1 hb],rfl,h0.2.1⟩
   · rename_i hb
     obtain ⟨r',hr',hf⟩:=zln hd hv h1 es vs (i+1) r (by simpa using hl) (fun j e' v' a b=>he (j+1) e' v' (by simpa using a) (by simpa using b)) h
     exact ⟨r',by simp [Instr.findNow,key1 hb,hr'],hf⟩
   · cases h
theorem zxz {kd:Kd} {x y:D} {u v:Value} (hx:VRD S x u) (hy:VRD S y v) (h:zb0 kd x y=some true):u=v:=by
 cases kd<;>cases x<;>cases y<;>simp [zb0] at h
 · subst h;rw [hx.bool_inv,hy.bool_inv]
 · obtain ⟨rfl,rfl⟩:=h;rw [hx.int_inv,hy.int_inv]
 · subst h
   obtain ⟨s,rfl,h1⟩:=hx.str_inv
   obtain ⟨s',rfl,h2⟩:=hy.str_inv
   have:s'=s:=by cases s;cases s';simp at h1 h2 ⊢;exact Array.toList_inj.1 (h2.trans h1.symm)
   rw [this]
theorem zz.cons_inv' {x:D} {xs:List D} {us:List Value} (h:zz S (x::xs) us):∃ u us',us=u::us'∧VRD S x u∧zz S xs us':=by
 cases us with
 | nil=>have:=h.1;simp at this
 | cons u us=>exact ⟨u,us,rfl,h.2 0 x u rfl rfl,by have:=h.1;simpa using this,fun j y v a b=>h.2 (j+1) y v (by simpa using a) (by simpa using b)⟩
theorem zn1:∀ {ks:List Kd} {xs ys:List D} {us vs:List Value},zz S xs us→zz S ys vs→zk ks xs ys=some true→us=vs
 | [],[],[],us,vs,hx,hy,_=>by
   have h1:=hx.1;have h2:=hy.1
   simp at h1 h2;rw [h1,h2]
 | k::ks,x::xs,y::ys,us,vs,hx,hy,h=>by
   simp only [zk] at h
   split at h
   · rename_i b hb
     split at h
     · rename_i c hc
       simp at h
       obtain ⟨rfl,rfl⟩:=h
       obtain ⟨u,us,rfl,hu,hus⟩:=hx.cons_inv'
       obtain ⟨v,vs,rfl,hv,hvs⟩:=hy.cons_inv'
       rw [zxz hu hv hb,zn1 hus hvs hc]
     · cases h
   · cases h
 | [],_::_,_,_,_,_,_,h=>by simp [zk] at h
 | [],[],_::_,_,_,_,_,h=>by simp [zk] at h
 | _::_,[],_,_,_,_,_,h=>by simp [zk] at h
 | _::_,_::_,[],_,_,_,_,h=>by simp [zk] at h
theorem zuw {kd:Kd} {x:D} {u:Value} (hx:VRD S x u) (h:(zb0 kd x x).isSome=true) (n:Nat):Instr.sameBits n u u=true:=by
 cases kd<;>cases x<;>simp [zb0] at h
 · rw [hx.bool_inv];cases n<;>simp [Instr.sameBits]
 · rw [hx.int_inv];cases n<;>simp [Instr.sameBits]
 · obtain ⟨s,rfl,_⟩:=hx.str_inv
   cases n<;>(simp only [Instr.sameBits];exact (bytes_beq s s).2 rfl)
theorem zh1 (n:Nat):∀ {ks:List Kd} {xs:List D} {us:List Value},zz S xs us→(zk ks xs xs).isSome=true→((us.zip us).all fun (x,y)=>Instr.sameBits n x y)=true
 | [],[],us,hx,_=>by have h1:=hx.1;simp at h1;rw [h1];rfl
 | k::ks,x::xs,us,hx,h=>by
   obtain ⟨u,us,rfl,hu,hus⟩:=hx.cons_inv'
   have h1:(zb0 k x x).isSome=true:=by
    simp only [zk] at h
    split at h
    · rename_i b hb;rw [hb];rfl
    · cases h
   have h2:(zk ks xs xs).isSome=true:=by
    simp only [zk] at h
    split at h
    · split at h
      · rename_i c hc;rw [hc];rfl
      · cases h
    · cases h
   have:=zh1 n hus h2
   simp only [List.zip_cons_cons,List.all_cons,zuw hu h1 n,Bool.true_and]
   exact this
 | [],_::_,_,_,h=>by simp [zk] at h
 | _::_,[],_,_,h=>by simp [zk] at h
theorem zj4 {P:Program} {w:World} {em:Bool} {d:Nat} {rec:TypeId→Option (List Kd)} (hag:∀ t ks,rec t=some ks→∃ g,zgu P t=some g∧(g=false→ks.length=1)) {X:List D} {us:Array Value} (hX:zz S X us.toList) :
 ∀ (L:List Field) (off:Nat) (ks:List Kd) (r:Bool),zfg P rec L off=some ks→(L.all fun f=>zn9 P f.type)=true→zk ks (X.drop off) (X.drop off)=some r →
   ∀ f ∈ L, f.name ≠ "_" ∧ ∃ a, (Go.part f.type us f.offset).run P w = .ok a w ∧ (Instr.checkKey em (d + 1) f.type a).run P w = .ok () w
 | [],off,ks,r,h,hb,hr,f,hf=>by cases hf
 | f::L,off,ks,r,h,hb,hr,g,hg=>by
   simp only [zfg] at h
   simp only [List.all_cons,Bool.and_eq_true] at hb
   split at h
   · rename_i hn
     split at h
     · rename_i ks1 hks1
       split at h
       · rename_i hsz
         split at h
         · rename_i ks2 hks2
           cases h
           obtain ⟨r1,r2,h1,h2,_⟩:=zcv hr
           rcases List.mem_cons.1 hg with rfl|hg
           · refine ⟨hn.1,?_⟩
             obtain ⟨gg,hgg,hgg1⟩:=hag _ _ hks1
             obtain ⟨q,hq,_⟩:=zmb (w:=w) hgg hgg1 hsz hX (off:=off) (zbq h1).1
             refine ⟨q,by rw [hn.2];exact hq,?_⟩
             have hbt:=hb.1
             unfold zn9 at hbt
             cases hu:P.underlying g.type with
             | none=>simp [hu] at hbt
             | some dd =>
              cases dd<;>simp [hu] at hbt<;>simp [Instr.checkKey,run_underlying hu,Result.andThen]<;>(split<;>simp_all)
           · exact zj4 hag hX L (off+ks1.length) ks2 r2 hks2 hb.2 (by simpa [List.drop_drop] using h2) g hg
         · cases h
       · cases h
     · cases h
   · cases h
theorem zn2 {P:Program} {w:World} {kt:TypeId} {fs:Array Field} (hu:P.underlying kt=some (.struct fs)) {ks:List Kd} (hk:zcf P 8 kt=some ks) (hb:(fs.toList.all fun f=>zn9 P f.type)=true) {X:List D} {us:Array Value} (hX:zz S X us.toList) {r:Bool} (hr:zk ks X X=some r) (em:Bool) (n:Nat) :
 (Instr.checkKey em (n+2) kt (.agg us)).run P w=.ok () w:=by
 have hf:zfg P (zcf P 7) fs.toList 0=some ks:=by
  change zcf P (7+1) kt=some ks at hk
  rw [zcf,hu] at hk
  simp only at hk
  split at hk
  · cases hk
  · exact hk
 have each:=zj4 (w:=w) (em:=em) (d:=n) (zh0 7) hX fs.toList 0 ks r hf hb (by simpa using hr)
 rw [show n+2=(n+1)+1 from rfl,Instr.checkKey]
 simp only [Sem.run_bind,run_underlying hu,Result.andThen_ok]
 rw [← Array.forIn_toList]
 clear hf hb hk hu
 generalize fs.toList=L at each
 induction L with
 | nil=>simp
 | cons f L ih =>
  obtain ⟨hn,a,p1,p2⟩:=each f (by simp)
  simp only [List.forIn_cons,Sem.run_bind,hn,ne_eq,not_false_eq_true,if_true,Result.andThen_ok,p1,p2,Sem.run_pure]
  exact ih (fun y hy=>each y (by simp [hy]))
theorem zg9 {P:Program} {w:World} {kt:TypeId} {ks:List Kd} (hk:zcf P 8 kt=some ks) (hagg:zgu P kt=some true) {cs:List D} {us:Array Value} (hus:zz S cs us.toList) :
 ∀ (es:List ME) (vs:List MapEntry) (i:Nat) (r:Option (Nat×D)),vs.length=es.length→(∀ (j:Nat) (e:ME) (v:MapEntry),es[j]?=some e→vs[j]?=some v→zdm S e v)→zeq ks (.agg cs) es i=some r →
   ∃ r',(Instr.findAsking kt (.agg us) vs i).run P w=.ok r' w∧zn0 S r r'
 | [],[],i,r,_,_,h=>by simp [zeq] at h;subst h;exact ⟨none,by simp [Instr.findAsking],trivial⟩
 | [],_::_,i,r,hl,_,_=>by simp at hl
 | _::_,[],i,r,hl,_,_=>by simp at hl
 | e::es,v::vs,i,r,hl,he,h=>by
   have h0:=he 0 e v rfl rfl
   simp only [zeq] at h
   have key1:∀ {b},(if (D.agg cs).one=e.k.one then zk ks (D.agg cs).cells e.k.cells else none)=some b→(Op.equal kt (.agg us) v.key).run P w=.ok b w:=by
    intro b hb
    split at hb
    · rename_i e1
      have e2:∃ cs',e.k=.agg cs':=by
       cases hek:e.k<;>simp [hek,D.one] at e1
       exact ⟨_,rfl⟩
      obtain ⟨cs',hcs'⟩:=e2
      rw [hcs'] at hb
      have h1:=h0.1
      rw [hcs'] at h1
      obtain ⟨vs',hv',hvs',_⟩:=h1.agg_inv
      rw [hv']
      exact zi5 (w:=w) 8 9992 kt ks cs cs' _ _ b hk (.inl ⟨hagg,us,vs',rfl,rfl,hus,hvs'⟩) hb
    · cases hb
   split at h
   · rename_i hb
     cases h
     exact ⟨some (i,v.val),by rw [Instr.findAsking,Sem.run_bind,key1 hb];rfl,rfl,h0.2.1⟩
   · rename_i hb
     obtain ⟨r',hr',hf⟩:=zg9 hk hagg hus es vs (i+1) r (by simpa using hl) (fun j e' v' a b=>he (j+1) e' v' (by simpa using a) (by simpa using b)) h
     exact ⟨r',by rw [Instr.findAsking,Sem.run_bind,key1 hb];exact hr',hf⟩
   · cases h
theorem zin {P:Program} {kt:TypeId} {ks:List Kd} (hk:ztl P kt=some ks) {key:D} {kv:Value} (hv:VRD S key kv) (hok:keyOk ks key=true) (w:World) :
 (∀ em,(Instr.checkKey em 10000 kt kv).run P w=.ok () w) ∧
 (∀ n,Instr.sameBits (n+1) kv kv=true) ∧
 ∀ (es:List ME) (vs:Array MapEntry) (r:Option (Nat×D)),vs.size=es.length→(∀ (j:Nat) (e:ME) (v:MapEntry),es[j]?=some e→vs[j]?=some v→zdm S e v)→zeq ks key es 0=some r →
   ∃ r',(Instr.findKey kt kv vs.toList).run P w=.ok r' w∧zn0 S r r':=by
 have hcase:(∃ d kd,P.underlying kt=some d∧ks=[kd]∧((d=.bool∧kd=.b)∨(∃ k,d=.int k∧kd=.i)∨(d=.string∧kd=.s)))∨∃ fs,P.underlying kt=some (.struct fs)∧(fs.toList.all fun f=>zn9 P f.type)=true∧zcf P 8 kt=some ks∧¬ ks.length=1:=by
  unfold ztl at hk
  split at hk
  · rename_i hu;cases hk;exact .inl ⟨_,_,hu,rfl,.inl ⟨rfl,rfl⟩⟩
  · rename_i hu;cases hk;exact .inl ⟨_,_,hu,rfl,.inr (.inl ⟨_,rfl,rfl⟩)⟩
  · rename_i hu;cases hk;exact .inl ⟨_,_,hu,rfl,.inr (.inr ⟨rfl,rfl⟩)⟩
  · rename_i fs hu
    split at hk
    · rename_i ks' hks'
      split at hk
      · rename_i hb
        cases hk
        simp only [Bool.and_eq_true,bne_iff_ne,ne_eq] at hb
        exact .inr ⟨fs,hu,hb.1,hks',hb.2⟩
      · cases hk
    · cases hk
  · cases hk
 rcases hcase with hcase|⟨fs,hu,hb,hpk,hl1⟩
 rotate_left
 · have hagg:zgu P kt=some true:=by simp [zgu,hu,zky]
   have hag:∃ cs,key=.agg cs:=by
    by_cases h1:key.one=true
    · exfalso
      rw [keyOk,D.cells_one h1] at hok
      simp only [Bool.and_eq_true] at hok
      obtain ⟨r,hr⟩:=Option.isSome_iff_exists.1 hok.2
      have:=(zbq hr).1
      simp at this
      exact hl1 this.symm
    · cases key<;>simp [D.one] at h1
      exact ⟨_,rfl⟩
   obtain ⟨cs,rfl⟩:=hag
   obtain ⟨us,rfl,hus,_⟩:=hv.agg_inv
   simp only [keyOk,Bool.and_eq_true] at hok
   obtain ⟨r0,hr0⟩:=Option.isSome_iff_exists.1 hok.2
   refine ⟨fun em=>zn2 hu hpk hb hus hr0 em 9998,fun n=>?_,fun es vs r hl he hf=>?_⟩
   · simp only [Instr.sameBits,beq_self_eq_true,Bool.true_and]
     exact zh1 n hus hok.2
   · obtain ⟨r',hr',hfo⟩:=zg9 (w:=w) hpk hagg hus es vs.toList 0 r (by simpa using hl) (fun j e v a b=>he j e v a (by simpa using b)) hf
     exact ⟨r',by rw [run_findKey_eq w (by rw [hu])];exact hr',hfo⟩
 obtain ⟨d,kd,hu,rfl,hd⟩:=hcase
 simp only [keyOk,List.length_singleton,bne_self_eq_false,Bool.or_false,Bool.and_eq_true] at hok
 obtain ⟨h1,h2⟩:=hok
 rw [D.cells_one h1] at h2
 have hshape:(∀ em n,(Instr.checkKey em (n+1) kt kv).run P w=.ok () w)∧∀ n,Instr.sameBits (n+1) kv kv=true:=by
  rcases hd with ⟨rfl,rfl⟩|⟨k,rfl,rfl⟩|⟨rfl,rfl⟩
  · cases key<;>simp [zk,zb0] at h2
    rw [hv.bool_inv];exact ⟨fun em n=>by simp [Instr.checkKey,run_underlying hu,Result.andThen],fun n=>by simp [Instr.sameBits]⟩
  · cases key<;>simp [zk,zb0] at h2
    rw [hv.int_inv];exact ⟨fun em n=>by simp [Instr.checkKey,run_underlying hu,Result.andThen],fun n=>by simp [Instr.sameBits]⟩
  · cases key<;>simp [zk,zb0] at h2
    obtain ⟨s,rfl,_⟩:=hv.str_inv
    exact ⟨fun em n=>by simp [Instr.checkKey,run_underlying hu,Result.andThen],fun n=>by simp only [Instr.sameBits];exact (bytes_beq s s).2 rfl⟩
 refine ⟨fun em=>hshape.1 em 9999,hshape.2,fun es vs r hl he hf=>?_⟩
 obtain ⟨r',hr',hfo⟩:=zln hd hv h1 es vs.toList 0 r (by simpa using hl) (fun j e v a b=>he j e v a (by simpa using b)) hf
 exact ⟨r',run_findKey hu hr',hfo⟩
end
end Go.E2
namespace Go.E2
open Go.MapKept
section
variable {S:Stb} {ms:List (Nat→Nat)} {ow:Nat→Option Nat} {base:Nat} {O:Nat→Prop} {ρ:Env} {L:Hp} {σ:List Hp} {G:Gh} {a:Act} {w:World} {c:Ctx} {P:Program}
theorem z5g {e:TypeId} {z:D} (h:zD P e=some z):∃ zv:Value,(∀ w,(zeroValue e).run P w=.ok zv w)∧VRD S z zv:=by
 unfold zD at h
 split at h
 · rename_i i hi
   have run:∀ zv,i.zero=some zv→∀ w,(zeroValue e).run P w=.ok zv w:=fun zv hz w=>by
    simp [zeroValue,typeInfo,hi,hz]
   split at h
   · rename_i cs hz
     simp only [Option.map_eq_some_iff] at h
     obtain ⟨xs,hx,rfl⟩:=h
     obtain ⟨h1,h2⟩:=zje (S:=S) hx
     exact ⟨_,run _ hz,by simpa using VRD.agg_mk h1 h2⟩
   · rename_i v _ hz
     exact ⟨v,run _ hz,zo5 h⟩
   · cases h
 · cases h
theorem zfw {t k e:TypeId} (h:zpw P t=some (k,e)):P.underlying t=some (.map k e):=by
 unfold zpw at h
 split at h
 · rename_i k' e' hu;cases h;exact hu
 · cases h
theorem zdu {r:Nat} {v:Value} (h:VRD S (.mref r) v):v=.map (some r):=by cases h;rfl
theorem zha {v:Value} (h:VRD S .nilM v):v=.map none:=by cases h;rfl
theorem zd8 {m:D} {es:List ME} {clock:Nat} (h:zfd G m=some (es,clock)):∃ r,m=.mref r∧G.m r=some (.map es clock):=by
 unfold zfd at h
 split at h
 · rename_i r
   split at h
   · rename_i es' c' hm;cases h;exact ⟨r,rfl,hm⟩
   · cases h
 · cases h
theorem zmh.map (h:zmh S G w) {r clock:Nat} {es:List ME} (hm:G.m r=some (.map es clock)):∃ vs:Array MapEntry,w.heap[r]?=some (.map vs clock)∧vs.size=es.length∧∀ (j:Nat) (e:ME) (v:MapEntry),es[j]?=some e→vs[j]?=some v→zdm S e v:=h r _ hm
theorem zcr {r:Nat} {x:Obj} (o:Obj) (h:w.heap[r]?=some x) (hi:isM x=true):(setObj r o).run P w=.ok () (w.putObj r o):=by
 cases x<;>first|(cases hi;done)|simp [setObj,Sem.run,h,World.putObj]
theorem zn0.cases {r:Option (Nat×D)} {r':Option (Nat×Value)} (h:zn0 S r r'):(r=none∧r'=none)∨∃ i x u,r=some (i,x)∧r'=some (i,u)∧VRD S x u:=by
 cases r with
 | none=>cases r' with
   | none=>exact .inl ⟨rfl,rfl⟩
   | some p=>exact h.elim
 | some p =>
  cases r' with
  | none=>exact h.elim
  | some q=>obtain ⟨h1,h2⟩:=h;exact .inr ⟨p.1,p.2,q.2,rfl,by rw [h1],h2⟩
theorem zux {x y:D} {u v:Value} (hx:VRD S x u) (hy:VRD S y v):zz S [x,y] [u,v]:=zz.cons hx (zz.cons hy zz.nil)
theorem zuy (h:zmh S G w) {t kt e:TypeId} (ht:zpw P t=some (kt,e)) {ks:List Kd} (hk:ztl P kt=some ks) {z:D} (hz:zD P e=some z) {ok:Bool} {m key:D} {mv kv:Value} (hm:VRD S m mv) (hkv:VRD S key kv) {r:AV} {G1:Gh} (hg:gdD (.mlook ks z ok) [m,key] G=some (r,G1)) :
 G1=G∧∃ v,(Instr.lookup t mv kv ok).run P w=.ok v w∧VR S (L::σ) ms r v∧∀ sz es,r≠.own sz es:=by
 have hu:=zfw ht
 obtain ⟨zv,hzr,hzv⟩:=z5g (S:=S) hz
 have out:∀ (x:D) (u:Value) (b:Bool),VRD S x u→VR S (L::σ) ms (if ok then .tup [x,.bool b] else .d x) (if ok then .tuple #[u,.bool b] else u)∧∀ sz es,(if ok then (AV.tup [x,.bool b]) else .d x)≠.own sz es:=by
  intro x u b hx
  cases ok with
  | true=>exact ⟨⟨_,rfl,zux hx (VRD.bool b)⟩,fun _ _ e=>by cases e⟩
  | false=>exact ⟨hx,fun _ _ e=>by cases e⟩
 simp only [gdD] at hg
 split at hg
 · rename_i hok
   obtain ⟨hck,_,hfk⟩:=zin hk hkv hok w
   split at hg
   · cases hg
     have hmv:=zha hm
     subst hmv
     obtain ⟨r',hr',hf⟩:=hfk [] #[] none rfl (fun j e v h=>by simp at h) rfl
     have:r'=none:=by cases r' with|none=>rfl|some p=>exact hf.elim
     subst this
     refine ⟨rfl,_,?_,out z zv false hzv⟩
     have hr2:(Instr.findKey kt kv []).run P w=.ok none w:=hr'
     cases ok<;>simp [Instr.lookup,run_underlying hu,Result.andThen,hck,hr2,hzr]
   · split at hg
     · rename_i es cl hmp
       obtain ⟨q,rfl,hmq⟩:=zd8 hmp
       obtain ⟨vs,hvs,hsz,hent⟩:=h.map hmq
       have hmv:=zdu hm
       subst hmv
       have hget:(getObj q).run P w=.ok (.map vs cl) w:=MapKept.run_getObj_map hvs
       split at hg
       · rename_i i x hf
         cases hg
         obtain ⟨r',hr',hf'⟩:=hfk es vs _ hsz hent hf
         rcases hf'.cases with ⟨e,_⟩|⟨i,x,u,e,rfl,hx⟩
         · cases e
         · cases e
           refine ⟨rfl,_,?_,out x u true hx⟩
           cases ok<;>simp [Instr.lookup,run_underlying hu,Result.andThen,hget,hck,hr']
       · rename_i hf
         cases hg
         obtain ⟨r',hr',hf'⟩:=hfk es vs _ hsz hent hf
         rcases hf'.cases with ⟨_,rfl⟩|⟨i,x,u,e,_⟩
         · refine ⟨rfl,_,?_,out z zv false hzv⟩
           cases ok<;>simp [Instr.lookup,run_underlying hu,Result.andThen,hget,hck,hr',hzr]
         · cases e
       · cases hg
     · cases hg
 · cases hg
theorem zj5 {es:List ME} {vs:Array MapEntry} (hsz:vs.size=es.length) {i:Nat} {e:ME} (h:es[i]?=some e):∃ v,vs[i]?=some v:=by
 have:=(List.getElem?_eq_some_iff.1 h).1
 exact ⟨vs[i]'(by omega),by simp⟩
theorem zh2 {es:List ME} {vs:Array MapEntry} (hsz:vs.size=es.length) (hent:∀ (j:Nat) (e:ME) (v:MapEntry),es[j]?=some e→vs[j]?=some v→zdm S e v) {i:Nat} {f:ME→ME} {g:MapEntry→MapEntry} (hf:∀ e v,zdm S e v→zdm S (f e) (g v)) :
 (vs.modify i g).size=(es.modify i f).length∧∀ (j:Nat) (e:ME) (v:MapEntry),(es.modify i f)[j]?=some e→(vs.modify i g)[j]?=some v→zdm S e v:=by
 refine ⟨by simp [hsz],fun j e v he hv=>?_⟩
 rw [List.getElem?_modify] at he
 rw [Array.getElem?_modify] at hv
 cases h0:es[j]? with
 | none=>simp [h0] at he
 | some e0 =>
  obtain ⟨v0,hv0⟩:=zj5 hsz h0
  rw [h0] at he
  rw [hv0] at hv
  by_cases hij:i=j
  · simp [hij] at he hv
    subst he;subst hv
    exact hf _ _ (hent j e0 v0 h0 hv0)
  · simp [hij] at he hv
    subst he;subst hv
    exact hent j _ _ h0 hv0
theorem zq3 {es:List ME} {vs:Array MapEntry} (hsz:vs.size=es.length) (hent:∀ (j:Nat) (e:ME) (v:MapEntry),es[j]?=some e→vs[j]?=some v→zdm S e v) {e:ME} {v:MapEntry} (h:zdm S e v) :
 (vs.push v).size=(es++[e]).length∧∀ (j:Nat) (e':ME) (v':MapEntry),(es++[e])[j]?=some e'→(vs.push v)[j]?=some v'→zdm S e' v':=by
 refine ⟨by simp [hsz],fun j e' v' he hv=>?_⟩
 rcases Nat.lt_trichotomy j es.length with hj|hj|hj
 · rw [List.getElem?_append_left hj] at he
   rw [Array.getElem?_push_lt (by omega)] at hv
   exact hent j e' v' he (by rw [← hv];simp)
 · subst hj
   simp at he
   rw [← hsz] at hv
   simp at hv
   subst he;subst hv;exact h
 · rw [List.getElem?_eq_none (by simp;omega)] at he;cases he
theorem zuz {es:List ME} {vs:Array MapEntry} (hsz:vs.size=es.length) (hent:∀ (j:Nat) (e:ME) (v:MapEntry),es[j]?=some e→vs[j]?=some v→zdm S e v) (i:Nat) :
 (vs.eraseIdxIfInBounds i).size=(es.eraseIdx i).length∧∀ (j:Nat) (e:ME) (v:MapEntry),(es.eraseIdx i)[j]?=some e→(vs.eraseIdxIfInBounds i)[j]?=some v→zdm S e v:=by
 have hl:(vs.eraseIdxIfInBounds i).toList=vs.toList.eraseIdx i:=by
  unfold Array.eraseIdxIfInBounds
  split
  · simp
  · rename_i h
    rw [List.eraseIdx_of_length_le (by simpa using h)]
 refine ⟨?_,fun j e v he hv=>?_⟩
 · have:=congrArg List.length hl
   simp only [Array.length_toList,List.length_eraseIdx] at this
   rw [this,List.length_eraseIdx,hsz]
 · have hv':(vs.toList.eraseIdx i)[j]?=some v:=by rw [← hl,Array.getElem?_toList];exact hv
   rw [List.getElem?_eraseIdx] at he hv'
   split at he
   · rename_i hj;rw [if_pos hj] at hv';exact hent j e v he (by simpa using hv')
   · rename_i hj;rw [if_neg hj] at hv';exact hent (j+1) e v he (by simpa using hv')
theorem zq4 {k1 k2:Value} (h:Instr.sameBits 10000 k1 k2=true):(Instr.keyThatStays k1 k2).run P w=.ok k2 w:=by
 simp [Instr.keyThatStays,h]
theorem zk5 {kd:Kd} {x y:D} {u v:Value} (hx:VRD S x u) (hy:VRD S y v) (h:zb0 kd x y=some true):Instr.sameBits 10000 v u=true:=by
 cases kd<;>cases x<;>cases y<;>simp [zb0] at h
 · subst h;rw [hx.bool_inv,hy.bool_inv];simp [Instr.sameBits]
 · obtain ⟨rfl,rfl⟩:=h;rw [hx.int_inv,hy.int_inv];simp [Instr.sameBits]
 · subst h
   obtain ⟨s,rfl,h1⟩:=hx.str_inv
   obtain ⟨s',rfl,h2⟩:=hy.str_inv
   have:s'=s:=by cases s;cases s';simp at h1 h2 ⊢;exact Array.toList_inj.1 (h2.trans h1.symm)
   subst this
   simp only [Instr.sameBits];exact (bytes_beq _ _).2 rfl
theorem zq5 {ks:List Kd} {key:D}:∀ {es:List ME} {i j:Nat} {x:D},zeq ks key es i=some (some (j,x))→i≤j∧∃ e,es[j - i]?=some e∧e.v=x∧(if key.one=e.k.one then zk ks key.cells e.k.cells else none)=some true
 | [],i,j,x,h=>by simp [zeq] at h
 | e::es,i,j,x,h=>by
   simp only [zeq] at h
   split at h
   · rename_i hb
     simp at h
     obtain ⟨rfl,rfl⟩:=h
     exact ⟨Nat.le_refl _,e,by simp,rfl,hb⟩
   · obtain ⟨h1,e',h2,h3,h4⟩:=zq5 h
     refine ⟨by omega,e',?_,h3,h4⟩
     have:j - i=(j - (i+1))+1:=by omega
     rw [this];simpa using h2
   · cases h
theorem zq6 {kt:TypeId} {ks:List Kd} (hk:ztl P kt=some ks) {key:D} {kv:Value} (hv:VRD S key kv) (hok:keyOk ks key=true) {es:List ME} {vs:Array MapEntry} (hent:∀ (j:Nat) (e:ME) (v:MapEntry),es[j]?=some e→vs[j]?=some v→zdm S e v)
 (hsz:vs.size=es.length) {i:Nat} {x:D} (hf:zeq ks key es 0=some (some (i,x))):∃ e v,es[i]?=some e∧e.v=x∧vs[i]?=some v∧zdm S e v∧Instr.sameBits 10000 v.key kv=true:=by
 obtain ⟨_,e,he,hx,hc⟩:=zq5 hf
 simp at he
 obtain ⟨v,hvs⟩:=zj5 hsz he
 have hent0:=hent i e v he hvs
 refine ⟨e,v,he,hx,hvs,hent0,?_⟩
 split at hc
 · rename_i h1
   by_cases hone:key.one=true
   · rw [D.cells_one hone,D.cells_one (h1▸hone)] at hc
     obtain ⟨kd,rfl⟩:=List.length_eq_one_iff.1 (by have:=(zbq hc).1;simpa using this.symm)
     simp only [zk] at hc
     split at hc
     · rename_i b hb
       simp at hc
       subst hc
       exact zk5 hv hent0.1 hb
     · cases hc
   · have hag:∃ cs,key=.agg cs:=by
      cases key<;>simp [D.one] at hone
      exact ⟨_,rfl⟩
     obtain ⟨cs,rfl⟩:=hag
     have hag2:∃ cs',e.k=.agg cs':=by
      cases hek:e.k<;>simp [hek,D.one] at h1
      exact ⟨_,rfl⟩
     obtain ⟨cs',hcs'⟩:=hag2
     have hk2:=hent0.1
     rw [hcs'] at hk2 hc
     obtain ⟨us,rfl,hus,_⟩:=hv.agg_inv
     obtain ⟨us',hu',hus',_⟩:=hk2.agg_inv
     have heq:=zn1 hus hus' hc
     have:us'=us:=Array.toList_inj.1 heq.symm
     rw [hu',this]
     simp only [keyOk,Bool.and_eq_true] at hok
     simp only [Instr.sameBits,beq_self_eq_true,Bool.true_and]
     exact zh1 9999 hus hok.2
 · cases hc
theorem zio [DD] (h:Rel S ms ow base O ρ L σ G a w) {t kt e:TypeId} (ht:zpw P t=some (kt,e)) {ks:List Kd} (hk:ztl P kt=some ks) {m key x:D} {mv kv xv:Value} (hm:VRD S m mv) (hkv:VRD S key kv) (hxv:VRD S x xv) {r:AV} {G1:Gh} (hg:gdD (.mset ks) [m,key,x] G=some (r,G1)) :
 ∃ w',(Instr.mapUpdate t mv kv xv).run P w=.ok () w'∧r=.undef∧Rel S ms ow base O ρ L σ G1 a w'∧Evo base O S w S w':=by
 have hu:=zfw ht
 obtain ⟨q,rfl⟩:∃ q,m=.mref q:=by cases m<;>first|exact ⟨_,rfl⟩|simp [gdD] at hg
 simp only [gdD] at hg
 split at hg
 · rename_i es cl hmp
   obtain ⟨q',e,hmq⟩:=zd8 hmp
   cases e
   obtain ⟨vs,hvs,hsz,hent⟩:=h.h.x.map hmq
   have hmv:=zdu hm
   subst hmv
   have hget:(getObj q).run P w=.ok (.map vs cl) w:=MapKept.run_getObj_map hvs
   split at hg
   · rename_i i y hok hf
     cases hg
     obtain ⟨hck,_,hfk⟩:=zin hk hkv hok w
     obtain ⟨r',hr',hf'⟩:=hfk es vs _ hsz hent hf
     obtain ⟨e0,v0,he0,_,hv0,hent0,hsame⟩:=zq6 hk hkv hok hent hsz hf
     rcases hf'.cases with ⟨e,_⟩|⟨i',x0,u0,e,rfl,hx⟩
     · cases e
     · cases e
       obtain ⟨hs2,he2⟩:=zh2 (i:=i) (f:=fun e=>⟨key,x,e.b⟩) (g:=fun e=>{ e with key:=kv,val:=xv }) hsz hent (fun e v hev=>⟨hkv,hxv,hev.2.2⟩)
       obtain ⟨k1,k2⟩:=h.setM hmq (o1:=.map (es.modify i fun e=>⟨key,x,e.b⟩) cl) (obj:=.map (vs.modify i fun e=>{ e with key:=kv,val:=xv }) cl) ⟨_,rfl,hs2,he2⟩
       refine ⟨_,?_,rfl,k1,k2⟩
       simp [Instr.mapUpdate,run_underlying hu,Result.andThen,hget,hck,hr',hv0,zq4 hsame,zcr _ hvs rfl]
   · rename_i hok hf
     cases hg
     obtain ⟨hck,_,hfk⟩:=zin hk hkv hok w
     obtain ⟨r',hr',hf'⟩:=hfk es vs _ hsz hent hf
     rcases hf'.cases with ⟨_,rfl⟩|⟨i',x0,u0,e,_⟩
     · obtain ⟨hs2,he2⟩:=zq3 (e:=⟨key,x,cl⟩) (v:={ key:=kv,val:=xv,born:=cl }) hsz hent ⟨hkv,hxv,rfl⟩
       obtain ⟨k1,k2⟩:=h.setM hmq (o1:=.map (es++[⟨key,x,cl⟩]) (cl+1)) (obj:=.map (vs.push { key:=kv,val:=xv,born:=cl }) (cl+1)) ⟨_,rfl,hs2,he2⟩
       refine ⟨_,?_,rfl,k1,k2⟩
       simp [Instr.mapUpdate,run_underlying hu,Result.andThen,hget,hck,hr',zcr _ hvs rfl]
     · cases e
   · cases hg
 · cases hg
theorem zu0 [DD] (h:Rel S ms ow base O ρ L σ G a w) {t kt e ty:TypeId} (ht:zpw P t=some (kt,e)) {ks:List Kd} (hk:ztl P kt=some ks) {m key:D} {mv kv:Value} (hm:VRD S m mv) (hkv:VRD S key kv) {r:AV} {G1:Gh} (hg:gdD (.mdel ks) [m,key] G=some (r,G1)) (ts:List TypeId) :
 ∃ w',(Builtin.delete_ (⟨t::ts⟩:Array TypeId) ty #[mv,kv]).run P w=.ok (.tuple #[]) w'∧r=.tup []∧Rel S ms ow base O ρ L σ G1 a w'∧Evo base O S w S w':=by
 have hu:=zfw ht
 have hts:(⟨t::ts⟩:Array TypeId)[0]?=some t:=rfl
 simp only [gdD] at hg
 split at hg
 · split at hg
   · rename_i hok
     cases hg
     have hmv:=zha hm
     subst hmv
     obtain ⟨hck,_,_⟩:=zin hk hkv hok w
     exact ⟨w,by simp [Builtin.delete_,run_underlying hu,Result.andThen,hck],rfl,h,Evo.refl _ _ _ _⟩
   · cases hg
 · rename_i q
   split at hg
   · rename_i es cl hmp
     obtain ⟨q',e,hmq⟩:=zd8 hmp
     cases e
     obtain ⟨vs,hvs,hsz,hent⟩:=h.h.x.map hmq
     have hmv:=zdu hm
     subst hmv
     have hget:(getObj q).run P w=.ok (.map vs cl) w:=MapKept.run_getObj_map hvs
     split at hg
     · rename_i i y hok hf
       cases hg
       obtain ⟨hck,_,hfk⟩:=zin hk hkv hok w
       obtain ⟨r',hr',hf'⟩:=hfk es vs _ hsz hent hf
       rcases hf'.cases with ⟨e,_⟩|⟨i',x0,u0,e,rfl,hx⟩
       · cases e
       · cases e
         obtain ⟨hs2,he2⟩:=zuz hsz hent i
         obtain ⟨k1,k2⟩:=h.setM hmq (o1:=.map (es.eraseIdx i) cl) (obj:=.map (vs.eraseIdxIfInBounds i) cl) ⟨_,rfl,hs2,he2⟩
         refine ⟨_,?_,rfl,k1,k2⟩
         simp [Builtin.delete_,run_underlying hu,Result.andThen,hget,hck,hr',zcr _ hvs rfl]
     · rename_i hok hf
       cases hg
       obtain ⟨hck,_,hfk⟩:=zin hk hkv hok w
       obtain ⟨r',hr',hf'⟩:=hfk es vs _ hsz hent hf
       rcases hf'.cases with ⟨_,rfl⟩|⟨i',x0,u0,e,_⟩
       · obtain ⟨k1,k2⟩:=h.setM hmq (o1:=.map es cl) (obj:=.map vs cl) ⟨_,rfl,hsz,hent⟩
         refine ⟨_,?_,rfl,k1,k2⟩
         simp [Builtin.delete_,run_underlying hu,Result.andThen,hget,hck,hr',zcr _ hvs rfl]
       · cases e
     · cases hg
   · cases hg
 · cases hg
theorem zpq [DD] (h:Rel S ms ow base O ρ L σ G a w) {t kt e:TypeId} (ht:zpw P t=some (kt,e)) {ks:List Kd} (hk:ztl P kt=some ks) {z:D} (hz:zD P e=some z) {m key:D} {mv kv:Value} (hm:VRD S m mv) (hkv:VRD S key kv) {r:AV} {G1:Gh} (hg:gdD (.ment ks z) [m,key] G=some (r,G1)) :
 ∃ v w',(Instr.mapEntry t mv kv).run P w=.ok v w'∧VR S (L::σ) ms r v∧(∀ sz es,r≠.own sz es)∧Rel S ms ow base O ρ L σ G1 a w'∧Evo base O S w S w':=by
 have hu:=zfw ht
 obtain ⟨zv,hzr,hzv⟩:=z5g (S:=S) hz
 obtain ⟨q,rfl⟩:∃ q,m=.mref q:=by cases m<;>first|exact ⟨_,rfl⟩|simp [gdD] at hg
 simp only [gdD] at hg
 split at hg
 · rename_i es cl hmp
   obtain ⟨q',e,hmq⟩:=zd8 hmp
   cases e
   obtain ⟨vs,hvs,hsz,hent⟩:=h.h.x.map hmq
   have hmv:=zdu hm
   subst hmv
   have hget:(getObj q).run P w=.ok (.map vs cl) w:=MapKept.run_getObj_map hvs
   split at hg
   · rename_i i y hok hf
     cases hg
     obtain ⟨hck,_,hfk⟩:=zin hk hkv hok w
     obtain ⟨r',hr',hf'⟩:=hfk es vs _ hsz hent hf
     obtain ⟨e0,v0,he0,hy,hv0,hent0,hsame⟩:=zq6 hk hkv hok hent hsz hf
     rcases hf'.cases with ⟨e,_⟩|⟨i',x0,u0,e,rfl,hx⟩
     · cases e
     · cases e
       obtain ⟨hs2,he2⟩:=zh2 (i:=i) (f:=fun e=>⟨key,e.v,e.b⟩) (g:=fun e=>{ e with key:=kv }) hsz hent (fun e v hev=>⟨hkv,hev.2.1,hev.2.2⟩)
       obtain ⟨k1,k2⟩:=h.setM hmq (o1:=.map (es.modify i fun e=>⟨key,e.v,e.b⟩) cl) (obj:=.map (vs.modify i fun e=>{ e with key:=kv }) cl) ⟨_,rfl,hs2,he2⟩
       refine ⟨.tuple #[u0,goInt v0.born],_,?_,⟨_,rfl,zux hx ?_⟩,fun _ _ e=>(by cases e),k1,k2⟩
       · simp [Instr.mapEntry,run_underlying hu,Result.andThen,hget,hck,hr',hv0,zq4 hsame,zcr _ hvs rfl]
       · rw [he0];simp only [Option.map_some,Option.getD_some]
         rw [← hent0.2.2];exact VRD.int _ _
   · rename_i hok hf
     cases hg
     obtain ⟨hck,_,hfk⟩:=zin hk hkv hok w
     obtain ⟨r',hr',hf'⟩:=hfk es vs _ hsz hent hf
     rcases hf'.cases with ⟨_,rfl⟩|⟨i',x0,u0,e,_⟩
     · obtain ⟨hs2,he2⟩:=zq3 (e:=⟨key,z,cl⟩) (v:={ key:=kv,val:=zv,born:=cl }) hsz hent ⟨hkv,hzv,rfl⟩
       obtain ⟨k1,k2⟩:=h.setM hmq (o1:=.map (es++[⟨key,z,cl⟩]) (cl+1)) (obj:=.map (vs.push { key:=kv,val:=zv,born:=cl }) (cl+1)) ⟨_,rfl,hs2,he2⟩
       refine ⟨.tuple #[zv,goInt cl],_,?_,⟨_,rfl,zux hzv (VRD.int _ _)⟩,fun _ _ e=>(by cases e),k1,k2⟩
       simp [Instr.mapEntry,run_underlying hu,Result.andThen,hget,hck,hr',hzr,zcr _ hvs rfl]
     · cases e
   · cases hg
 · cases hg
theorem ziq {n:Int}:∀ {es:List ME} {vs:List MapEntry},vs.length=es.length→(∀ (j:Nat) (e:ME) (v:MapEntry),es[j]?=some e→vs[j]?=some v→zdm S e v)→vs.findIdx? (fun e=>(e.born:Int) == n)=es.findIdx? (fun e=>decide ((e.b:Int)=n))
 | [],[],_,_=>rfl
 | [],_::_,h,_=>by simp at h
 | _::_,[],h,_=>by simp at h
 | e::es,v::vs,hl,h=>by
   have h0:=(h 0 e v rfl rfl).2.2
   rw [List.findIdx?_cons,List.findIdx?_cons,ziq (by simpa using hl) (fun j e' v' a b=>h (j+1) e' v' (by simpa using a) (by simpa using b)),h0]
   have:((e.b:Int) == n)=decide ((e.b:Int)=n):=by rw [Bool.eq_iff_iff];simp
   rw [this]
theorem zmd [DD] (h:Rel S ms ow base O ρ L σ G a w) {t:TypeId} {m s x:D} {mv sv xv:Value} (hm:VRD S m mv) (hsv:VRD S s sv) (hxv:VRD S x xv) {r:AV} {G1:Gh} (hg:gdD .msto [m,s,x] G=some (r,G1)) :
 ∃ w',(Instr.entryStore t mv sv xv).run P w=.ok () w'∧r=.undef∧Rel S ms ow base O ρ L σ G1 a w'∧Evo base O S w S w':=by
 obtain ⟨q,rfl⟩:∃ q,m=.mref q:=by cases m<;>first|exact ⟨_,rfl⟩|simp [gdD] at hg
 obtain ⟨k,n,rfl⟩:∃ k n,s=.int k n:=by cases s<;>first|exact ⟨_,_,rfl⟩|simp [gdD] at hg
 simp only [gdD] at hg
 split at hg
 · rename_i es cl hmp
   obtain ⟨q',e,hmq⟩:=zd8 hmp
   cases e
   obtain ⟨vs,hvs,hsz,hent⟩:=h.h.x.map hmq
   have hmv:=zdu hm
   subst hmv
   have hsv':=hsv.int_inv
   subst hsv'
   have hget:(getObj q).run P w=.ok (.map vs cl) w:=MapKept.run_getObj_map hvs
   split at hg
   · rename_i i hi
     cases hg
     obtain ⟨hs2,he2⟩:=zh2 (i:=i) (f:=fun e=>⟨e.k,x,e.b⟩) (g:=fun e=>{ e with val:=xv }) hsz hent (fun e v hev=>⟨hev.1,hxv,hev.2.2⟩)
     obtain ⟨k1,k2⟩:=h.setM hmq (o1:=.map (es.modify i fun e=>⟨e.k,x,e.b⟩) cl) (obj:=.map (vs.modify i fun e=>{ e with val:=xv }) cl) ⟨_,rfl,hs2,he2⟩
     refine ⟨_,?_,rfl,k1,k2⟩
     have hfi:vs.findIdx? (fun e=>(e.born:Int) == n)=some i:=by
      rw [show vs.findIdx? (fun e=>(e.born:Int) == n)=vs.toList.findIdx? (fun e=>(e.born:Int) == n) from by cases vs;simp,ziq (by simpa using hsz) (fun j e v a b=>hent j e v a (by simpa using b)),hi]
     simp [Instr.entryStore,Result.andThen,hget,asInt,asIntOf,hfi,zcr _ hvs rfl]
   · cases hg
 · cases hg
end
end Go.E2
namespace Go.E2
open Go.MapKept
section
variable {S:Stb} {ms:List (Nat→Nat)} {ow:Nat→Option Nat} {base:Nat} {O:Nat→Prop} {ρ:Env} {L:Hp} {σ:List Hp} {G:Gh} {a:Act} {w:World} {c:Ctx} {P:Program}
theorem zpr (ht:zfc S (L::σ) ms ρ a) {p:Option Operand} {ps:List (Option Operand)} {xs:List AO} (hx:z06 (p::ps)=some xs) {ds ds':List D} (hd:zx ρ xs=some ds) {dflt:Nat} {n:Int} (ho:zva p.isSome dflt ds=some (n,ds')) :
 ∃ xs',z06 ps=some xs'∧zx ρ xs'=some ds'∧((p=none∧n=dflt)∨∃ q k,p=some q∧a.eval q=.int k n):=by
 cases p with
 | none =>
  simp only [z06] at hx
  unfold zva at ho
  simp at ho
  split at ho
  · simp at ho;obtain ⟨rfl,rfl⟩:=ho;exact ⟨xs,hx,hd,.inl ⟨rfl,rfl⟩⟩
  · simp at ho;obtain ⟨rfl,rfl⟩:=ho;exact ⟨xs,hx,hd,.inl ⟨rfl,rfl⟩⟩
 | some q =>
  simp only [z06] at hx
  split at hx
  · rename_i y ys hy hys
    cases hx
    obtain ⟨d,ds1,rfl,h1,h2⟩:=zn hd
    unfold zva at ho
    simp at ho
    split at ho
    · rename_i k m r e
      cases e
      simp at ho
      obtain ⟨rfl,rfl⟩:=ho
      exact ⟨ys,hys,h2,.inr ⟨q,k,rfl,(zat ht hy h1).int_inv⟩⟩
    · simp at ho
  · cases hx
theorem zk6 {n:Nat} {lo hi mx:Option Operand} {l h m:Int} (hl:(lo=none∧l=(0:Nat))∨∃ q k,lo=some q∧a.eval q=.int k l) (hh:(hi=none∧h=n)∨∃ q k,hi=some q∧a.eval q=.int k h)
 (hm:(mx=none∧m=n)∨∃ q k,mx=some q∧a.eval q=.int k m) (hmx:(mx.isSome && hi.isNone)=false) (h0:0≤l) (h1:l≤h) (h2:h≤m) (h3:m≤n) :
 (Instr.sliceBounds false n n (lo.map a.eval) (hi.map a.eval) (mx.map a.eval)).run P w=.ok (l.toNat,h.toNat,m.toNat) w:=by
 have bnd:∀ {k:IntKind} {x:Int} {y:Nat} {code:BoundsCode},0≤x→x≤y→(Instr.sliceBound (.int k x) y code).run P w=.ok x.toNat w:=fun a b=>zbl a b
 rcases hm with ⟨rfl,rfl⟩|⟨qm,km,rfl,em⟩
 · rcases hh with ⟨rfl,rfl⟩|⟨qh,kh,rfl,eh⟩
   · rcases hl with ⟨rfl,rfl⟩|⟨ql,kl,rfl,el⟩
     · simp [Instr.sliceBounds]
     · simp [Instr.sliceBounds,el,bnd h0 h1]
   · have eH:∀ code,(Instr.sliceBound (.int kh h) n code).run P w=.ok h.toNat w:=fun code=>bnd (by omega) h2
     rcases hl with ⟨rfl,rfl⟩|⟨ql,kl,rfl,el⟩
     · simp [Instr.sliceBounds,eh,eH]
     · have eL:∀ code,(Instr.sliceBound (.int kl l) h.toNat code).run P w=.ok l.toNat w:=fun code=>bnd h0 (by omega)
       simp [Instr.sliceBounds,eh,eH,el,eL]
 · have eM:∀ code,(Instr.sliceBound (.int km m) n code).run P w=.ok m.toNat w:=fun code=>bnd (by omega) h3
   rcases hh with ⟨rfl,rfl⟩|⟨qh,kh,rfl,eh⟩
   · simp at hmx
   · have eH:∀ code,(Instr.sliceBound (.int kh h) m.toNat code).run P w=.ok h.toNat w:=fun code=>bnd (by omega) (by omega)
     rcases hl with ⟨rfl,rfl⟩|⟨ql,kl,rfl,el⟩
     · simp [Instr.sliceBounds,em,eM,eh,eH]
     · have eL:∀ code,(Instr.sliceBound (.int kl l) h.toNat code).run P w=.ok l.toNat w:=fun code=>bnd h0 (by omega)
       simp [Instr.sliceBounds,em,eM,eh,eH,el,eL]
theorem zj6 (ht:zfc S (L::σ) ms ρ a):∀ (ps:List Operand) (xs:List AO) (ds:List D),cOs ps=some xs→zx ρ xs=some ds→zz S ds (ps.map a.eval)
 | [],xs,ds,h,hd=>by simp [cOs] at h;subst h;have:=zad hd;subst this;exact zz.nil
 | p::ps,xs,ds,h,hd=>by
   simp only [cOs] at h
   split at h
   · rename_i y ys hy hys
     cases h
     obtain ⟨d,ds1,rfl,h1,h2⟩:=zn hd
     exact zz.cons (zat ht hy h1) (zj6 ht ps ys ds1 hys h2)
   · cases h
theorem z0z {ox oy:Operand} {bop:BinOp} {t:TypeId} {neg:Bool} (hop:(bop=.eql∧neg=false)∨(bop=.neq∧neg=true)) {u v:Value} {b:Bool} (hg:(eqGuard bop t ox oy u v).run P w=.ok () w)
 (h1:binOp .eql t u v=(do pure (.bool (← Op.equalIn 10000 t u v)))) (h2:binOp .neq t u v=(do pure (.bool (!(← Op.equalIn 10000 t u v))))) (he:(Op.equalIn 10000 t u v).run P w=.ok b w) :
 (do eqGuard bop t ox oy u v;binOp bop t u v:Sem Value).run P w=.ok (.bool (if neg then !b else b)) w:=by
 rcases hop with ⟨rfl,rfl⟩|⟨rfl,rfl⟩
 · simp only [Sem.run_bind,hg,Result.andThen_ok,h1,he,Sem.run_pure];rfl
 · simp only [Sem.run_bind,hg,Result.andThen_ok,h2,he,Sem.run_pure];rfl
theorem zzn (d:Nat) {t e:TypeId} (hu:P.underlying t=some (.pointer e)) (b:Option Addr):(Op.equalIn (d+1) t (.pointer b) (.pointer none)).run P w=.ok b.isNone w:=by
 cases b<;>simp [Op.equalIn,run_underlying hu]
theorem zzo (d:Nat) {t k e:TypeId} (hu:P.underlying t=some (.map k e)) (b:Option Nat):(Op.equalIn (d+1) t (.map b) (.map none)).run P w=.ok b.isNone w:=by
 cases b<;>simp [Op.equalIn,run_underlying hu]
theorem zx0 (d:Nat) {t:TypeId} {ps rs:Array TypeId} {vr:Bool} (hu:P.underlying t=some (.func ps rs vr)) (f:Fn) (x y:Array Value):(Op.equalIn (d+1) t (.func f x y) .nilFunc).run P w=.ok false w:=by
 simp [Op.equalIn,run_underlying hu]
theorem z5h (d:Nat) {t:TypeId} {ps rs:Array TypeId} {vr:Bool} (hu:P.underlying t=some (.func ps rs vr)):(Op.equalIn (d+1) t .nilFunc .nilFunc).run P w=.ok true w:=by
 simp [Op.equalIn,run_underlying hu]
theorem z00 {t:TypeId} {d:TypeDesc} (hu:P.underlying t=some d) {q:Operand} {kn:Nat} (hn:zmk d q=some kn) {p:D} {pv:Value} (hp:VRD S p pv) {bop:BinOp} {neg:Bool} (hop:(bop=.eql∧neg=false)∨(bop=.neq∧neg=true))
 {r:AV} {G1:Gh} (hg:gdD (.pnil kn neg) [p] G=some (r,G1)) (ox:Operand):G1=G∧∃ b,r=.d (.bool b)∧(do eqGuard bop t ox q pv (a.eval q);binOp bop t pv (a.eval q):Sem Value).run P w=.ok (.bool b) w:=by
 have ga:∀ {u v:Value},(∀ xs,u≠.agg xs)→u≠.nilIface→(eqGuard bop t ox q u v).run P w=.ok () w:=fun {u v} h1 h2=>by
  unfold eqGuard
  rcases hop with ⟨rfl,_⟩|⟨rfl,_⟩<;>cases u<;>simp_all
 have two:∀ b:Bool,(r,G1)=((.d (.bool (if neg then !b else b)),G):AV×Gh)→(∀ xs,pv≠.agg xs)→pv≠.nilIface→binOp .eql t pv (a.eval q)=(do pure (.bool (← Op.equalIn 10000 t pv (a.eval q))))→binOp .neq t pv (a.eval q)=(do pure (.bool (!(← Op.equalIn 10000 t pv (a.eval q)))))→(Op.equalIn 10000 t pv (a.eval q)).run P w=.ok b w →
  G1=G∧∃ b,r=.d (.bool b)∧(do eqGuard bop t ox q pv (a.eval q);binOp bop t pv (a.eval q):Sem Value).run P w=.ok (.bool b) w:=by
  intro b e h1 h2 h4 h5 h3
  cases e
  exact ⟨rfl,_,rfl,z0z hop (ga h1 h2) h4 h5 h3⟩
 unfold zmk at hn
 split at hn
 · rename_i e0
   cases hn
   have ev0:a.eval (.const (.pointer none))=.pointer none:=rfl
   rw [ev0] at two ⊢
   simp only [gdD] at hg
   split at hg
   · have e:pv=.pointer none:=by cases hp;rfl
     subst e
     exact two true (by cases hg;cases neg<;>rfl) (fun _ e=>by cases e) (fun e=>by cases e) rfl rfl (zzn 9999 hu none)
   · rename_i b off
     have e:pv=.pointer (some ⟨b,off,none⟩):=zf7 hp
     subst e
     exact two false (by cases hg;cases neg<;>rfl) (fun _ e=>by cases e) (fun e=>by cases e) rfl rfl (zzn 9999 hu (some _))
   · cases hg
 · rename_i k0 e0
   cases hn
   have ev0:a.eval (.const (.map none))=.map none:=rfl
   rw [ev0] at two ⊢
   simp only [gdD] at hg
   split at hg
   · have e:=zha hp
     subst e
     exact two true (by cases hg;cases neg<;>rfl) (fun _ e=>by cases e) (fun e=>by cases e) rfl rfl (zzo 9999 hu none)
   · have e:=zdu hp
     subst e
     exact two false (by cases hg;cases neg<;>rfl) (fun _ e=>by cases e) (fun e=>by cases e) rfl rfl (zzo 9999 hu (some _))
   · cases hg
 · rename_i k0 e0 f0
   cases hn
   have ev0:a.eval (.const .nilFunc)=.nilFunc:=rfl
   rw [ev0] at two ⊢
   simp only [gdD] at hg
   split at hg
   · have e:pv=.nilFunc:=by cases hp;rfl
     subst e
     exact two true (by cases hg;cases neg<;>rfl) (fun _ e=>by cases e) (fun e=>by cases e) rfl rfl (z5h 9999 hu)
   · have e:=VRD.fn_inv hp
     subst e
     exact two false (by cases hg;cases neg<;>rfl) (fun _ e=>by cases e) (fun e=>by cases e) rfl rfl (zx0 9999 hu _ _ _)
   · obtain ⟨cv,e,_⟩:=hp.clo_inv
     subst e
     exact two false (by cases hg;cases neg<;>rfl) (fun _ e=>by cases e) (fun e=>by cases e) rfl rfl (zx0 9999 hu _ _ _)
   · obtain ⟨cv,e,_⟩:=hp.bnd_inv
     subst e
     exact two false (by cases hg;cases neg<;>rfl) (fun _ e=>by cases e) (fun e=>by cases e) rfl rfl (zx0 9999 hu _ _ _)
   · rename_i l
     have e:pv=.func (.yield l) #[] #[]:=by cases hp;rfl
     subst e
     exact two false (by cases hg;cases neg<;>rfl) (fun _ e=>by cases e) (fun e=>by cases e) rfl rfl (zx0 9999 hu _ _ _)
   · cases hg
 · cases hn
theorem zme {a:Addr} (h:a.spot=none) (n:Nat):a.add n=⟨a.block,a.off+n,none⟩:=by
 obtain ⟨ab,ao,asp⟩:=a
 simp only at h
 subst h
 unfold Addr.add
 by_cases hn:n=0
 · subst hn;rfl
 · rw [if_neg hn]
theorem z01 {lv:List Hp} (h:zcw S ms lv G w) {y:D} {v:Value} {m:Nat} {ys:List D} (hy:zb2 G 1 y=some (m,ys)) (hv:VRD S y v) {l:List UInt8} (hl:zbh ys=some l):(Conv.bytesToString v).run P w=.ok (.string ⟨l.toArray⟩) w:=by
 obtain ⟨news,h1,h2,h3,h4,h5⟩:=zmf (P:=P) h hy hv
 have h6:=h5 w m (fun _ _=>rfl) (Nat.le_refl _)
 obtain ⟨ns,hc0,hl0⟩:=zgi hl h1
 have hlen:=h4 w
 obtain ⟨b,n,cap,rfl⟩:∃ b n cap,v=.slice b n cap:=by
  cases hv<;>first|exact ⟨_,_,_,rfl⟩|(simp [zb2] at hy)
 simp [Builtin.lenOf] at hlen
 subst hlen
 have htk:news.take (n * 1)=news:=List.take_of_length_le (by rw [h1.1,h3];exact Nat.le_refl _)
 rw [htk] at h6
 cases b with
 | none =>
  simp [Builtin.firstCells] at h6
  subst h6
  have:ns=[]:=by simpa using hc0.symm
  subst this
  simp at hl0
  subst hl0
  simp [Conv.bytesToString]
  rfl
 | some b =>
  have h7:(loadCells b n).run P w=.ok (ns.map (Value.int .u8)).toArray w:=by
   simp only [Builtin.firstCells,Nat.mul_one] at h6
   rw [h6,hc0]
  rw [zpt h7,hl0]
theorem z97 [DD] (h:Rel S ms ow base O ρ L σ G a w) {o:Oper} {k:GD} {as:List AO} (hc:zcg c o.dst o.op=some (.gd k as)) (hd:∀ i,o.dst=some i→i<a.tmps.size) {vs:List D} (hvs:zx ρ as=some vs) {r:AV} {G1:Gh} (hg:gdD k vs G=some (r,G1)) :
 zc9 c.P S ms ow base O σ a w o (put ρ o.dst r,L,σ,G1):=by
 obtain ⟨dst,op,ty,pos,after,guard⟩:=o
 simp only at hc hd
 cases op with
 | lookup t m q ok =>
  simp only [zcg] at hc
  split at hc
  · rename_i kt e hm
    split at hc
    · rename_i ks z m' q' hk hz hm' hq'
      cases Option.some.inj hc
      obtain ⟨d1,ds1,rfl,e1,h2⟩:=zn hvs
      obtain ⟨d2,ds2,rfl,e2,h3⟩:=zn h2
      obtain rfl:=zad h3
      obtain ⟨e0,v,hr,hv,hno⟩:=zuy h.h.x hm hk hz (zat h.tmpT hm' e1) (zat h.tmpT hq' e2) hg
      rw [e0];exact zc9.mk' h hd (.inl (by simp [execOp,hr])) h (Evo.refl _ _ _ _) hv hno
    · cases hc
  · cases hc
 | mapUpdate t m q x =>
  simp only [zcg] at hc
  split at hc
  · rename_i kt e hm
    split at hc
    · rename_i ks m' q' x' hk hm' hq' hx'
      cases hc
      obtain ⟨d1,ds1,rfl,e1,h2⟩:=zn hvs
      obtain ⟨d2,ds2,rfl,e2,h3⟩:=zn h2
      obtain ⟨d3,ds3,rfl,e3,h4⟩:=zn h3
      obtain rfl:=zad h4
      obtain ⟨w',hr,rfl,hrel,hev⟩:=zio h hm hk (zat h.tmpT hm' e1) (zat h.tmpT hq' e2) (zat h.tmpT hx' e3) hg
      exact zc9.mk' h hd (v:=undef) (.inr ⟨by simp [execOp,hr,Result.andThen],rfl⟩) hrel hev trivial (fun _ _ e=>by cases e)
    · cases hc
  · cases hc
 | insert t m q x =>
  simp only [zcg] at hc
  split at hc
  · rename_i kt e hm
    split at hc
    · rename_i ks m' q' x' hk hm' hq' hx'
      cases hc
      obtain ⟨d1,ds1,rfl,e1,h2⟩:=zn hvs
      obtain ⟨d2,ds2,rfl,e2,h3⟩:=zn h2
      obtain ⟨d3,ds3,rfl,e3,h4⟩:=zn h3
      obtain rfl:=zad h4
      obtain ⟨w',hr,rfl,hrel,hev⟩:=zio h hm hk (zat h.tmpT hm' e1) (zat h.tmpT hq' e2) (zat h.tmpT hx' e3) hg
      exact zc9.mk' h hd (v:=undef) (.inr ⟨by simp [execOp,hr,Result.andThen],rfl⟩) hrel hev trivial (fun _ _ e=>by cases e)
    · cases hc
  · cases hc
 | mapEntry t m q =>
  simp only [zcg] at hc
  split at hc
  · rename_i kt e hm
    split at hc
    · rename_i ks z m' q' hk hz hm' hq'
      cases hc
      obtain ⟨d1,ds1,rfl,e1,h2⟩:=zn hvs
      obtain ⟨d2,ds2,rfl,e2,h3⟩:=zn h2
      obtain rfl:=zad h3
      obtain ⟨v,w',hr,hv,hno,hrel,hev⟩:=zpq h hm hk hz (zat h.tmpT hm' e1) (zat h.tmpT hq' e2) hg
      exact zc9.mk' h hd (.inl (by simp [execOp,hr])) hrel hev hv hno
    · cases hc
  · cases hc
 | entryStore t m s x =>
  simp only [zcg] at hc
  split at hc
  · rename_i p hm
    split at hc
    · rename_i m' s' x' hm' hs' hx'
      cases hc
      obtain ⟨d1,ds1,rfl,e1,h2⟩:=zn hvs
      obtain ⟨d2,ds2,rfl,e2,h3⟩:=zn h2
      obtain ⟨d3,ds3,rfl,e3,h4⟩:=zn h3
      obtain rfl:=zad h4
      obtain ⟨w',hr,rfl,hrel,hev⟩:=zmd (P:=c.P) (t:=t) h (zat h.tmpT hm' e1) (zat h.tmpT hs' e2) (zat h.tmpT hx' e3) hg
      exact zc9.mk' h hd (v:=undef) (.inr ⟨by simp [execOp,hr,Result.andThen],rfl⟩) hrel hev trivial (fun _ _ e=>by cases e)
    · cases hc
  · cases hc
 | entry it =>
  simp only [zcg,Option.map_eq_some_iff] at hc
  obtain ⟨it',hit,e⟩:=hc
  cases e
  obtain ⟨d1,ds1,rfl,e1,h2⟩:=zn hvs
  obtain rfl:=zad h2
  have hiv:=zat h.tmpT hit e1
  obtain ⟨q,rfl⟩:∃ q,d1=.gp q 0:=by
   cases d1 with
   | gp q off=>cases off with
     | zero=>exact ⟨q,rfl⟩
     | succ n=>simp [gdD] at hg
   | _=>simp [gdD] at hg
  have hiv':=zf7 hiv
  simp only [gdD] at hg
  split at hg
  · rename_i q0 since seen last hm
    split at hg
    · rename_i s es clock hl hq
      split at hg
      · rename_i hcl
        subst hcl
        simp only [Option.map_eq_some_iff] at hg
        obtain ⟨e0,he0,e2⟩:=hg
        cases e2
        obtain ⟨vs,hvs,hsz,hent⟩:=h.h.x.map hq
        have hit':w.heap[q]?=some (.mapIter (some q0) since seen.toArray clock):=h.h.x q _ hm
        have hfind:∀ {es:List ME} {vs:List MapEntry},vs.length=es.length→(∀ (j:Nat) (e:ME) (v:MapEntry),es[j]?=some e→vs[j]?=some v→zdm S e v)→es.find? (fun e=>e.b == s)=some e0→∃ v,vs.find? (fun e=>e.born == s)=some v∧zdm S e0 v:=by
         intro es
         induction es with
         | nil=>intro vs _ _ h;simp at h
         | cons e es ih =>
          intro vs hl he hf
          cases vs with
          | nil=>simp at hl
          | cons v vs =>
           have h0:=he 0 e v rfl rfl
           rw [List.find?_cons] at hf ⊢
           rw [h0.2.2]
           split at hf
           · cases hf;exact ⟨v,rfl,h0⟩
           · exact ih (by simpa using hl) (fun j e' v' a b=>he (j+1) e' v' (by simpa using a) (by simpa using b)) hf
        obtain ⟨v,hv,hve⟩:=hfind (vs:=vs.toList) (by simpa using hsz) (fun j e v a b=>hent j e v a (by simpa using b)) he0
        have hback:seen.toArray.back?=some s:=by rw [← hl];simp [Array.back?_eq_getElem?,List.getLast?_eq_getElem?]
        have hva:vs.find? (fun e=>e.born == s)=some v:=by rw [← hv];cases vs;simp
        refine zc9.mk' (v:=.tuple #[v.key,v.val]) h hd (.inl ?_) h (Evo.refl _ _ _ _) ⟨_,rfl,zux hve.1 hve.2.1⟩ (fun _ _ e=>by cases e)
        simp [execOp,hiv',Instr.entry,getObj,Sem.run,hit',hvs,Result.andThen,hback,hva]
      · cases hg
    · cases hg
  · cases hg
 | binOp bop t p q u =>
  simp only [zcg] at hc
  split at hc
  · rename_i d hu
    have main:∀ {kn:Nat} {neg:Bool} {p':AO},zmk d q=some kn→cO p=some p'→((bop=.eql∧neg=false)∨(bop=.neq∧neg=true))→AOp.gd (.pnil kn neg) [p']=AOp.gd k as→zc9 c.P S ms ow base O σ a w ⟨dst,.binOp bop t p q u,ty,pos,after,guard⟩ (put ρ dst r,L,σ,G1):=by
     intro kn neg p' hn hp hop he
     cases he
     obtain ⟨d1,ds1,rfl,e1,h2⟩:=zn hvs
     obtain rfl:=zad h2
     obtain ⟨rfl,b,rfl,hr⟩:=z00 (P:=c.P) (w:=w) (a:=a) hu hn (zat h.tmpT hp e1) hop hg p
     exact zc9.mk' (v:=.bool b) h hd (.inl (by simp only [execOp,Sem.run_bind,Sem.run_pure] at hr ⊢;rw [hr];rfl)) h (Evo.refl _ _ _ _) (VRD.bool _) (fun _ _ e=>by cases e)
    split at hc
    · rename_i kn p' hn hp;exact main hn hp (.inl ⟨rfl,rfl⟩) (Option.some.inj hc)
    · rename_i kn p' hn hp;exact main hn hp (.inr ⟨rfl,rfl⟩) (Option.some.inj hc)
    · cases hc
  · cases hc
 | makeFunc fn first caps =>
  cases fn with
  | func f =>
   simp only [zcg] at hc
   split at hc
   · rename_i hcond
     simp only [Bool.and_eq_true] at hcond
     simp only [Option.map_eq_some_iff] at hc
     obtain ⟨xs,hxs,e⟩:=hc
     injection e with e1 e2
     subst e1;subst e2
     have hds:=zj6 h.tmpT caps.toList xs vs hxs hvs
     simp only [gdD] at hg
     split at hg
     · rename_i hone
       cases hg
       have hf0:first=#[]:=by
        have:=hcond.1
        cases first with
        | mk l=>cases l with
          | nil=>rfl
          | cons x l=>simp [Array.isEmpty] at this
       subst hf0
       refine zc9.mk' (v:=.func (.func f) #[] (caps.map a.eval)) h hd (.inl ?_) h (Evo.refl _ _ _ _) (VRD.clo f vs _ (by have:=hds.1;simpa using this) hone fun j x v hj hv=>hds.2 j x v hj (by simpa using hv)) (fun _ _ e=>by cases e)
       simp [execOp,Instr.makeFunc]
     · cases hg
   · split at hc
     · rename_i hcond
       simp only [Bool.and_eq_true] at hcond
       simp only [Option.map_eq_some_iff] at hc
       obtain ⟨xs,hxs,e⟩:=hc
       injection e with e1 e2
       subst e1;subst e2
       have hds:=zj6 h.tmpT first.toList xs vs hxs hvs
       simp only [gdD] at hg
       split at hg
       · rename_i hone
         cases hg
         have hf0:caps=#[]:=by
          have:=hcond.1
          cases caps with
          | mk l=>cases l with
            | nil=>rfl
            | cons x l=>simp [Array.isEmpty] at this
         subst hf0
         refine zc9.mk' (v:=.func (.func f) (first.map a.eval) #[]) h hd (.inl ?_) h (Evo.refl _ _ _ _) (VRD.bnd f vs _ (by have:=hds.1;simpa using this) hone fun j x v hj hv=>hds.2 j x v hj (by simpa using hv)) (fun _ _ e=>by cases e)
         simp [execOp,Instr.makeFunc]
       · cases hg
     · cases hc
  | _=>simp [zcg] at hc
 | slice t x lo hi mx =>
  simp only [zcg] at hc
  split at hc
  · rename_i n e harr
    split at hc
    · rename_i sz x' xs hsz hx hxs
      split at hc
      · cases hc
      · rename_i hcond
        cases Option.some.inj hc
        obtain ⟨d1,ds1,rfl,e1,h2⟩:=zn hvs
        have hxv:=zat h.tmpT hx e1
        obtain ⟨b,off,rfl⟩:∃ b off,d1=.gp b off:=by cases d1<;>first|exact ⟨_,_,rfl⟩|simp [gdD] at hg
        have hxv':=zf7 hxv
        simp only [gdD] at hg
        split at hg
        · rename_i l xs1 o1
          split at hg
          · rename_i hh xs2 o2
            split at hg
            · rename_i m o3
              split at hg
              · rename_i hb
                cases hg
                obtain ⟨ys1,p1,p2,p3⟩:=zpr h.tmpT hxs h2 o1
                obtain ⟨ys2,q1,q2,q3⟩:=zpr h.tmpT p1 p2 o2
                obtain ⟨ys3,r1,r2,r3⟩:=zpr h.tmpT q1 q2 o3
                have hbd:=zk6 (P:=c.P) (w:=w) (a:=a) (n:=n) p3 q3 r3 (by cases hi<;>simp at hcond ⊢;exact hcond) hb.1 hb.2.1 hb.2.2.1 hb.2.2.2
                have hsize:=z6 (P:=c.P) (w:=w) hsz
                have hml:(m.toNat=l.toNat)↔(m.toNat=l.toNat):=Iff.rfl
                have hadd:(⟨b,off,none⟩:Addr).add (l.toNat * sz)=⟨b,off+l.toNat * sz,none⟩:=zme rfl _
                refine zc9.mk' (v:=.slice (some (if m.toNat=l.toNat then ⟨b,off,none⟩ else ⟨b,off+l.toNat * sz,none⟩)) (hh.toNat - l.toNat) (m.toNat - l.toNat)) h hd (.inl ?_) h (Evo.refl _ _ _ _) ?_ (fun _ _ e=>by cases e)
                · have hrun:(Instr.sliceAt t (.pointer (some ⟨b,off,none⟩)) (lo.map a.eval) (hi.map a.eval) (mx.map a.eval)).run c.P w=.ok (.slice (some (if m.toNat=l.toNat then ⟨b,off,none⟩ else ⟨b,off+l.toNat * sz,none⟩)) (hh.toNat - l.toNat) (m.toNat - l.toNat)) w:=by
                   unfold arrD at harr
                   split at harr
                   · rename_i hu
                     cases harr
                     simp [Instr.sliceAt,Instr.sureAddr,run_underlying hu,hbd,hsize,hadd]
                   · rename_i ar hu
                     split at harr
                     · rename_i hu2
                       cases harr
                       simp [Instr.sliceAt,Instr.slice,asAddr,run_underlying hu,run_underlying hu2,hbd,hsize,hadd]
                     · cases harr
                   · cases harr
                  simp [execOp,hxv',hrun]
                · have:hh.toNat - l.toNat≤m.toNat - l.toNat:=by omega
                  split<;>exact VRD.gs _ _ _ _ this
              · cases hg
            · cases hg
          · cases hg
        · cases hg
    · cases hc
  · cases hc
 | makeInterface t x =>
  simp only [zcg] at hc
  split at hc
  · rename_i pe x' hu hx
    cases Option.some.inj hc
    obtain ⟨d1,ds1,rfl,e1,h2⟩:=zn hvs
    have hxv:=zat h.tmpT hx e1
    obtain rfl:=zad h2
    obtain ⟨b,off,rfl⟩:∃ b off,d1=.gp b off:=by cases d1<;>first|exact ⟨_,_,rfl⟩|simp [gdD] at hg
    simp only [gdD] at hg
    cases hg
    have hv:a.eval x=.pointer (some ⟨b,off,none⟩):=by
     generalize a.eval x=u at hxv
     cases hxv;rfl
    refine zc9.mk' (v:=.iface t (.pointer (some ⟨b,off,none⟩))) h hd (.inl ?_) h (Evo.refl _ _ _ _) (VRD.ifc _ _ _) (fun _ _ e=>by cases e)
    simp [execOp,Instr.makeInterface,run_underlying hu,hv]
  · cases hc
 | sliceToArrayPointer arr x =>
  simp only [zcg] at hc
  split at hc
  · rename_i n e x' hu hx
    cases Option.some.inj hc
    obtain ⟨d1,ds1,rfl,e1,h2⟩:=zn hvs
    have hxv:=zat h.tmpT hx e1
    obtain rfl:=zad h2
    obtain ⟨b,off,len,cap,rfl⟩:∃ b off len cap,d1=.gs b off len cap:=by cases d1<;>first|exact ⟨_,_,_,_,rfl⟩|simp [gdD] at hg
    simp only [gdD] at hg
    split at hg
    · rename_i hle
      cases hg
      have hv:a.eval x=.slice (some ⟨b,off,none⟩) len cap:=by
       generalize a.eval x=u at hxv
       cases hxv;rfl
      refine zc9.mk' (v:=.pointer (some ⟨b,off,none⟩)) h hd (.inl ?_) h (Evo.refl _ _ _ _) (VRD.gp _ _) (fun _ _ e=>by cases e)
      have hn:¬ len<n:=by omega
      simp [execOp,Instr.arrayAt,run_underlying hu,hv,hn]
    · cases hg
  · cases hc
 | convert s d x =>
  simp only [zcg] at hc
  split at hc
  · split at hc
    · rename_i e hs hd'
      split at hc
      · rename_i hu8
        split at hc
        · rename_i hsz
          simp only [Option.map_eq_some_iff] at hc
          obtain ⟨x',hx,e'⟩:=hc
          cases e'
          obtain ⟨d1,ds1,rfl,e1,h2⟩:=zn hvs
          obtain rfl:=zad h2
          have hxv:=zat h.tmpT hx e1
          simp only [gdD] at hg
          split at hg
          · rename_i n cs hvw
            simp only [Option.map_eq_some_iff] at hg
            obtain ⟨l,hl,e2⟩:=hg
            cases e2
            have hrun:=z01 (P:=c.P) h.h hvw hxv hl
            refine zc9.mk' (v:=.string ⟨l.toArray⟩) h hd (.inl ?_) h (Evo.refl _ _ _ _) (VRD.str _ _ rfl) (fun _ _ e=>by cases e)
            have hue:c.P.underlying e=some (.int .u8):=by
             unfold zzp at hu8
             split at hu8
             · rename_i h';exact h'
             · cases hu8
            have hcv:(Go.convert s d (a.eval x)).run c.P w=.ok (.string ⟨l.toArray⟩) w:=by
             obtain ⟨bb,nn,cc,hsl⟩:∃ b n cap,a.eval x=.slice b n cap:=by
              generalize a.eval x=u at hxv
              cases hxv<;>first|exact ⟨_,_,_,rfl⟩|(simp [zb2] at hvw)
             rw [hsl] at hrun ⊢
             simp only [Go.convert,Sem.run_bind,run_underlying hs,run_underlying hd',run_underlying hue,Result.andThen_ok,hrun]
            simp [execOp,hcv]
          · cases hg
        · cases hc
      · cases hc
    · cases hc
  · cases hc
 | call cl =>
  obtain ⟨callee,⟨as'⟩,⟨ts⟩⟩:=cl
  simp only [zcg] at hc
  split at hc
  · -- len
    rename_i x t
    split at hc
    · rename_i x' p hx hm
      cases Option.some.inj hc
      obtain ⟨d1,ds1,rfl,e1,h2⟩:=zn hvs
      obtain rfl:=zad h2
      have hxv:=zat h.tmpT hx e1
      have hu:=zfw (P:=c.P) (t:=t) (k:=p.1) (e:=p.2) hm
      simp only [gdD] at hg
      split at hg
      · cases hg
        have hxv':=zha hxv
        have hr:(Builtin.len_ #[t] ty #[a.eval x]).run c.P w=.ok (.int .i64 0) w:=by
         rw [hxv'];simp [Builtin.len_,run_underlying hu,Result.andThen];rfl
        exact zc9.mk' (v:=.int .i64 0) (r:=.d (.int .i64 0)) h hd (.inl (by simp only [execOp,resolve,invoke,Sem.run_bind,Sem.run_pure,Result.andThen_ok,Go.builtin,List.map_toArray,List.map_cons,List.map_nil,hr])) h (Evo.refl _ _ _ _) (VRD.int _ _) (fun _ _ e=>by cases e)
      · simp only [Option.map_eq_some_iff] at hg
        obtain ⟨⟨es,cl⟩,hmp,e⟩:=hg
        cases e
        obtain ⟨q,rfl,hmq⟩:=zd8 hmp
        obtain ⟨vs,hvs',hsz,hent⟩:=h.h.x.map hmq
        have hxv':=zdu hxv
        have hr:(Builtin.len_ #[t] ty #[a.eval x]).run c.P w=.ok (.int .i64 es.length) w:=by
         rw [hxv'];simp [Builtin.len_,run_underlying hu,Result.andThen,MapKept.run_getObj_map hvs',goInt,hsz]
        exact zc9.mk' (v:=.int .i64 es.length) (r:=.d (.int .i64 es.length)) h hd (.inl (by simp only [execOp,resolve,invoke,Sem.run_bind,Sem.run_pure,Result.andThen_ok,Go.builtin,List.map_toArray,List.map_cons,List.map_nil,hr])) h (Evo.refl _ _ _ _) (VRD.int _ _) (fun _ _ e=>by cases e)
    · cases hc
  · -- delete
    rename_i m q t ts'
    split at hc
    · rename_i kt e hm
      split at hc
      · rename_i ks m' q' hk hm' hq'
        cases Option.some.inj hc
        obtain ⟨d1,ds1,rfl,e1,h2⟩:=zn hvs
        obtain ⟨d2,ds2,rfl,e2,h3⟩:=zn h2
        obtain rfl:=zad h3
        obtain ⟨w',hr,rfl,hrel,hev⟩:=zu0 (ty:=ty) h hm hk (zat h.tmpT hm' e1) (zat h.tmpT hq' e2) hg ts'
        exact zc9.mk' (v:=.tuple #[]) h hd (.inl (by simp only [execOp,resolve,invoke,Sem.run_bind,Sem.run_pure,Result.andThen_ok,Go.builtin,List.map_toArray,List.map_cons,List.map_nil,hr])) hrel hev ⟨_,rfl,zz.nil⟩ (fun _ _ e=>by cases e)
      · cases hc
    · cases hc
  · -- clear
    rename_i x t
    split at hc
    · rename_i e x' he hx
      have hu:=zfb he
      split at hc
      · rename_i sz z hsz hz
        split at hc
        · rename_i hcond
          cases Option.some.inj hc
          obtain ⟨d1,ds1,rfl,e1,h2⟩:=zn hvs
          obtain rfl:=zad h2
          have hxv:=zat h.tmpT hx e1
          obtain ⟨zv,hzr,hzs,hzo,_⟩:=zbs (S:=S) hz
          simp only [gdD] at hg
          split at hg
          · cases hg
            have hxv':=VRD.nilS_inv hxv
            have hr:(Builtin.clear_ #[t] ty #[a.eval x]).run c.P w=.ok (.tuple #[]) w:=by
             rw [hxv'];simp [Builtin.clear_,run_underlying hu,Result.andThen]
            exact zc9.mk' (v:=.tuple #[]) (r:=.tup []) h hd (.inl (by simp only [execOp,resolve,invoke,Sem.run_bind,Sem.run_pure,Result.andThen_ok,Go.builtin,List.map_toArray,List.map_cons,List.map_nil,hr])) h (Evo.refl _ _ _ _) ⟨_,rfl,zz.nil⟩ (fun _ _ e=>by cases e)
          · rename_i b off n cap
            obtain ⟨hxv',_⟩:=zhb (x:=.d (.gs b off n cap)) (lv:=L::σ) (ms:=ms) hxv rfl
            split at hg
            · rename_i hn
              cases hg
              subst hn
              have hr:(Builtin.clear_ #[t] ty #[a.eval x]).run c.P w=.ok (.tuple #[]) w:=by
               rw [hxv'];simp [Builtin.clear_,run_underlying hu,Result.andThen]
              exact zc9.mk' (v:=.tuple #[]) (r:=.tup []) h hd (.inl (by simp only [execOp,resolve,invoke,Sem.run_bind,Sem.run_pure,Result.andThen_ok,Go.builtin,List.map_toArray,List.map_cons,List.map_nil,hr])) h (Evo.refl _ _ _ _) ⟨_,rfl,zz.nil⟩ (fun _ _ e=>by cases e)
            · rename_i hn
              split at hg
              · rename_i cs hcs
                split at hg
                · rename_i hfit
                  cases hg
                  obtain ⟨c0,e0,hc0,hvc,hone⟩:=h.h.gbox hcs
                  have hcl:c0.size=cs.length:=by have:=hvc.1;simpa using this
                  have hzl:zv.cells.size=sz:=by have:=hzs.1;simp at this;omega
                  have hzz:=zcp hzs n
                  have hzn:(Builtin.zeroCells zv.cells n).toList.length=n * sz:=by rw [Array.length_toList,zde,hzl]
                  have hst:=run_storeCells_at c.P b off e0 (Builtin.zeroCells zv.cells n).toList 0 c0 w hc0 (by rw [hzn,hcl];omega) (hzz.one (ze2 hzo n))
                  have hr:(Builtin.clear_ #[t] ty #[a.eval x]).run c.P w=.ok (.tuple #[]) (w.setRow b (c0.toList.take off++(Builtin.zeroCells zv.cells n).toList++c0.toList.drop (off+(Builtin.zeroCells zv.cells n).toList.length)).toArray):=by
                   simp only [Nat.add_zero] at hst
                   rw [hxv']
                   have:∀ k,n=k→k≠0→(Builtin.clear_ #[t] ty #[.slice (some ⟨b,off,none⟩) k cap]).run c.P w=.ok (.tuple #[]) (w.setRow b (c0.toList.take off++(Builtin.zeroCells zv.cells n).toList++c0.toList.drop (off+(Builtin.zeroCells zv.cells n).toList.length)).toArray):=by
                    intro k hk h0
                    subst hk
                    obtain ⟨n',rfl⟩:∃ n',n=n'+1:=⟨n - 1,by omega⟩
                    simp only [Builtin.clear_]
                    simp [run_underlying hu,hzr,hst,Result.andThen]
                   exact this n rfl hn
                  have hbox:=zfa (w:=w) hc0 hvc hone hzz (ze2 hzo n) off
                  refine zc9.mk' (v:=.tuple #[]) (r:=.tup []) h hd (.inl (by simp only [execOp,resolve,invoke,Sem.run_bind,Sem.run_pure,Result.andThen_ok,Go.builtin,List.map_toArray,List.map_cons,List.map_nil,hr])) (h.storeG hcs (by simp) (fun i hi=>setRow_other w b i _ hi) hbox) (Evo.store (b:=b) (by simp) (fun i hi=>setRow_other w b i _ hi) (h.gold hcs) rfl rfl rfl) ⟨_,rfl,zz.nil⟩ (fun _ _ e=>by cases e)
                · cases hg
              · cases hg
          · cases hg
        · cases hc
      · cases hc
    · cases hc
  · -- copy
    rename_i x y t u
    split at hc
    · rename_i e x' y' hu he hx hy
      split at hc
      · rename_i hcond
        simp only [Bool.and_eq_true,beq_iff_eq] at hcond
        cases Option.some.inj hc
        obtain ⟨d1,ds1,rfl,e1,h2⟩:=zn hvs
        obtain ⟨d2,ds2,rfl,e2,h3⟩:=zn h2
        obtain rfl:=zad h3
        have hut:=zfb he
        obtain ⟨b,off,n,cap,rfl⟩:∃ b off n cap,d1=.gs b off n cap:=by cases d1<;>first|exact ⟨_,_,_,_,rfl⟩|simp [gdD] at hg
        obtain ⟨s,rfl⟩:∃ s,d2=.str s:=by cases d2<;>first|exact ⟨_,rfl⟩|simp [gdD] at hg
        have hxv:=zat h.tmpT hx e1
        obtain ⟨hxv',_⟩:=zhb (x:=.d (.gs b off n cap)) (lv:=L::σ) (ms:=ms) hxv rfl
        obtain ⟨bs,hyv',hbs⟩:=(zat h.tmpT hy e2).str_inv
        simp only [gdD] at hg
        split at hg
        · rename_i cs hcs
          split at hg
          · rename_i hfit
            cases hg
            obtain ⟨c0,e0,hc0,hvc,hone⟩:=h.h.gbox hcs
            have hcl:c0.size=cs.length:=by have:=hvc.1;simpa using this
            have hsl:bs.size=s.length:=by
             show bs.data.size=_
             rw [← hbs,Array.length_toList]
            let news:List Value:=(s.take n).map fun u=>Value.int .u8 u.toNat
            have hnv:zz S ((s.take n).map fun u=>D.int .u8 u.toNat) news:=by
             refine ⟨by simp [news],fun j x v hj hv=>?_⟩
             simp only [news,List.getElem?_map] at hj hv
             cases hq:(s.take n)[j]? with
             | none=>rw [hq] at hj;cases hj
             | some q=>rw [hq] at hj hv;cases hj;cases hv;exact VRD.int _ _
            have hno:((s.take n).map fun u=>D.int .u8 u.toNat).all D.one=true:=by
             rw [List.all_eq_true];intro x hx;obtain ⟨u,_,rfl⟩:=List.mem_map.1 hx;rfl
            have hnl:news.length=min n s.length:=by simp [news]
            have hst:=run_storeCells_at c.P b off e0 news 0 c0 w hc0 (by rw [hnl,hcl];omega) (hnv.one hno)
            have hr:(Builtin.copy_ #[t,u] ty #[a.eval x,a.eval y]).run c.P w=.ok (.int .i64 (min n s.length:Nat)) (w.setRow b (c0.toList.take off++news++c0.toList.drop (off+news.length)).toArray):=by
             simp only [Nat.add_zero] at hst
             rw [hxv',hyv']
             simp [Builtin.copy_,run_underlying hut,z6 hcond.2,Result.andThen,goInt,Builtin.lenOf,Builtin.firstCells]
             have hl2:List.take (min bs.size n) (List.map (fun b=>Value.int IntKind.u8 b.toNat) bs.data.toList)=news:=by
              simp only [news,hbs,hsl,← List.map_take]
              congr 1
              by_cases hh:n≤s.length
              · rw [Nat.min_eq_right hh]
              · rw [Nat.min_eq_left (by omega),List.take_of_length_le (Nat.le_refl _),List.take_of_length_le (by omega)]
             rw [hl2,hst,hsl,Nat.min_comm]
             simp
            have hbox:=zfa (w:=w) hc0 hvc hone hnv hno off
            exact zc9.mk' (v:=.int .i64 (min n s.length:Nat)) (r:=.d (.int .i64 (min n s.length:Nat))) h hd (.inl (by simp only [execOp,resolve,invoke,Sem.run_bind,Sem.run_pure,Result.andThen_ok,Go.builtin,List.map_toArray,List.map_cons,List.map_nil,hr])) (h.storeG hcs (by simp) (fun i hi=>setRow_other w b i _ hi) hbox) (Evo.store (b:=b) (by simp) (fun i hi=>setRow_other w b i _ hi) (h.gold hcs) rfl rfl rfl) (VRD.int _ _) (fun _ _ e=>by cases e)
          · cases hg
        · cases hg
      · cases hc
    · cases hc
  · cases hc
 | alloc e =>
  simp only [zcg] at hc
  split at hc
  · split at hc
    · split at hc<;>cases hc
    · cases hc
  · cases hc
 | box e x =>
  simp only [zcg] at hc
  split at hc
  · split at hc<;>cases hc
  · cases hc
 | makeMap t x =>
  cases x with
  | none=>simp [zcg] at hc
  | some x=>simp [zcg] at hc
 | makeSlice t x y =>
  simp only [zcg] at hc
  split at hc
  · split at hc
    · split at hc<;>cases hc
    · cases hc
  · cases hc
 | range t x =>
  simp only [zcg] at hc
  split at hc<;>cases hc
 | next x y =>
  cases y with
  | false=>simp [zcg] at hc
  | true=>simp [zcg] at hc
 | _=>simp [zcg] at hc
end
end Go.E2
namespace Go.E2
open Go.MapKept
section
variable {S:Stb} {ms:List (Nat→Nat)} {ow:Nat→Option Nat} {base:Nat} {O:Nat→Prop} {ρ:Env} {L:Hp} {σ:List Hp} {G:Gh} {a:Act} {w:World} {c:Ctx} {P:Program}
theorem zu1 {es:List ME} {vs:Array MapEntry} (hsz:vs.size=es.length) (hent:∀ (j:Nat) (e:ME) (v:MapEntry),es[j]?=some e→vs[j]?=some v→zdm S e v) {v:MapEntry} (hv:v∈vs.toList):∃ e∈es,zdm S e v:=by
 obtain ⟨j,hj⟩:=List.getElem?_of_mem hv
 have hj':vs[j]?=some v:=by simpa using hj
 have hlt:j<es.length:=by have:=(Array.getElem?_eq_some_iff.1 hj').1;omega
 exact ⟨es[j],List.getElem_mem hlt,hent j _ v (List.getElem?_eq_getElem hlt) hj'⟩
theorem zx1 {es:List ME} {vs:Array MapEntry} (hsz:vs.size=es.length) (hent:∀ (j:Nat) (e:ME) (v:MapEntry),es[j]?=some e→vs[j]?=some v→zdm S e v) {e:ME} (he:e∈es):∃ v∈vs.toList,zdm S e v:=by
 obtain ⟨j,hj⟩:=List.getElem?_of_mem he
 obtain ⟨v,hv⟩:=zj5 hsz hj
 exact ⟨v,by rw [Array.mem_toList_iff];exact Array.mem_of_getElem? hv,hent j e v hj hv⟩
theorem z98 [DD] (h:Rel S ms ow base O ρ L σ G a w) {o:Oper} {k:GN} {as:List AO} (hc:zcg c o.dst o.op=some (.gn k as)) (hd:∀ i,o.dst=some i→i<a.tmps.size) {vs:List D} (hvs:zx ρ as=some vs) {K:AV→Gh→Prop} (hg:gnW k vs G K) :
 ∃ r G1,K r G1∧zc9 c.P S ms ow base O σ a w o (put ρ o.dst r,L,σ,G1):=by
 obtain ⟨dst,op,ty,pos,after,guard⟩:=o
 simp only at hc hd
 cases op with
 | alloc e =>
  simp only [zcg] at hc
  split at hc
  · split at hc
    · rename_i n z hn hz
      split at hc
      · rename_i hzn
        cases Option.some.inj hc
        obtain rfl:=zad hvs
        obtain ⟨zv,hzr,hzs,hzo,_⟩:=zbs (S:=S) hz
        have hr:(execOp a.eval ⟨dst,.alloc e,ty,pos,after,guard⟩).run c.P w=.ok (.value (.pointer (some ⟨w.heap.size,0,none⟩))) (w.alloc (.cells zv.cells e)):=by
         simp only [execOp,Instr.alloc,Sem.run_bind,hzr,Result.andThen_ok,zfx,Sem.run_pure]
        exact ⟨_,_,hg w.heap.size h.g_none,zc9.mk' (r:=.d (.gp w.heap.size 0)) h hd (.inl hr) (h.allocG za3 (fun b hb=>zq hb) ⟨zv.cells,e,zab,hzs,hzo⟩) (Evo.alloc h.bas _) (VRD.gp _ _) (fun _ _ e=>by cases e)⟩
      · cases hc
    · cases hc
  · cases hc
 | box e x =>
  simp only [zcg] at hc
  split at hc
  · split at hc
    · rename_i n x' hn hx
      cases Option.some.inj hc
      obtain ⟨d1,ds1,rfl,e1,h2⟩:=zn hvs
      obtain rfl:=zad h2
      have hv:=zat h.tmpT hx e1
      have hr:(execOp a.eval ⟨dst,.box e x,ty,pos,after,guard⟩).run c.P w=.ok (.value (.pointer (some ⟨w.heap.size,0,none⟩))) (w.alloc (.cells (a.eval x).cells e)):=by
       simp only [execOp,Instr.box,Sem.run_bind,zfx,Result.andThen_ok,Sem.run_pure]
      exact ⟨_,_,hg.2 w.heap.size h.g_none,zc9.mk' (r:=.d (.gp w.heap.size 0)) h hd (.inl hr) (h.allocG za3 (fun b hb=>zq hb) ⟨_,e,zab,hv.cells.1,zh3 hg.1⟩) (Evo.alloc h.bas _) (VRD.gp _ _) (fun _ _ e=>by cases e)⟩
    · cases hc
  · cases hc
 | makeMap t x =>
  cases x with
  | some x=>simp [zcg] at hc
  | none =>
   simp only [zcg,Option.map_eq_some_iff] at hc
   obtain ⟨p,hm,e⟩:=hc
   cases e
   obtain rfl:=zad hvs
   have hr:(execOp a.eval ⟨dst,.makeMap t none,ty,pos,after,guard⟩).run c.P w=.ok (.value (.map (some w.heap.size))) (w.alloc (.map #[] 0)):=by
    simp [execOp,Instr.makeMap]
   obtain ⟨k1,k2⟩:=h.newM (o1:=.map [] 0) (obj:=.map #[] 0) ⟨#[],rfl,rfl,fun j e v h=>by simp at h⟩
   exact ⟨_,_,hg w.heap.size h.m_none,zc9.mk' (r:=.d (.mref w.heap.size)) h hd (.inl hr) k1 k2 (VRD.mref _) (fun _ _ e=>by cases e)⟩
 | makeSlice t x y =>
  simp only [zcg] at hc
  split at hc
  · rename_i e he
    split at hc
    · rename_i sz by_ z l q hsz hby hz hl hq
      split at hc
      · rename_i hcond
        cases Option.some.inj hc
        obtain ⟨d1,ds1,rfl,e1,h2⟩:=zn hvs
        obtain ⟨d2,ds2,rfl,e2,h3⟩:=zn h2
        obtain rfl:=zad h3
        have hut:=zfb he
        obtain ⟨k1,n1,rfl⟩:∃ k n,d1=.int k n:=by cases d1<;>first|exact ⟨_,_,rfl⟩|simp [gnW] at hg
        obtain ⟨k2,n2,rfl⟩:∃ k n,d2=.int k n:=by cases d2<;>first|exact ⟨_,_,rfl⟩|simp [gnW] at hg
        have hlv:=(zat h.tmpT hl e1).int_inv
        have hqv:=(zat h.tmpT hq e2).int_inv
        obtain ⟨g1,g2,g3,g4⟩:=hg
        obtain ⟨i,hi,hisz⟩:=zcs hsz
        have hbi:by_=i.bytes:=by unfold tby at hby;rw [hi] at hby;simp at hby;exact hby.symm
        obtain ⟨zv,hzr,hzs,hzo,i',hi',hiz⟩:=zbs (S:=S) hz
        rw [hi] at hi'
        cases hi'
        have hzl:zv.cells.size=sz:=by have:=hzs.1;simp at this;omega
        subst hbi
        have hb2:(i.bytes:Int) * n2≤281474976710656:=by
         obtain ⟨m,rfl⟩:∃ m:Nat,n2=m:=⟨n2.toNat,by omega⟩
         simp only [Int.toNat_natCast,mostBytes] at g3
         have:((i.bytes * m:Nat):Int)≤281474976710656:=by rw [Nat.mul_comm];omega
         rwa [Int.natCast_mul] at this
        have h63:n2≤9223372036854775807:=by
         obtain ⟨m,rfl⟩:∃ m:Nat,n2=m:=⟨n2.toNat,by omega⟩
         simp only [Int.toNat_natCast,mostBytes] at g3
         have:=Nat.le_mul_of_pos_right m hcond.2.1
         omega
        have hmake:=run_make (P:=c.P) w t e i zv hut hi hiz k1 k2 n1 n2 g1 g2 hb2 h63
        have hcells:madeCells zv.cells (n2.toNat * i.size)=Builtin.zeroCells zv.cells n2.toNat:=by
         simp [madeCells,Builtin.zeroCells,hisz,hzl]
        rw [hcells] at hmake
        have hr:(execOp a.eval ⟨dst,.makeSlice t x y,ty,pos,after,guard⟩).run c.P w=.ok (.value (.slice (some ⟨w.heap.size,0,none⟩) n1.toNat n2.toNat)) (w.alloc (.cells (Builtin.zeroCells zv.cells n2.toNat) e)):=by
         simp [execOp,hlv,hqv,hmake]
        exact ⟨_,_,g4 w.heap.size h.g_none,zc9.mk' (r:=.d (.gs w.heap.size 0 n1.toNat n2.toNat)) h hd (.inl hr) (h.allocG za3 (fun b hb=>zq hb) ⟨_,e,zab,zcp hzs _,ze2 hzo _⟩) (Evo.alloc h.bas _) (VRD.gs _ _ _ _ (by omega)) (fun _ _ e=>by cases e)⟩
      · cases hc
    · cases hc
  · cases hc
 | range t x =>
  simp only [zcg] at hc
  split at hc
  · rename_i p x' hm hx
    cases Option.some.inj hc
    obtain ⟨d1,ds1,rfl,e1,h2⟩:=zn hvs
    obtain rfl:=zad h2
    have hxv:=zat h.tmpT hx e1
    have hu:=zfw (P:=c.P) (t:=t) (k:=p.1) (e:=p.2) hm
    simp only [gnW] at hg
    split at hg
    · have hxv':=zha hxv
      have hr:(execOp a.eval ⟨dst,.range t x,ty,pos,after,guard⟩).run c.P w=.ok (.value (.pointer (some ⟨w.heap.size,0,none⟩))) (w.alloc (.mapIter none 0 #[] 0)):=by
       simp [execOp,hxv',Instr.range,run_underlying hu]
      obtain ⟨k1,k2⟩:=h.newM (o1:=.iter none 0 [] 0) (obj:=.mapIter none 0 #[] 0) rfl
      exact ⟨_,_,hg w.heap.size h.m_none,zc9.mk' (r:=.d (.gp w.heap.size 0)) h hd (.inl hr) k1 k2 (VRD.gp _ _) (fun _ _ e=>by cases e)⟩
    · rename_i q
      split at hg
      · rename_i es clock hq
        obtain ⟨vs',hvs',hsz,hent⟩:=h.h.x.map hq
        have hxv':=zdu hxv
        have hr:(execOp a.eval ⟨dst,.range t x,ty,pos,after,guard⟩).run c.P w=.ok (.value (.pointer (some ⟨w.heap.size,0,none⟩))) (w.alloc (.mapIter (some q) clock #[] clock)):=by
         simp [execOp,hxv',Instr.range,run_underlying hu,MapKept.run_getObj_map hvs']
        obtain ⟨k1,k2⟩:=h.newM (o1:=.iter (some q) clock [] clock) (obj:=.mapIter (some q) clock #[] clock) rfl
        exact ⟨_,_,hg w.heap.size h.m_none,zc9.mk' (r:=.d (.gp w.heap.size 0)) h hd (.inl hr) k1 k2 (VRD.gp _ _) (fun _ _ e=>by cases e)⟩
      · exact hg.elim
    · exact hg.elim
  · cases hc
 | next x y =>
  cases y with
  | true=>simp [zcg] at hc
  | false =>
   simp only [zcg,Option.map_eq_some_iff] at hc
   obtain ⟨x',hx,e⟩:=hc
   cases e
   obtain ⟨d1,ds1,rfl,e1,h2⟩:=zn hvs
   obtain rfl:=zad h2
   have hxv:=zat h.tmpT hx e1
   obtain ⟨r,rfl⟩:∃ q,d1=.gp q 0:=by
    cases d1 with
    | gp q off=>cases off with
      | zero=>exact ⟨q,rfl⟩
      | succ n=>simp [gnW] at hg
    | _=>simp [gnW] at hg
   have hxv':=zf7 hxv
   simp only [gnW] at hg
   split at hg
   · rename_i s0 s1 s2 hm
     have hit:w.heap[r]?=some (.mapIter none s0 s1.toArray s2):=h.h.x r _ hm
     have hr:(Instr.next (a.eval x) false ty).run c.P w=.ok (.tuple #[.bool false]) w:=by
      rw [hxv'];simp [Instr.next,getObj,Sem.run,hit,Result.andThen]
     exact ⟨_,_,hg,zc9.mk' (r:=.tup [.bool false]) (v:=.tuple #[.bool false]) h hd (.inl (by simp [execOp,hr])) h (Evo.refl _ _ _ _) ⟨_,rfl,zz.cons (VRD.bool _) zz.nil⟩ (fun _ _ e=>by cases e)⟩
   · rename_i q since seen last hm
     have hit:w.heap[r]?=some (.mapIter (some q) since seen.toArray last):=h.h.x r _ hm
     split at hg
     · rename_i es clock hq
       obtain ⟨vs',hvs',hsz,hent⟩:=h.h.x.map hq
       obtain ⟨⟨g1,g2⟩,g3,g4⟩:=hg
       have hold:∀ x∈vs'.toList,x.born<since:=fun v hv=>by
        obtain ⟨e,he,hok⟩:=zu1 hsz hent hv
        rw [hok.2.2];exact g1 e he
       rcases Go.run_next_at (P:=c.P) w ty r q since last seen.toArray vs' clock hit hvs' hold g2 with ⟨hl0,hr⟩|⟨e,he,w1,hw1,hr⟩
       · have hall:∀ e∈es,e.b∈seen:=by
          intro e he
          obtain ⟨v,hv,hok⟩:=zx1 hsz hent he
          by_cases hs:e.b∈seen
          · exact hs
          · exfalso
            have:v∈(leftOf vs' seen.toArray):=by
             unfold leftOf
             rw [Array.mem_filter]
             refine ⟨by simpa using hv,?_⟩
             rw [hok.2.2]
             simpa using hs
            have:=Array.size_pos_of_mem this
            omega
         exact ⟨_,_,g3 hall,zc9.mk' (r:=.tup [.bool false]) (v:=.tuple #[.bool false]) h hd (.inl (by rw [← hxv'] at hr;simp [execOp,hr])) h (Evo.refl _ _ _ _) ⟨_,rfl,zz.cons (VRD.bool _) zz.nil⟩ (fun _ _ e=>by cases e)⟩
       · have hmem:e∈vs'.toList∧e.born ∉ seen:=by
          unfold leftOf at he
          rw [Array.mem_toList_iff,Array.mem_filter] at he
          refine ⟨by simpa using he.1,by simpa using he.2⟩
         obtain ⟨e0,he0,hok⟩:=zu1 hsz hent hmem.1
         have hns:e0.b ∉ seen:=by rw [← hok.2.2];exact hmem.2
         have hk:=g4 e0 he0 hns
         have hrel1:Rel S ms ow base O ρ L σ G a w1:=by
          rcases hw1 with rfl|rfl
          · exact h
          · exact h.drawn _
         have hm1:G.m r=some (.iter (some q) since seen last):=hm
         obtain ⟨k1,k2⟩:=hrel1.setM hm1 (o1:=.iter (some q) since (seen++[e0.b]) clock) (obj:=.mapIter (some q) since (seen.toArray.push e.born) clock) (by
          show some (Obj.mapIter (some q) since (seen.toArray.push e.born) clock)=some (.mapIter (some q) since (seen++[e0.b]).toArray clock)
          rw [hok.2.2];simp)
         have k2':Evo base O S w S (w1.putObj r (.mapIter (some q) since (seen.toArray.push e.born) clock)):=by
          rcases hw1 with rfl|rfl
          · exact k2
          · exact k2.drawn _
         refine ⟨_,_,hk,zc9.mk' (r:=.tup [.bool true,e0.k,e0.v]) (v:=.tuple #[.bool true,e.key,e.val]) h hd (.inl (by rw [← hxv'] at hr;simp [execOp,hr];rfl)) k1 k2' ⟨_,rfl,zz.cons (VRD.bool _) (zux hok.1 hok.2.1)⟩ (fun _ _ e=>by cases e)⟩
     · exact hg.elim
   · exact hg.elim
 | lookup t m q ok =>
  simp only [zcg] at hc
  split at hc
  · split at hc<;>cases hc
  · cases hc
 | mapUpdate t m q x =>
  simp only [zcg] at hc
  split at hc
  · split at hc<;>cases hc
  · cases hc
 | insert t m q x =>
  simp only [zcg] at hc
  split at hc
  · split at hc<;>cases hc
  · cases hc
 | mapEntry t m q =>
  simp only [zcg] at hc
  split at hc
  · split at hc<;>cases hc
  · cases hc
 | entryStore t m s x =>
  simp only [zcg] at hc
  split at hc
  · split at hc<;>cases hc
  · cases hc
 | entry it =>
  simp only [zcg,Option.map_eq_some_iff] at hc
  obtain ⟨_,_,e⟩:=hc
  cases e
 | binOp bop t p q u =>
  simp only [zcg] at hc
  split at hc
  · split at hc<;>cases hc
  · cases hc
 | makeFunc fn first caps =>
  cases fn with
  | func f =>
   simp only [zcg] at hc
   split at hc
   · simp only [Option.map_eq_some_iff] at hc
     obtain ⟨_,_,e⟩:=hc
     cases e
   · split at hc
     · simp only [Option.map_eq_some_iff] at hc
       obtain ⟨_,_,e⟩:=hc
       cases e
     · cases hc
  | _=>simp [zcg] at hc
 | slice t x lo hi mx =>
  simp only [zcg] at hc
  split at hc
  · split at hc
    · split at hc<;>cases hc
    · cases hc
  · cases hc
 | convert s d x =>
  simp only [zcg] at hc
  split at hc
  · split at hc
    · split at hc
      · split at hc
        · simp only [Option.map_eq_some_iff] at hc
          obtain ⟨_,_,e⟩:=hc
          cases e
        · cases hc
      · cases hc
    · cases hc
  · cases hc
 | call cl =>
  obtain ⟨callee,⟨as'⟩,⟨ts⟩⟩:=cl
  simp only [zcg] at hc
  split at hc
  · split at hc<;>cases hc
  · split at hc
    · split at hc<;>cases hc
    · cases hc
  · split at hc
    · split at hc
      · split at hc<;>cases hc
      · cases hc
    · cases hc
  · split at hc
    · split at hc<;>cases hc
    · cases hc
  · cases hc
 | sliceToArrayPointer arr x =>
  simp only [zcg] at hc
  split at hc<;>cases hc
 | makeInterface t x =>
  simp only [zcg] at hc
  split at hc<;>cases hc
 | _=>simp [zcg] at hc
end
end Go.E2
