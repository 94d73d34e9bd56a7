/-
 Operations on maps,and those that lay new blocks: what the evaluator says of them,the machine does.
 Conditions: none;laws.
-/
import Derived.Test.YtailhmffljoojaaEO7
import Derived.MapKept
import Derived.WideKeyRuns
import Derived.RangeFuncRecord
import Derived.Maps.RangeRun
namespace Go.E2
open Go.MapKept
section
variable {S:Stb} {ms:List (Nat→Nat)} {ow:Nat→Option Nat} {base:Nat} {O:Nat→Prop} {ρ:Env} {L:Hp} {σ:List Hp} {G:Gh} {a:Act} {w:World} {c:Ctx} {o:Oper}
theorem zd6.heap {b:Nat} {cs:List D} (h:zd6 S w b cs):∃ vs e,w.heap[b]?=some (.cells vs e (0,0)):=by
 obtain ⟨vs,e,h1,_⟩:=h;exact ⟨vs,e,h1⟩
theorem Rel.worldM (h:Rel S ms ow base O ρ L σ G a w) {G':Gh} {w':World} (hc:G'.c=G.c) (hx:zkp S G' w') (hsz:w.heap.size≤w'.heap.size)
 (hw:∀ (b:Nat) (o:Obj),w.heap[b]?=some o→isM o=false→w'.heap[b]?=some o) (hm:∀ b o,G'.m b=some o→b<base→O b):Rel S ms ow base O ρ L σ G' a w':=by
 have keepB:∀ {b cs},zd6 S w b cs→w'.heap[b]?=w.heap[b]?:=fun hb=>by
  obtain ⟨vs,e,h1⟩:=hb.heap
  rw [h1,hw _ _ h1 rfl]
 have at_:∀ {b cs},G' b=some cs→G b=some cs:=fun {b cs} hb=>by rw [hc] at hb;exact hb
 refine { h:=⟨fun ad v hs=>?_,h.h.len,fun hl=>(h.h.box hl).mono (Sub.refl S) (keepB (h.h.box hl)),h.h.nos,h.h.inj,fun hb=>(h.h.gbox (at_ hb)).mono (Sub.refl S) (keepB (h.h.gbox (at_ hb))),fun hb=>h.h.gnos (at_ hb),fun hb=>h.h.gnl (at_ hb),hx,h.h.tab⟩,
          tmp:=h.tmp,own:=fun {i sz es} hi=>?_,ownI:=h.ownI,ownB:=fun {i sz es g} hi gi=>⟨(h.ownB hi gi).1,by rw [hc];exact (h.ownB hi gi).2.1,(h.ownB hi gi).2.2⟩,new:=h.new,old:=h.old,gold:=fun hb=>h.gold (at_ hb),mold:=fun hb=>hm _ _ hb,
          dfs:=h.dfs.keep fun r _ hr=>hw r _ hr rfl,bas:=Nat.le_trans h.bas hsz }
 · have h1:=h.h.sub _ _ hs
   unfold World.cell? at h1 ⊢
   split at h1
   · rename_i c0 e0 f0 e1
     rw [hw _ _ e1 rfl]
     exact h1
   · cases h1
 · have ho:=h.own hi
   refine ho.mono (Sub.refl S) (fun g hg=>?_) (fun _ _ _ _=>rfl)
   rw [hg] at ho
   obtain ⟨cap,cur,e,_,⟨_,h2,_⟩,_⟩:=ho
   rw [h2,hw _ _ h2 rfl]
theorem zbh {r:Nat} {obj:Obj} (hr:r<w.heap.size) (b:Nat):(w.putObj r obj).heap[b]?=if b=r then some obj else w.heap[b]?:=by
 by_cases h:b=r
 · subst h;rw [if_pos rfl];exact World.putObj_heap_same hr
 · rw [if_neg h];exact World.putObj_heap_other h
theorem Rel.setM (h:Rel S ms ow base O ρ L σ G a w) {r:Nat} {o0 o1:MO} {obj:Obj} (hr:G.m r=some o0) (hk:MOk S (some obj) o1) :
 Rel S ms ow base O ρ L σ (G.setM r (some o1)) a (w.putObj r obj)∧Evo base O S w S (w.putObj r obj):=by
 have hlt:=h.h.x.lt hr
 obtain ⟨x0,hx0,hi0⟩:=h.h.x.get hr
 refine ⟨h.worldM rfl (fun b o hb=>?_) (by simp) (fun b o hb ho=>?_) (fun b o hb hlb=>?_),⟨by simp,fun b hb hn=>?_,fun _ _=>rfl,Sub.refl S,rfl,rfl,rfl⟩⟩
 · rw [zbh hlt]
   simp only [Gh.setM_m,upd] at hb
   split at hb
   · rename_i e;subst e;cases hb;rw [if_pos rfl];exact hk
   · rename_i e;rw [if_neg e];exact h.h.x b o hb
 · rw [zbh hlt,if_neg]
   · exact hb
   · rintro rfl;rw [hx0] at hb;cases hb;rw [hi0] at ho;cases ho
 · simp only [Gh.setM_m,upd] at hb
   split at hb
   · rename_i e;subst e;exact h.mold hr hlb
   · exact h.mold hb hlb
 · rw [zbh hlt,if_neg]
   rintro rfl
   exact hn (h.mold hr hb)
theorem Rel.m_none (h:Rel S ms ow base O ρ L σ G a w):G.m w.heap.size=none:=by
 cases hg:G.m w.heap.size with
 | none=>rfl
 | some c=>have:=h.h.x.lt hg;omega
theorem Rel.newM (h:Rel S ms ow base O ρ L σ G a w) {o1:MO} {obj:Obj} (hk:MOk S (some obj) o1) :
 Rel S ms ow base O ρ L σ (G.setM w.heap.size (some o1)) a (w.alloc obj)∧Evo base O S w S (w.alloc obj):=by
 refine ⟨h.worldM rfl (fun b o hb=>?_) (by rw [zav];omega) (fun b o hb _=>?_) (fun b o hb hlb=>?_),Evo.alloc h.bas _⟩
 · simp only [Gh.setM_m,upd] at hb
   split at hb
   · rename_i e;subst e;cases hb;rw [z4];exact hk
   · rw [zn (h.h.x.lt hb)];exact h.h.x b o hb
 · rw [zn (Array.getElem?_eq_some_iff.1 hb).1];exact hb
 · simp only [Gh.setM_m,upd] at hb
   split at hb
   · rename_i e;subst e;exact absurd h.bas (by omega)
   · exact h.mold hb hlb
theorem zcr.drawn {lv:List Hp} (h:zcr S ms lv G w) (d:Nat):zcr S ms lv G { w with drawn:=d }:=⟨h.sub,h.len,h.box,h.nos,h.inj,h.gbox,h.gnos,h.gnl,h.x,h.tab⟩
theorem Rel.drawn (h:Rel S ms ow base O ρ L σ G a w) (d:Nat):Rel S ms ow base O ρ L σ G a { w with drawn:=d } :=
 { h:=h.h.drawn d,tmp:=h.tmp,own:=fun {i sz es} hi=>by
     have:=h.own hi
     cases ho:ow i with
     | none=>rw [ho] at this;exact this
     | some g=>rw [ho] at this;exact this
   ownI:=h.ownI,ownB:=h.ownB,new:=h.new,old:=h.old,gold:=h.gold,mold:=h.mold,dfs:=h.dfs,bas:=h.bas }
theorem Evo.drawn (d:Nat) {S':Stb} {w':World} (h:Evo base O S { w with drawn:=d } S' w'):Evo base O S w S' w' :=
 ⟨h.sz,h.keep,h.st,h.sub,h.os,h.tape,h.out⟩
theorem zc5.mk' {P:Program} {G':Gh} {r:AV} {v:Value} {w':World} (h:Rel S ms ow base O ρ L σ G a w) (hd:∀ i,o.dst=some i→i<a.tmps.size) (hrun:(execOp a.eval o).run P w=.ok (.value v) w'∨((execOp a.eval o).run P w=.ok .skip w'∧v=undef))
 (hrel:Rel S ms ow base O ρ L σ G' a w') (hevo:Evo base O S w S w') (hv:VR S (L::σ) ms r v) (hno:∀ sz es,r≠.own sz es):zc5 P S ms ow base O σ a w o (put ρ o.dst r,L,σ,G'):=by
 obtain ⟨m,hm⟩:=za0 h
 exact ⟨v,w',S,m,ow,hrun,by rw [← hm];exact hrel.put hv hno hd,hevo,zab.refl _⟩
theorem zm {x:AO} {xs:List AO} {vs:List D} (h:zq ρ (x::xs)=some vs):∃ d ds,vs=d::ds∧(ev ρ x).data=some d∧zq ρ xs=some ds:=by
 simp only [zq] at h
 split at h
 · rename_i d ds h1 h2;cases h;exact ⟨d,ds,rfl,h1,h2⟩
 · cases h
theorem z9 {vs:List D} (h:zq ρ []=some vs):vs=[]:=by simp [zq] at h;exact h
theorem zap (ht:zet S (L::σ) ms ρ a) {p:Operand} {x:AO} (hx:cO p=some x) {d:D} (hd:(ev ρ x).data=some d):VRD S d (a.eval p):=(zb ht hx).data hd
theorem zm1 {kd:Kd} {d:TypeDesc} (hd:(d=.bool∧kd=.b)∨(∃ k,d=.int k∧kd=.i)∨(d=.string∧kd=.s)) {x y:D} {u v:Value} (hx:VRD S x u) (hy:VRD S y v) {r:Bool} (h:zbm kd x y=some r):Instr.sameNow d u v=some r:=by
 rcases hd with ⟨rfl,rfl⟩|⟨k,rfl,rfl⟩|⟨rfl,rfl⟩
 · cases x<;>cases y<;>simp [zbm] at h
   rw [hx.bool_inv,hy.bool_inv];simp [Instr.sameNow,h]
 · cases x<;>cases y<;>simp [zbm] at h
   rw [hx.int_inv,hy.int_inv];simp [Instr.sameNow,h]
 · cases x<;>cases y<;>simp [zbm] at h
   obtain ⟨s,rfl,rfl⟩:=hx.str_inv
   obtain ⟨s',rfl,rfl⟩:=hy.str_inv
   simp only [Instr.sameNow,Option.some.injEq]
   rw [← h]
   by_cases e:s=s'
   · subst e;rw [(bytes_beq s s).2 rfl];simp
   · have h1:(s == s')=false:=Bool.eq_false_iff.2 fun e2=>e ((bytes_beq _ _).1 e2)
     have h2:s.data.toList≠s'.data.toList:=fun e2=>e (by cases s;cases s';simp at e2 ⊢;exact e2)
     rw [h1];simpa using h2
def zlq (S:Stb):Option (Nat×D)→Option (Nat×Value)→Prop
 | none,none=>True
 | some (i,x),some (j,u)=>i=j∧VRD S x u
 | _,_=>False
theorem zjx {kd:Kd} {d:TypeDesc} (hd:(d=.bool∧kd=.b)∨(∃ k,d=.int k∧kd=.i)∨(d=.string∧kd=.s)) {key:D} {kv:Value} (hv:VRD S key kv) (h1:key.one=true) :
 ∀ (es:List ME) (vs:List MapEntry) (i:Nat) (r:Option (Nat×D)),vs.length=es.length→(∀ (j:Nat) (e:ME) (v:MapEntry),es[j]?=some e→vs[j]?=some v→zc9 S e v)→zd1 [kd] key es i=some r →
   ∃ r',Instr.findNow d kv vs i=some r'∧zlq S r r'
 | [],[],i,r,_,_,h=>by simp [zd1] at h;subst h;exact ⟨none,rfl,trivial⟩
 | [],_::_,i,r,hl,_,_=>by simp at hl
 | _::_,[],i,r,hl,_,_=>by simp at hl
 | e::es,v::vs,i,r,hl,he,h=>by
   have h0:=he 0 e v rfl rfl
   simp only [zd1] at h
   rw [D.cells_one h1] at h
   have key1:∀ {b},(if key.one=e.k.one then zg [kd] [key] e.k.cells else none)=some b→Instr.sameNow d kv v.key=some b:=by
    intro b hb
    split at hb
    · rename_i e1
      rw [D.cells_one (e1▸h1)] at hb
      simp only [zg] at hb
      split at hb
      · rename_i r1 hr1
        simp at hb
        subst hb
        exact zm1 hd hv h0.1 hr1
      · cases hb
    · cases hb
   split at h
   · rename_i hb
     cases h
     exact ⟨some (i,v.val),by simp [Instr.findNow,key1 hb],rfl,h0.2.1⟩
   · rename_i hb
     obtain ⟨r',hr',hf⟩:=zjx hd hv h1 es vs (i+1) r (by simpa using hl) (fun j e' v' a b=>he (j+1) e' v' (by simpa using a) (by simpa using b)) h
     exact ⟨r',by simp [Instr.findNow,key1 hb,hr'],hf⟩
   · cases h
theorem ztb {kd:Kd} {x y:D} {u v:Value} (hx:VRD S x u) (hy:VRD S y v) (h:zbm kd x y=some true):u=v:=by
 cases kd<;>cases x<;>cases y<;>simp [zbm] at h
 · subst h;rw [hx.bool_inv,hy.bool_inv]
 · obtain ⟨rfl,rfl⟩:=h;rw [hx.int_inv,hy.int_inv]
 · subst h
   obtain ⟨s,rfl,h1⟩:=hx.str_inv
   obtain ⟨s',rfl,h2⟩:=hy.str_inv
   have:s'=s:=by cases s;cases s';simp at h1 h2 ⊢;exact Array.toList_inj.1 (h2.trans h1.symm)
   rw [this]
theorem zx.cons_inv' {x:D} {xs:List D} {us:List Value} (h:zx S (x::xs) us):∃ u us',us=u::us'∧VRD S x u∧zx S xs us':=by
 cases us with
 | nil=>have:=h.1;simp at this
 | cons u us=>exact ⟨u,us,rfl,h.2 0 x u rfl rfl,by have:=h.1;simpa using this,fun j y v a b=>h.2 (j+1) y v (by simpa using a) (by simpa using b)⟩
theorem zlr:∀ {ks:List Kd} {xs ys:List D} {us vs:List Value},zx S xs us→zx S ys vs→zg ks xs ys=some true→us=vs
 | [],[],[],us,vs,hx,hy,_=>by
   have h1:=hx.1;have h2:=hy.1
   simp at h1 h2;rw [h1,h2]
 | k::ks,x::xs,y::ys,us,vs,hx,hy,h=>by
   simp only [zg] at h
   split at h
   · rename_i b hb
     split at h
     · rename_i c hc
       simp at h
       obtain ⟨rfl,rfl⟩:=h
       obtain ⟨u,us,rfl,hu,hus⟩:=hx.cons_inv'
       obtain ⟨v,vs,rfl,hv,hvs⟩:=hy.cons_inv'
       rw [ztb hu hv hb,zlr hus hvs hc]
     · cases h
   · cases h
 | [],_::_,_,_,_,_,_,h=>by simp [zg] at h
 | [],[],_::_,_,_,_,_,h=>by simp [zg] at h
 | _::_,[],_,_,_,_,_,h=>by simp [zg] at h
 | _::_,_::_,[],_,_,_,_,h=>by simp [zg] at h
theorem zq0 {kd:Kd} {x:D} {u:Value} (hx:VRD S x u) (h:(zbm kd x x).isSome=true) (n:Nat):Instr.sameBits n u u=true:=by
 cases kd<;>cases x<;>simp [zbm] at h
 · rw [hx.bool_inv];cases n<;>simp [Instr.sameBits]
 · rw [hx.int_inv];cases n<;>simp [Instr.sameBits]
 · obtain ⟨s,rfl,_⟩:=hx.str_inv
   cases n<;>(simp only [Instr.sameBits];exact (bytes_beq s s).2 rfl)
theorem zgz (n:Nat):∀ {ks:List Kd} {xs:List D} {us:List Value},zx S xs us→(zg ks xs xs).isSome=true→((us.zip us).all fun (x,y)=>Instr.sameBits n x y)=true
 | [],[],us,hx,_=>by have h1:=hx.1;simp at h1;rw [h1];rfl
 | k::ks,x::xs,us,hx,h=>by
   obtain ⟨u,us,rfl,hu,hus⟩:=hx.cons_inv'
   have h1:(zbm k x x).isSome=true:=by
    simp only [zg] at h
    split at h
    · rename_i b hb;rw [hb];rfl
    · cases h
   have h2:(zg ks xs xs).isSome=true:=by
    simp only [zg] at h
    split at h
    · split at h
      · rename_i c hc;rw [hc];rfl
      · cases h
    · cases h
   have:=zgz n hus h2
   simp only [List.zip_cons_cons,List.all_cons,zq0 hu h1 n,Bool.true_and]
   exact this
 | [],_::_,_,_,h=>by simp [zg] at h
 | _::_,[],_,_,h=>by simp [zg] at h
theorem zit {P:Program} {w:World} {em:Bool} {d:Nat} {rec:TypeId→Option (List Kd)} (hag:∀ t ks,rec t=some ks→∃ g,zfu P t=some g∧(g=false→ks.length=1)) {X:List D} {us:Array Value} (hX:zx S X us.toList) :
 ∀ (L:List Field) (off:Nat) (ks:List Kd) (r:Bool),zeh P rec L off=some ks→(L.all fun f=>zk2 P f.type)=true→zg ks (X.drop off) (X.drop off)=some r →
   ∀ f ∈ L, f.name ≠ "_" ∧ ∃ a, (Go.part f.type us f.offset).run P w = .ok a w ∧ (Instr.checkKey em (d + 1) f.type a).run P w = .ok () w
 | [],off,ks,r,h,hb,hr,f,hf=>by cases hf
 | f::L,off,ks,r,h,hb,hr,g,hg=>by
   simp only [zeh] at h
   simp only [List.all_cons,Bool.and_eq_true] at hb
   split at h
   · rename_i hn
     split at h
     · rename_i ks1 hks1
       split at h
       · rename_i hsz
         split at h
         · rename_i ks2 hks2
           cases h
           obtain ⟨r1,r2,h1,h2,_⟩:=zch hr
           rcases List.mem_cons.1 hg with rfl|hg
           · refine ⟨hn.1,?_⟩
             obtain ⟨gg,hgg,hgg1⟩:=hag _ _ hks1
             obtain ⟨q,hq,_⟩:=zkj (w:=w) hgg hgg1 hsz hX (off:=off) (zbg h1).1
             refine ⟨q,by rw [hn.2];exact hq,?_⟩
             have hbt:=hb.1
             unfold zk2 at hbt
             cases hu:P.underlying g.type with
             | none=>simp [hu] at hbt
             | some dd =>
              cases dd<;>simp [hu] at hbt<;>simp [Instr.checkKey,run_underlying hu,Result.andThen]<;>(split<;>simp_all)
           · exact zit hag hX L (off+ks1.length) ks2 r2 hks2 hb.2 (by simpa [List.drop_drop] using h2) g hg
         · cases h
       · cases h
     · cases h
   · cases h
theorem zls {P:Program} {w:World} {kt:TypeId} {fs:Array Field} (hu:P.underlying kt=some (.struct fs)) {ks:List Kd} (hk:zb0 P 8 kt=some ks) (hb:(fs.toList.all fun f=>zk2 P f.type)=true) {X:List D} {us:Array Value} (hX:zx S X us.toList) {r:Bool} (hr:zg ks X X=some r) (em:Bool) (n:Nat) :
 (Instr.checkKey em (n+2) kt (.agg us)).run P w=.ok () w:=by
 have hf:zeh P (zb0 P 7) fs.toList 0=some ks:=by
  change zb0 P (7+1) kt=some ks at hk
  rw [zb0,hu] at hk
  simp only at hk
  split at hk
  · cases hk
  · exact hk
 have each:=zit (w:=w) (em:=em) (d:=n) (zgy 7) hX fs.toList 0 ks r hf hb (by simpa using hr)
 rw [show n+2=(n+1)+1 from rfl,Instr.checkKey]
 simp only [Sem.run_bind,run_underlying hu,Result.andThen_ok]
 rw [← Array.forIn_toList]
 clear hf hb hk hu
 generalize fs.toList=L at each
 induction L with
 | nil=>simp
 | cons f L ih =>
  obtain ⟨hn,a,p1,p2⟩:=each f (by simp)
  simp only [List.forIn_cons,Sem.run_bind,hn,ne_eq,not_false_eq_true,if_true,Result.andThen_ok,p1,p2,Sem.run_pure]
  exact ih (fun y hy=>each y (by simp [hy]))
theorem zf7 {P:Program} {w:World} {kt:TypeId} {ks:List Kd} (hk:zb0 P 8 kt=some ks) (hagg:zfu P kt=some true) {cs:List D} {us:Array Value} (hus:zx S cs us.toList) :
 ∀ (es:List ME) (vs:List MapEntry) (i:Nat) (r:Option (Nat×D)),vs.length=es.length→(∀ (j:Nat) (e:ME) (v:MapEntry),es[j]?=some e→vs[j]?=some v→zc9 S e v)→zd1 ks (.agg cs) es i=some r →
   ∃ r',(Instr.findAsking kt (.agg us) vs i).run P w=.ok r' w∧zlq S r r'
 | [],[],i,r,_,_,h=>by simp [zd1] at h;subst h;exact ⟨none,by simp [Instr.findAsking],trivial⟩
 | [],_::_,i,r,hl,_,_=>by simp at hl
 | _::_,[],i,r,hl,_,_=>by simp at hl
 | e::es,v::vs,i,r,hl,he,h=>by
   have h0:=he 0 e v rfl rfl
   simp only [zd1] at h
   have key1:∀ {b},(if (D.agg cs).one=e.k.one then zg ks (D.agg cs).cells e.k.cells else none)=some b→(Op.equal kt (.agg us) v.key).run P w=.ok b w:=by
    intro b hb
    split at hb
    · rename_i e1
      have e2:∃ cs',e.k=.agg cs':=by
       cases hek:e.k<;>simp [hek,D.one] at e1
       exact ⟨_,rfl⟩
      obtain ⟨cs',hcs'⟩:=e2
      rw [hcs'] at hb
      have h1:=h0.1
      rw [hcs'] at h1
      obtain ⟨vs',hv',hvs',_⟩:=h1.agg_inv
      rw [hv']
      exact zht (w:=w) 8 9992 kt ks cs cs' _ _ b hk (.inl ⟨hagg,us,vs',rfl,rfl,hus,hvs'⟩) hb
    · cases hb
   split at h
   · rename_i hb
     cases h
     exact ⟨some (i,v.val),by rw [Instr.findAsking,Sem.run_bind,key1 hb];rfl,rfl,h0.2.1⟩
   · rename_i hb
     obtain ⟨r',hr',hf⟩:=zf7 hk hagg hus es vs (i+1) r (by simpa using hl) (fun j e' v' a b=>he (j+1) e' v' (by simpa using a) (by simpa using b)) h
     exact ⟨r',by rw [Instr.findAsking,Sem.run_bind,key1 hb];exact hr',hf⟩
   · cases h
theorem zhi {P:Program} {kt:TypeId} {ks:List Kd} (hk:zph P kt=some ks) {key:D} {kv:Value} (hv:VRD S key kv) (hok:keyOk ks key=true) (w:World) :
 (∀ em,(Instr.checkKey em 10000 kt kv).run P w=.ok () w) ∧
 (∀ n,Instr.sameBits (n+1) kv kv=true) ∧
 ∀ (es:List ME) (vs:Array MapEntry) (r:Option (Nat×D)),vs.size=es.length→(∀ (j:Nat) (e:ME) (v:MapEntry),es[j]?=some e→vs[j]?=some v→zc9 S e v)→zd1 ks key es 0=some r →
   ∃ r',(Instr.findKey kt kv vs.toList).run P w=.ok r' w∧zlq S r r':=by
 have hcase:(∃ d kd,P.underlying kt=some d∧ks=[kd]∧((d=.bool∧kd=.b)∨(∃ k,d=.int k∧kd=.i)∨(d=.string∧kd=.s)))∨∃ fs,P.underlying kt=some (.struct fs)∧(fs.toList.all fun f=>zk2 P f.type)=true∧zb0 P 8 kt=some ks∧¬ ks.length=1:=by
  unfold zph at hk
  split at hk
  · rename_i hu;cases hk;exact .inl ⟨_,_,hu,rfl,.inl ⟨rfl,rfl⟩⟩
  · rename_i hu;cases hk;exact .inl ⟨_,_,hu,rfl,.inr (.inl ⟨_,rfl,rfl⟩)⟩
  · rename_i hu;cases hk;exact .inl ⟨_,_,hu,rfl,.inr (.inr ⟨rfl,rfl⟩)⟩
  · rename_i fs hu
    split at hk
    · rename_i ks' hks'
      split at hk
      · rename_i hb
        cases hk
        simp only [Bool.and_eq_true,bne_iff_ne,ne_eq] at hb
        exact .inr ⟨fs,hu,hb.1,hks',hb.2⟩
      · cases hk
    · cases hk
  · cases hk
 rcases hcase with hcase|⟨fs,hu,hb,hpk,hl1⟩
 rotate_left
 · have hagg:zfu P kt=some true:=by simp [zfu,hu,zi7]
   have hag:∃ cs,key=.agg cs:=by
    by_cases h1:key.one=true
    · exfalso
      rw [keyOk,D.cells_one h1] at hok
      simp only [Bool.and_eq_true] at hok
      obtain ⟨r,hr⟩:=Option.isSome_iff_exists.1 hok.2
      have:=(zbg hr).1
      simp at this
      exact hl1 this.symm
    · cases key<;>simp [D.one] at h1
      exact ⟨_,rfl⟩
   obtain ⟨cs,rfl⟩:=hag
   obtain ⟨us,rfl,hus,_⟩:=hv.agg_inv
   simp only [keyOk,Bool.and_eq_true] at hok
   obtain ⟨r0,hr0⟩:=Option.isSome_iff_exists.1 hok.2
   refine ⟨fun em=>zls hu hpk hb hus hr0 em 9998,fun n=>?_,fun es vs r hl he hf=>?_⟩
   · simp only [Instr.sameBits,beq_self_eq_true,Bool.true_and]
     exact zgz n hus hok.2
   · obtain ⟨r',hr',hfo⟩:=zf7 (w:=w) hpk hagg hus es vs.toList 0 r (by simpa using hl) (fun j e v a b=>he j e v a (by simpa using b)) hf
     exact ⟨r',by rw [run_findKey_eq w (by rw [hu])];exact hr',hfo⟩
 obtain ⟨d,kd,hu,rfl,hd⟩:=hcase
 simp only [keyOk,List.length_singleton,bne_self_eq_false,Bool.or_false,Bool.and_eq_true] at hok
 obtain ⟨h1,h2⟩:=hok
 rw [D.cells_one h1] at h2
 have hshape:(∀ em n,(Instr.checkKey em (n+1) kt kv).run P w=.ok () w)∧∀ n,Instr.sameBits (n+1) kv kv=true:=by
  rcases hd with ⟨rfl,rfl⟩|⟨k,rfl,rfl⟩|⟨rfl,rfl⟩
  · cases key<;>simp [zg,zbm] at h2
    rw [hv.bool_inv];exact ⟨fun em n=>by simp [Instr.checkKey,run_underlying hu,Result.andThen],fun n=>by simp [Instr.sameBits]⟩
  · cases key<;>simp [zg,zbm] at h2
    rw [hv.int_inv];exact ⟨fun em n=>by simp [Instr.checkKey,run_underlying hu,Result.andThen],fun n=>by simp [Instr.sameBits]⟩
  · cases key<;>simp [zg,zbm] at h2
    obtain ⟨s,rfl,_⟩:=hv.str_inv
    exact ⟨fun em n=>by simp [Instr.checkKey,run_underlying hu,Result.andThen],fun n=>by simp only [Instr.sameBits];exact (bytes_beq s s).2 rfl⟩
 refine ⟨fun em=>hshape.1 em 9999,hshape.2,fun es vs r hl he hf=>?_⟩
 obtain ⟨r',hr',hfo⟩:=zjx hd hv h1 es vs.toList 0 r (by simpa using hl) (fun j e v a b=>he j e v a (by simpa using b)) hf
 exact ⟨r',run_findKey hu hr',hfo⟩
end
end Go.E2
