/-
 The built-in append,run;and the relation behind it.
 Conditions: none;laws.
-/
import Derived.Test.YtlejjdbmmdghmaaER
namespace Go.E2
structure zd2 (P:Program) (size:Nat) (y:Value) (m:Nat) (news:List Value) (w:World):Prop where
 len:∀ w',(Builtin.lenOf y).run P w'=.ok m w'
 first:∀ w',w'.heap=w.heap→(Builtin.firstCells size m y).run P w'=.ok news.toArray w'
def zjd (P:Program) (u:TypeId):Prop:=(∃ e',P.underlying u=some (.slice e'))∨P.underlying u=some .string
theorem zk9 (s:List UInt8):(u8s s).length=s.length:=by simp [u8s]
theorem zz0 (s:List UInt8):(u8s s).all D.one=true:=by simp [u8s,List.all_map,Function.comp_def,D.one]
theorem z3a (s:List UInt8):(u8s s).all (zb 1)=true:=by simp [u8s,List.all_map,Function.comp_def,zb,D.cells,D.one]
theorem zqh:∀ s:List UInt8,zag (u8s s)=u8s s
 | []=>rfl
 | b::s=>by
   show zag (.int .u8 b.toNat::u8s s)=_
   rw [z7,zqh s];rfl
theorem zqi (S:Stb) (s:List UInt8):zz S (u8s s) (s.map fun b=>.int .u8 b.toNat):=by
 refine ⟨by simp [u8s],fun j x v hx hv=>?_⟩
 simp only [u8s,List.getElem?_map,Option.map_eq_some_iff] at hx hv
 obtain ⟨b,hb,rfl⟩:=hx
 obtain ⟨b',hb',rfl⟩:=hv
 rw [hb] at hb';cases hb'
 exact .int _ _
theorem ztp {P:Program} (s:ByteArray) (w':World):(Builtin.lenOf (.string s)).run P w'=.ok s.data.toList.length w':=by
 simp [Builtin.lenOf]
theorem zm8 {P:Program} (s:ByteArray) (sz k:Nat) (w':World):(Builtin.firstCells sz k (.string s)).run P w'=.ok ((s.data.toList.map fun b=>Value.int .u8 b.toNat).take k).toArray w':=by
 simp only [Builtin.firstCells,Sem.run_pure]
 congr 1
 apply Array.ext'
 simp
theorem zao (g o j:Nat):(⟨g,o,none⟩:Addr).add j=⟨g,o+j,none⟩:=by unfold Addr.add;split<;>simp_all
theorem z3b {P:Program} {S:Stb} {w:World} {sz:Nat} {y:D} {v:Value} {ys:List D} (hc:∀ ad v,S ad=some v→w.cell? ad=some v) (hy:zx6 sz y=some ys) (hv:VRD S y v) :
 ∃ news,zd2 P sz v ys.length news w∧zz S (zag ys) news∧ys.all (zb sz)=true:=by
 cases y with
 | nilS =>
  simp [zx6] at hy
  subst hy
  cases hv
  exact ⟨[],⟨fun w'=>by simp [Builtin.lenOf],fun w' _=>by simp [Builtin.firstCells]⟩,zz.nil,rfl⟩
 | list es =>
  simp only [zx6] at hy
  split at hy
  · rename_i hsz
    cases hy
    rcases hv.list_inv with ⟨rfl,rfl⟩|⟨a,cap,c,rfl,hsp,hcap,_,hs,hS⟩
    · exact ⟨[],⟨fun w'=>by simp [Builtin.lenOf],fun w' _=>by simp [Builtin.firstCells]⟩,zz.nil,rfl⟩
    refine ⟨c,⟨fun w'=>by simp [Builtin.lenOf],fun w' hw'=>?_⟩,hs,hsz⟩
    refine run_firstCells_some w' sz ys.length a ys.length cap c (by rw [hs.1,zw hsz]) fun j u hj=>?_
    have hp:0<cap:=by
     refine Nat.lt_of_lt_of_le (Nat.pos_of_ne_zero fun e=>?_) hcap
     have:=List.eq_nil_of_length_eq_zero e
     subst this
     have h0:c=[]:=List.eq_nil_of_length_eq_zero (by simpa [zag] using hs.1)
     rw [h0] at hj;simp at hj
    have hsp:=hsp hp
    have:a=⟨a.block,a.off,none⟩:=by cases a;simp at hsp;subst hsp;rfl
    rw [this,zao]
    have h1:=hc _ _ (hS j u hj)
    simpa [World.cell?,hw'] using h1
  · cases hy
 | str s =>
  simp only [zx6] at hy
  split at hy
  · rename_i h1
    subst h1
    cases hy
    cases hv with
    | str s l h =>
     subst h
     refine ⟨_,⟨fun w'=>by rw [zk9];exact ztp s w',fun w' _=>?_⟩,by rw [zqh];exact zqi S _,z3a _⟩
     rw [zm8,List.take_of_length_le (by simp [u8s])]
  · cases hy
 | _=>simp [zx6] at hy
section
variable {P:Program} (w:World)
theorem zb9 (P:Program) (g o:Nat) (t:TypeId) (fz:Nat×Nat):∀ (vs:List Value) (i:Nat) (cur:Array Value) (w:World),w.heap[g]?=some (.cells cur t fz)→(fz=(0,0)∨cur.size≤fz.1)→o+i+vs.length≤cur.size→(∀ v∈vs,v.oneCell'=true) →
 (storeCells ⟨g,o,none⟩ vs i).run P w=.ok () (w.setRow g (cur.toList.take (o+i)++vs++cur.toList.drop (o+i+vs.length)).toArray)
 | [],i,cur,w,hg,_,_,_=>by
   simp only [storeCells,List.append_nil,List.length_nil,Nat.add_zero,List.take_append_drop,Array.toArray_toList]
   rw [setRow_self w g cur t fz hg]
   rfl
 | v::rest,i,cur,w,hg,hfz,hl,h1=>by
   have hi:o+i<cur.size:=by simp at hl;omega
   have hadd:(⟨g,o,none⟩:Addr).add i=⟨g,o+i,none⟩:=by unfold Addr.add;split<;>simp_all
   have hcell:w.cell? ⟨g,o+i,none⟩=some cur[o+i]:=by simp [World.cell?,hg,hi]
   have hfro:w.frozen? ⟨g,o+i,none⟩=false:=by
    obtain ⟨lo,hi'⟩:=fz
    simp only [World.frozen?,hg,Bool.and_eq_false_iff,decide_eq_false_iff_not]
    rcases hfz with h|h
    · cases h;exact .inr (by omega)
    · exact .inl (by simp at h;omega)
   have hst:(store ((⟨g,o,none⟩:Addr).add i) v).run P w=.ok () (w.setRow g (cur.setIfInBounds (o+i) v)):=by
    rw [hadd,run_store P w _ v _ (h1 v (by simp)),hcell]
    simp [hfro,setCell_eq_setRow w g (o+i) cur t fz v hg]
   have ih:=zb9 P g o t fz rest (i+1) (cur.setIfInBounds (o+i) v) (w.setRow g (cur.setIfInBounds (o+i) v)) (setRow_heap w g cur _ t _ hg) (by simpa using hfz) (by simp at hl ⊢;omega) (fun x hx=>h1 x (by simp [hx]))
   simp only [storeCells,Sem.run_bind,hst,Result.andThen_ok,ih,setRow_setRow]
   congr 3
   have e:=list_seg_step cur.toList (o+i) v rest (by simp at hl ⊢;omega)
   simpa [Array.toList_setIfInBounds,Nat.add_assoc] using e
theorem zm9 (t u ty e:TypeId) (i:TypeInfo) (ht:P.underlying t=some (.slice e)) (hu:zjd P u) (hi:P.info? e=some i)
 (g n cap:Nat) (cur:Array Value) (eb:TypeId) (hg:z71 w g cur eb) (y:Value) (m:Nat) (news:List Value) (hy:zd2 P i.size y m news w)
 (h1:∀ v∈news,v.oneCell'=true) (hroom:n+m≤cap) (hfit:n * i.size+news.length≤cur.size) :
 (Builtin.append_ #[t,u] ty #[.slice (some ⟨g,0,none⟩) n cap,y]).run P w =
   .ok (.slice (some ⟨g,0,none⟩) (n+m) cap) (w.setRow g (cur.toList.take (n * i.size)++news++cur.toList.drop (n * i.size+news.length)).toArray):=by
 obtain ⟨fr,hg,hfr⟩:=hg
 have hst:=zb9 P g (n * i.size) eb fr news 0 cur w hg hfr (by simpa using hfit) h1
 simp only [Nat.add_zero] at hst
 have hf:=hy.first w rfl
 rcases hu with ⟨e',hu⟩|hu<;>simp [Builtin.append_,run_underlying ht,run_underlying hu,sizeOf,typeInfo,hi,hy.len,hroom,hf,zao,hst]
theorem ze1 (t u ty e:TypeId) (i:TypeInfo) (ht:P.underlying t=some (.slice e)) (hu:zjd P u) (hi:P.info? e=some i)
 (b:Option Addr) (n cap:Nat) (y:Value) (hy:zd2 P i.size y 0 [] w) (hroom:n≤cap) :
 (Builtin.append_ #[t,u] ty #[.slice b n cap,y]).run P w=.ok (.slice b n cap) w:=by
 have hf:=hy.first w rfl
 rcases hu with ⟨e',hu⟩|hu
 all_goals
  cases b with
  | none=>simp [Builtin.append_,run_underlying ht,run_underlying hu,sizeOf,typeInfo,hi,hy.len,hroom,hf]
  | some b=>simp [Builtin.append_,run_underlying ht,run_underlying hu,sizeOf,typeInfo,hi,hy.len,hroom,hf,storeCells]
theorem zih (t u ty e:TypeId) (i:TypeInfo) (z:Value) (ht:P.underlying t=some (.slice e)) (hu:zjd P u) (hi:P.info? e=some i) (hz:i.zero=some z)
 (x:Option Addr) (n cap:Nat) (olds:List Value) (hx:zd2 P i.size (.slice x n cap) n olds w)
 (y:Value) (m:Nat) (news:List Value) (hy:zd2 P i.size y m news w)
 (hg:cap<n+m) (h63:((n+m:Nat):Int)≤9223372036854775807) (hfit:Builtin.nextslicecap (n+m) cap * i.bytes≤281474976710656) :
 (Builtin.append_ #[t,u] ty #[.slice x n cap,y]).run P w =
   .ok (.slice (some ⟨w.heap.size,0,none⟩) (n+m) (grownCap w (n+m) cap e))
    (w.drew.alloc (.cells (olds.toArray++news.toArray++Builtin.zeroCells z.cells (grownCap w (n+m) cap e - (n+m))) e)):=by
 have hn:¬ (n+m≤cap):=by omega
 have h63':¬ (9223372036854775807<((n:Int)+(m:Int))):=by omega
 have h48':¬ (281474976710656<Builtin.nextslicecap (n+m) cap * i.bytes):=by omega
 have hf:=hy.first w.drew rfl
 have hfo:=hx.first w.drew rfl
 rcases hu with ⟨e',hu⟩|hu
 all_goals
  simp [Builtin.append_,run_underlying ht,run_underlying hu,sizeOf,typeInfo,zeroValue,hi,hz,hy.len,hn,h63',h48',Question.forced,hf,hfo,newRow,grownCap]
  congr 2
  apply Array.ext'
  simp [List.append_assoc]
end
def zhp (S:Stb) (B:Nat) (vis:List Value):Stb:=fun ad=>if ad.block=B∧ad.spot=none then vis[ad.off]? else S ad
theorem zdd {S:Stb} {B:Nat} {vis:List Value} {ad:Addr} (h:ad.block≠B):zhp S B vis ad=S ad:=by simp [zhp,h]
theorem zeh {S:Stb} {B:Nat} {vis:List Value} {j:Nat}:zhp S B vis ⟨B,j,none⟩=vis[j]?:=by simp [zhp]
section
variable {S:Stb} {ms:List (Nat→Nat)} {ow:Nat→Option Nat} {base:Nat} {O:Nat→Prop} {ρ:Env} {L:Hp} {σ:List Hp} {G:Gh} {a:Act} {w w':World}
theorem zna (h:zcw S ms (L::σ) G w) (vis:List Value):Sub S (zhp S w.heap.size vis):=by
 intro ad v hS
 rw [zdd (Nat.ne_of_lt (h.S_lt hS))];exact hS
theorem Rel.grow [DD] (h:Rel S ms ow base O ρ L σ G a w) {cur:Array Value} {e:TypeId} {fr:Nat×Nat} {vis:List Value} (hsz:w'.heap.size=w.heap.size+1)
 (hold:∀ b,b<w.heap.size→w'.heap[b]?=w.heap[b]?) (hB:w'.heap[w.heap.size]?=some (.cells cur e fr)) (hv:∀ (j:Nat) (u:Value),vis[j]?=some u→cur[j]?=some u)
 (h1:w'.os=w.os) (h2:w'.tape=w.tape) (h3:w'.output=w.output) :
 Rel (zhp S w.heap.size vis) ms ow base O ρ L σ G a w'∧Evo base O S w (zhp S w.heap.size vis) w':=by
 have hsub:=zna h.h vis
 refine ⟨h.ext (g:=w.heap.size) (fun k s cs hl=>absurd (h.h.block_lt hl) (by omega)) h.g_none (fun o ho=>by have:=(Array.getElem?_eq_some_iff.1 ho).1;omega) (fun i sz es hi e=>?_) (by omega) (fun b hb _=>hold b hb) hsub (fun ad _ hne=>zdd hne) ?_,?_⟩
 · have:=h.own hi;rw [e] at this;have:=this.lt;omega
 · intro ad v hS
   by_cases hb:ad.block=w.heap.size∧ad.spot=none
   · simp only [zhp,hb,and_self,if_true] at hS
     simp [World.cell?,hb,hB,hv _ _ hS]
   · simp only [zhp,hb,if_false] at hS
     have hlt:=h.h.S_lt hS
     have:=h.h.sub _ _ hS
     rw [← this]
     simp only [World.cell?,hold _ hlt]
 · exact ⟨by omega,fun b hb _=>hold b (Nat.lt_of_lt_of_le hb h.bas),fun ad hb=>zdd (Nat.ne_of_lt (Nat.lt_of_lt_of_le hb h.bas)),hsub,h1,h2,h3⟩
theorem Rel.inplace [DD] (h:Rel S ms ow base O ρ L σ G a w) {g:Nat} {cur cur':Array Value} {e:TypeId} {fr:Nat×Nat} {vis:List Value} (hgb:base≤g) (hl:∀ k s cs,¬ zds (L::σ) ms k s g cs) (hgG:G g=none)
 (ho:∀ i sz es,ρ i=.own sz es→ow i≠some g) (hg:w.heap[g]?=some (.cells cur e fr)) (hv:∀ (j:Nat) (u:Value),vis[j]?=some u→cur'[j]?=some u)
 (hpre:∀ ad v,S ad=some v→ad.block=g→vis[ad.off]?=some v) :
 Rel (zhp S g vis) ms ow base O ρ L σ G a (w.setRow g cur')∧Evo base O S w (zhp S g vis) (w.setRow g cur'):=by
 have hsub:Sub S (zhp S g vis):=by
  intro ad v hS
  by_cases hb:ad.block=g
  · simp [zhp,hb,h.h.S_spot hS,hpre ad v hS hb]
  · rw [zdd hb];exact hS
 refine ⟨h.ext (g:=g) hl hgG (fun o ho=>by rw [hg] at ho;cases ho;exact ⟨_,_,_,rfl⟩) ho (by simp) (fun b _ hne=>setRow_other w g b cur' hne) hsub (fun ad _ hne=>zdd hne) ?_,?_⟩
 · intro ad v hS
   by_cases hb:ad.block=g∧ad.spot=none
   · simp only [zhp,hb,and_self,if_true] at hS
     simp [World.cell?,hb,setRow_heap w g cur cur' e fr hg,hv _ _ hS]
   · simp only [zhp,hb,if_false] at hS
     have hne:ad.block≠g:=fun x=>hb ⟨x,h.h.S_spot hS⟩
     rw [cell_setRow_other w g cur' ad hne];exact h.h.sub _ _ hS
 · exact ⟨by simp,fun b hb _=>setRow_other w g b cur' (by omega),fun ad hb=>zdd (by omega),hsub,rfl,rfl,rfl⟩
end
theorem zz.get {S:Stb} {xs:List D} {vs:List Value} (h:zz S xs vs) {j:Nat} {x:D} (hx:xs[j]?=some x):∃ v,vs[j]?=some v∧VRD S x v:=by
 have hlt:=(List.getElem?_eq_some_iff.1 hx).1
 have:j<vs.length:=by rw [h.1];exact hlt
 exact ⟨vs[j],List.getElem?_eq_getElem this,h.2 j x _ hx (List.getElem?_eq_getElem this)⟩
theorem zde (z:Array Value) (n:Nat):(Builtin.zeroCells z n).size=n * z.size:=by simp [Builtin.zeroCells]
theorem zga [DD] {P:Program} {S:Stb} {ms:List (Nat→Nat)} {ow:Nat→Option Nat} {base:Nat} {O:Nat→Prop} {ρ:Env} {L:Hp} {σ:List Hp} {G:Gh} {a:Act} {w:World}
 (h:Rel S ms ow base O ρ L σ G a w) {t u ty e:TypeId} {i:TypeInfo} {z:Value} (hzs:z.cells.size=i.size) (hby:0<i.bytes) {x:AO} {xv yv:Value} {ys:List D} {news:List Value} (hvn:zz S (zag ys) news) (hsn:ys.all (zb i.size)=true)
 (rgrow:∀ b n cap olds,xv=.slice b n cap→zd2 P i.size (.slice b n cap) n olds w→cap<n+ys.length→((n+ys.length:Nat):Int)≤9223372036854775807→Builtin.nextslicecap (n+ys.length) cap * i.bytes≤281474976710656 →
   (Builtin.append_ #[t,u] ty #[xv,yv]).run P w=.ok (.slice (some ⟨w.heap.size,0,none⟩) (n+ys.length) (grownCap w (n+ys.length) cap e)) (w.drew.alloc (.cells (olds.toArray++news.toArray++Builtin.zeroCells z.cells (grownCap w (n+ys.length) cap e - (n+ys.length))) e)))
 {d:Nat} (hd:d<a.tmps.size):∀ (es:List D) (olds:List Value) (b:Option Addr) (n cap:Nat),es.length=n→xv=.slice b n cap→zd2 P i.size (.slice b n cap) n olds w→zz S (zag es) olds→es.all (zb i.size)=true →
     cap<n+ys.length→(n+ys.length) * i.bytes≤mostBytes →
     ∃ v w' S' ow',(Builtin.append_ #[t,u] ty #[xv,yv]).run P w=.ok v w'∧Rel S' ms ow' base O (E2.put (zdb ρ x) (some d) (.own i.size (es++ys))) L σ G (a.put (some d) v) w'∧Evo base O S w S' w':=by
 have hnl:news.length=ys.length * i.size:=by rw [hvn.1,zw hsn]
 have h63:maxLen=9223372036854775807:=rfl
 intro es olds b n cap hn hxv' hso hvo hse hcap hmost
 have hnm:n+ys.length≤140737488355328:=by
  have:(n+ys.length) * 1≤(n+ys.length) * i.bytes:=Nat.mul_le_mul_left _ hby
  unfold mostBytes at hmost;omega
 have hfit:=growslice_fits (bytes:=i.bytes) hcap (by unfold mostBytes at hmost;exact hmost)
 have hrun:=rgrow b n cap olds hxv' hso hcap (by omega) hfit
 have hol:olds.length=n * i.size:=by rw [hvo.1,zw hse,hn]
 have hge:=grownCap_ge w (n+ys.length) cap e
 have hle:=grownCap_le_maxLen w (n+ys.length) cap e (by omega)
 have hgr:=(h.give x).grow (w':=w.drew.alloc (.cells (olds.toArray++news.toArray++Builtin.zeroCells z.cells (grownCap w (n+ys.length) cap e - (n+ys.length))) e))
  (cur:=olds.toArray++news.toArray++Builtin.zeroCells z.cells (grownCap w (n+ys.length) cap e - (n+ys.length))) (e:=e) (fr:=(0,0)) (vis:=olds++news)
  (by exact za3 (w:=w.drew)) (fun b hb=>zq (w:=w.drew) hb) (zab (w:=w.drew)) (fun j u hj=>by
    have hlt:=(List.getElem?_eq_some_iff.1 hj).1
    rw [Array.getElem?_append_left (by simpa using hlt)]
    simpa using hj) rfl rfl rfl
 refine ⟨_,_,zhp S w.heap.size (olds++news),upd ow d (some w.heap.size),hrun,?_,hgr.2⟩
 have hlen:(es++ys).length=n+ys.length:=by simp [hn]
 have hfl:(n+ys.length) * i.size=olds.length+news.length:=by rw [hol,hnl,Nat.add_mul]
 have htake:((olds.toArray++news.toArray++Builtin.zeroCells z.cells (grownCap w (n+ys.length) cap e - (n+ys.length))).toList.take ((es++ys).length * i.size))=olds++news:=by
  rw [hlen,hfl]
  simp only [Array.toList_append]
  rw [← List.length_append]
  exact List.take_left
 refine hgr.1.putOwn (es:=es++ys) (R:=some w.heap.size) ⟨grownCap w (n+ys.length) cap e,_,e,by rw [hlen],⟨_,zab (w:=w.drew),.inl rfl⟩,by rw [hlen];exact hge,hle,?_,?_,?_,?_,?_⟩ ?_ hd
 · simp only [Array.size_append,List.size_toArray,zde,hzs,hol,hnl]
   rw [← Nat.add_mul,← Nat.add_mul]
   congr 1
   omega
 · rw [List.all_append,hse,hsn];rfl
 · rw [htake,zdj]
   exact (hvo.mono hgr.2.sub).append (hvn.mono hgr.2.sub)
 · intro j u' hj
   rw [htake] at hj
   rw [zeh];exact hj
 · intro off sp ho
   rw [hlen,hfl] at ho
   by_cases hsp:sp=none
   · subst hsp
     rw [zeh,List.getElem?_eq_none (by simpa using ho)]
   · cases hS:zhp S w.heap.size (olds++news) ⟨w.heap.size,off,sp⟩ with
     | none=>rfl
     | some q =>
      simp [zhp,hsp] at hS
      have:=h.h.S_spot hS
      exact absurd this hsp
 · intro g hg
   cases hg
   refine ⟨h.bas,h.g_none,fun k s cs hl=>absurd (h.h.block_lt hl) (by omega),fun j sz' es' hj hij e=>?_⟩
   have hown:=(h.give x).own hij
   rw [e] at hown
   have:=hown.lt
   omega
theorem zy6 [DD] {P:Program} {S:Stb} {ms:List (Nat→Nat)} {ow:Nat→Option Nat} {base:Nat} {O:Nat→Prop} {ρ:Env} {L:Hp} {σ:List Hp} {G:Gh} {a:Act} {w:World}
 (h:Rel S ms ow base O ρ L σ G a w) {t u ty e:TypeId} {i:TypeInfo} {z:Value} (hzs:z.cells.size=i.size) (hby:0<i.bytes) {j:Nat} {xv yv:Value} (hxv:xv=a.tmps.getD j undef) {es:List D} (hρ:ρ j=.own i.size es) {ys:List D} {news:List Value} (hvn:zz S (zag ys) news) (hsn:ys.all (zb i.size)=true)
 (hmost:(es.length+ys.length) * i.bytes≤mostBytes)
 (rsame:∀ b n cap,ys=[]→xv=.slice b n cap→n≤cap→(Builtin.append_ #[t,u] ty #[xv,yv]).run P w=.ok (.slice b n cap) w)
 (rroom:∀ g n cap cur eb,xv=.slice (some ⟨g,0,none⟩) n cap→z71 w g cur eb→n+ys.length≤cap→n * i.size+news.length≤cur.size→(Builtin.append_ #[t,u] ty #[xv,yv]).run P w =
   .ok (.slice (some ⟨g,0,none⟩) (n+ys.length) cap) (w.setRow g (cur.toList.take (n * i.size)++news++cur.toList.drop (n * i.size+news.length)).toArray))
 (rgrow:∀ b n cap olds,xv=.slice b n cap→zd2 P i.size (.slice b n cap) n olds w→cap<n+ys.length→((n+ys.length:Nat):Int)≤9223372036854775807→Builtin.nextslicecap (n+ys.length) cap * i.bytes≤281474976710656 →
   (Builtin.append_ #[t,u] ty #[xv,yv]).run P w=.ok (.slice (some ⟨w.heap.size,0,none⟩) (n+ys.length) (grownCap w (n+ys.length) cap e)) (w.drew.alloc (.cells (olds.toArray++news.toArray++Builtin.zeroCells z.cells (grownCap w (n+ys.length) cap e - (n+ys.length))) e)))
 {d:Nat} (hd:d<a.tmps.size) :
 ∃ v w' S' ow',(Builtin.append_ #[t,u] ty #[xv,yv]).run P w=.ok v w'∧Rel S' ms ow' base O (E2.put (zdb ρ (.t j)) (some d) (.own i.size (es++ys))) L σ G (a.put (some d) v) w'∧Evo base O S w S' w':=by
 have hcell:=h.h.sub
 have hnl:news.length=ys.length * i.size:=by rw [hvn.1,zw hsn]
 have hn1:=hvn.one (zfn hsn)
 have h63:maxLen=9223372036854775807:=rfl
 have hown:=h.own hρ
 rw [← hxv] at hown
 have hgive:∀ k sz es',zdb ρ (.t j) k=.own sz es'→k≠j∧ρ k=.own sz es':=by
  intro k sz es' hk
  simp only [zdb,upd] at hk
  split at hk
  · exact absurd hk (zbu _ _)
  · rename_i hne;exact ⟨hne,hk⟩
 cases how:ow j with
 | none =>
  rw [how] at hown
  obtain ⟨⟨b,hxs⟩,hve,hse⟩:=hown
  by_cases hpos:ys.length=0
  · have hys0:ys=[]:=List.eq_nil_of_length_eq_zero hpos
    subst hys0
    have hnews:news=[]:=List.eq_nil_of_length_eq_zero (by simpa using hnl)
    subst hnews
    refine ⟨_,w,S,upd ow d none,rsame b es.length es.length rfl hxs (Nat.le_refl _),?_,Evo.refl _ _ _ _⟩
    rw [List.append_nil]
    exact (h.give (.t j)).putOwn (es:=es) (R:=none) ⟨⟨b,rfl⟩,hxs▸hve,hse⟩ (fun g hg=>by cases hg) hd
  · obtain ⟨olds,hso,hvo,_⟩:=z3b (P:=P) (w:=w) (sz:=i.size) (y:=.list es) (ys:=es) hcell (by simp only [zx6,hse,if_true]) hve
    rw [hxs] at hso
    exact zga h hzs hby hvn hsn rgrow hd es olds b es.length es.length rfl hxs hso hvo hse (by omega) hmost
 | some g =>
  rw [how] at hown
  have hgB:=h.ownB hρ how
  obtain ⟨cap,cur,eb,hxs,hg,hec,hcm,hcs,hse,hvv,hvS,hvn'⟩:=hown
  have hgR:=hg
  obtain ⟨fr,hg,hfr⟩:=hg
  by_cases hroom:es.length+ys.length≤cap
  · have hfit:es.length * i.size+news.length≤cur.size:=by rw [hnl,hcs,← Nat.add_mul];exact Nat.mul_le_mul_right _ hroom
    have hrun:=rroom g es.length cap cur eb hxs hgR hroom hfit
    have hol:(cur.toList.take (es.length * i.size)).length=es.length * i.size:=by
     have hcl:cur.toList.length=cap * i.size:=by rw [Array.length_toList];exact hcs
     rw [List.length_take,hcl]
     exact Nat.min_eq_left (Nat.mul_le_mul_right _ hec)
    have hvis:∀ (k:Nat) (q:Value),(cur.toList.take (es.length * i.size)++news)[k]?=some q→((cur.toList.take (es.length * i.size)++news++cur.toList.drop (es.length * i.size+news.length)).toArray)[k]?=some q:=by
     intro k q hk
     have hlt:=(List.getElem?_eq_some_iff.1 hk).1
     rw [List.getElem?_toArray,List.getElem?_append_left hlt]
     exact hk
    have hin:=(h.give (.t j)).inplace (g:=g) (cur:=cur) (cur':=(cur.toList.take (es.length * i.size)++news++cur.toList.drop (es.length * i.size+news.length)).toArray) (e:=eb)
     (vis:=cur.toList.take (es.length * i.size)++news) hgB.1 hgB.2.2 hgB.2.1 (fun k sz es' hk e=>by
       obtain ⟨hne,hk'⟩:=hgive k sz es' hk
       exact hne (h.ownI hk' hρ e how)) hg hvis (fun ad v hS hb=>by
       have hspot:=h.h.S_spot hS
       have had:ad=⟨g,ad.off,none⟩:=by cases ad;simp at hb hspot;subst hb;subst hspot;rfl
       have hlt:ad.off<es.length * i.size:=by
        rcases Nat.lt_or_ge ad.off (es.length * i.size) with hlt|hge
        · exact hlt
        · have:=hvn' ad.off none hge
          rw [had] at hS;rw [this] at hS;cases hS
       rw [List.getElem?_append_left (by rw [hol];exact hlt)]
       have hex:∃ q,(cur.toList.take (es.length * i.size))[ad.off]?=some q:=⟨_,List.getElem?_eq_getElem (by rw [hol];exact hlt)⟩
       obtain ⟨q,hq⟩:=hex
       have:=hvS ad.off q hq
       rw [had] at hS
       rw [this] at hS
       cases hS
       exact hq)
    refine ⟨_,_,_,upd ow d (some g),hrun,?_,hin.2⟩
    have hlen:(es++ys).length=es.length+ys.length:=by simp
    have hfl:(es.length+ys.length) * i.size=(cur.toList.take (es.length * i.size)++news).length:=by rw [List.length_append,hol,hnl,Nat.add_mul]
    have htake:((cur.toList.take (es.length * i.size)++news++cur.toList.drop (es.length * i.size+news.length)).toArray.toList.take ((es++ys).length * i.size))=cur.toList.take (es.length * i.size)++news:=by
     rw [hlen,hfl]
     exact List.take_left
    refine hin.1.putOwn (es:=es++ys) (R:=some g) ⟨cap,_,eb,by rw [hlen],⟨fr,setRow_heap w g cur _ eb fr hg,hfr.imp id fun h=>by simp only [List.size_toArray,List.length_append,hol,List.length_drop,Array.length_toList];omega⟩,by rw [hlen];exact hroom,hcm,?_,?_,?_,?_,?_⟩ ?_ hd
    · simp only [List.size_toArray,List.length_append,hol,List.length_drop,Array.length_toList]
      omega
    · rw [List.all_append,hse,hsn];rfl
    · rw [htake,zdj]
      exact (hvv.mono hin.2.sub).append (hvn.mono hin.2.sub)
    · intro k q hk
      rw [htake] at hk
      rw [zeh];exact hk
    · intro off sp ho
      rw [hlen,hfl] at ho
      by_cases hsp:sp=none
      · subst hsp
        rw [zeh,List.getElem?_eq_none ho]
      · cases hS:zhp S g (cur.toList.take (es.length * i.size)++news) ⟨g,off,sp⟩ with
        | none=>rfl
        | some q =>
         simp [zhp,hsp] at hS
         exact absurd (h.h.S_spot hS) hsp
    · intro g' hg'
      cases hg'
      refine ⟨hgB.1,hgB.2.1,hgB.2.2,fun k sz' es' _ hk e=>?_⟩
      obtain ⟨hne,hk'⟩:=hgive k sz' es' hk
      exact hne (h.ownI hk' hρ e how)
  · refine zga h hzs hby hvn hsn rgrow hd es (cur.toList.take (es.length * i.size)) (some ⟨g,0,none⟩) es.length cap rfl hxs ⟨fun w'=>by simp [Builtin.lenOf],fun w' hw'=>?_⟩ hvv hse (by omega) hmost
    refine run_firstCells_some w' i.size es.length ⟨g,0,none⟩ es.length cap _ (by rw [hvv.1,zw hse]) fun k q hk=>?_
    rw [zao]
    have hc':=hcell _ _ (hvS k q hk)
    simpa [World.cell?,hw'] using hc'
theorem ztq [DD] {P:Program} {S:Stb} {ms:List (Nat→Nat)} {ow:Nat→Option Nat} {base:Nat} {O:Nat→Prop} {ρ:Env} {L:Hp} {σ:List Hp} {G:Gh} {a:Act} {w:World}
 (h:Rel S ms ow base O ρ L σ G a w) {t u ty e:TypeId} {i:TypeInfo} {z:Value} (ht:P.underlying t=some (.slice e)) (hu:zjd P u) (hi:P.info? e=some i) (hz:i.zero=some z)
 (hzs:z.cells.size=i.size) (_hsz:0<i.size) (hby:0<i.bytes) {x:AO} {xv:Value} (hxv:∀ j,x=.t j→xv=a.tmps.getD j undef) (hx:VR S (L::σ) ms (ev ρ x) xv) (hc:∀ y,x=.c y→(ev ρ x)=.d y)
 {y:D} {yv:Value} (hy:VRD S y yv) {r:AV} (hr:zbc i.size i.bytes (ev ρ x) y=some r) {d:Nat} (hd:d<a.tmps.size) :
 ∃ v w' S' ow',(Builtin.append_ #[t,u] ty #[xv,yv]).run P w=.ok v w'∧Rel S' ms ow' base O (E2.put (zdb ρ x) (some d) r) L σ G (a.put (some d) v) w'∧Evo base O S w S' w':=by
 have hcell:=h.h.sub
 unfold zbc at hr
 rw [if_neg (by omega)] at hr
 split at hr
 · cases hr
 · rename_i ys hys
   obtain ⟨news,hsrc,hvn,hsn⟩:=z3b (P:=P) (w:=w) hcell hys hy
   have hnl:news.length=ys.length * i.size:=by rw [hvn.1,zw hsn]
   have hn1:=hvn.one (zfn hsn)
   have h63:maxLen=9223372036854775807:=rfl
   have rgrow:∀ b n cap olds,xv=.slice b n cap→zd2 P i.size (.slice b n cap) n olds w→cap<n+ys.length→((n+ys.length:Nat):Int)≤9223372036854775807→Builtin.nextslicecap (n+ys.length) cap * i.bytes≤281474976710656 →
    (Builtin.append_ #[t,u] ty #[xv,yv]).run P w=.ok (.slice (some ⟨w.heap.size,0,none⟩) (n+ys.length) (grownCap w (n+ys.length) cap e)) (w.drew.alloc (.cells (olds.toArray++news.toArray++Builtin.zeroCells z.cells (grownCap w (n+ys.length) cap e - (n+ys.length))) e)):=by
    intro b n cap olds hxv' hso hcap h63 hfit
    rw [hxv']
    exact zih w t u ty e i z ht hu hi hz b n cap olds hso yv ys.length news hsrc hcap h63 hfit
   split at hr
   · -- onto nil
     rename_i hxe
     split at hr
     · rename_i hmost
       have hxn:xv=.slice none 0 0:=by
        have:VR S (L::σ) ms (.d .nilS) xv:=hxe▸hx
        cases this;rfl
       have hnilsrc:zd2 P i.size (.slice none 0 0) 0 [] w:=⟨fun w'=>by simp [Builtin.lenOf],fun w' _=>by simp [Builtin.firstCells]⟩
       split at hr
       · rename_i hemp
         cases hr
         have hys0:ys=[]:=by simpa using hemp
         subst hys0
         have hnews:news=[]:=List.eq_nil_of_length_eq_zero (by simpa using hnl)
         subst hnews
         refine ⟨_,w,S,ow,by rw [hxn];exact ze1 w t u ty e i ht hu hi none 0 0 yv hsrc (Nat.le_refl _),?_,Evo.refl _ _ _ _⟩
         exact (h.give x).put (x:=.d .nilS) (VRD.nilS (S:=S)) (by intro _ _ e;cases e) (fun j hj=>by cases hj;exact hd)
       · rename_i hemp
         cases hr
         have hpos:0<ys.length:=by
          cases ys with
          | nil=>simp at hemp
          | cons _ _=>simp
         have:=zga h (x:=x) hzs hby hvn hsn rgrow hd [] [] none 0 0 rfl hxn hnilsrc zz.nil rfl (by omega) (by simpa using hmost)
         simpa using this
     · cases hr
   · -- onto a list of one's own
     rename_i sz' es hxe
     split at hr
     · rename_i hcond
       obtain ⟨rfl,hmost⟩:=hcond
       cases hr
       obtain ⟨j,rfl⟩:∃ j,x=.t j:=by
        cases x with
        | t j=>exact ⟨j,rfl⟩
        | c y=>have:=hc y rfl;rw [hxe] at this;cases this
        | g y=>simp only [ev] at hxe;split at hxe<;>cases hxe
        | m y tab=>simp only [ev] at hxe;(repeat' split at hxe)<;>cases hxe
       exact zy6 h hzs hby (hxv j rfl) hxe hvn hsn hmost
        (fun b n cap hys hx hroom=>by
          have hnews:news=[]:=List.eq_nil_of_length_eq_zero (by rw [hnl,hys];simp)
          rw [hys,hnews] at hsrc
          rw [hx];exact ze1 w t u ty e i ht hu hi b n cap yv hsrc hroom)
        (fun g n cap cur eb hx hg hroom hfit=>by rw [hx];exact zm9 w t u ty e i ht hu hi g n cap cur eb hg yv ys.length news hsrc hn1 hroom hfit)
        rgrow hd
     · cases hr
   · cases hr
theorem zcp {S:Stb} {z:List D} {zv:Array Value} (h:zz S z zv.toList) (n:Nat):zz S (rep n z) (Builtin.zeroCells zv n).toList:=by
 have hzl:zv.size=z.length:=by have:=h.1;simpa using this
 have hlen:(rep n z).length=n * z.length:=by simp [rep]
 refine ⟨by simp [Builtin.zeroCells,hlen,hzl],fun j x v hx hv=>?_⟩
 have hj:j<n * z.length:=by rw [← hlen];exact (List.getElem?_eq_some_iff.1 hx).1
 have hpos:0<z.length:=Nat.pos_of_ne_zero fun e=>by rw [e] at hj;simp at hj
 have hx':z[j % z.length]?=some x:=by
  have gen:∀ (n j:Nat),j<n * z.length→(rep n z)[j]?=z[j % z.length]?:=by
   intro n
   induction n with
   | zero=>intro j hj;simp at hj
   | succ n ih =>
    intro j hj
    have:rep (n+1) z=z++rep n z:=by simp [rep,List.replicate_succ]
    rw [this]
    by_cases hlt:j<z.length
    · rw [List.getElem?_append_left hlt,Nat.mod_eq_of_lt hlt]
    · rw [List.getElem?_append_right (by omega),ih (j - z.length) (by rw [Nat.add_mul] at hj;omega)]
      congr 1
      rw [Nat.mod_eq_sub_mod (by omega:z.length≤j)]
  rw [← gen n j hj];exact hx
 have hm:j % z.length<zv.size:=by rw [hzl];exact Nat.mod_lt _ hpos
 have hv':v=zv[j % z.length]!:=by
  simp [Builtin.zeroCells,hzl,hj] at hv
  exact hv.symm
 refine h.2 (j % z.length) x v hx' ?_
 rw [hv']
 simp [hm]
theorem ze2 {z:List D} (h:z.all D.one=true):∀ n,(rep n z).all D.one=true
 | 0=>by simp [rep]
 | n+1=>by
   have:rep (n+1) z=z++rep n z:=by simp [rep,List.replicate_succ]
   rw [this,List.all_append,h,ze2 h n];rfl
section
variable {P:Program} (w:World)
theorem zl1 (t u ty e:TypeId) (i:TypeInfo) (ht:P.underlying t=some (.slice e)) (hu:zjd P u) (hi:P.info? e=some i)
 (g off n cap:Nat) (cur:Array Value) (eb:TypeId) (hg:w.heap[g]?=some (.cells cur eb (0,0))) (y:Value) (m:Nat) (news:List Value) (hy:zd2 P i.size y m news w)
 (h1:∀ v∈news,v.oneCell'=true) (hroom:n+m≤cap) (hfit:off+n * i.size+news.length≤cur.size) :
 (Builtin.append_ #[t,u] ty #[.slice (some ⟨g,off,none⟩) n cap,y]).run P w =
   .ok (.slice (some ⟨g,off,none⟩) (n+m) cap) (w.setRow g (cur.toList.take (off+n * i.size)++news++cur.toList.drop (off+n * i.size+news.length)).toArray):=by
 have hst:=run_storeCells_at P g (off+n * i.size) eb news 0 cur w hg (by simpa using hfit) h1
 simp only [Nat.add_zero] at hst
 have hf:=hy.first w rfl
 rcases hu with ⟨e',hu⟩|hu<;>simp [Builtin.append_,run_underlying ht,run_underlying hu,sizeOf,typeInfo,hi,hy.len,hroom,hf,zao,hst]
theorem zgv (t u ty e:TypeId) (k:IntKind) (i:TypeInfo) (z:Value) (ht:P.underlying t=some (.slice e)) (hu:P.underlying u=some (.int k)) (hi:P.info? e=some i) (hz:i.zero=some z) (hzs:z.cells.size=i.size)
 (b:Option Addr) (g off n cap:Nat) (hb:b=some ⟨g,off,none⟩) (cur:Array Value) (eb:TypeId) (hg:z71 w g cur eb) (k':IntKind) (m:Nat) (hm:m * i.bytes≤mostBytes) (hby:0<i.bytes)
 (h1:∀ v∈(Builtin.zeroCells z.cells m).toList,v.oneCell'=true) (hroom:n+m≤cap) (hfit:off+n * i.size+m * i.size≤cur.size) :
 (Builtin.append_ #[t,u] ty #[.slice b n cap,.int k' m]).run P w =
   .ok (.slice b (n+m) cap) (w.setRow g (cur.toList.take (off+n * i.size)++(Builtin.zeroCells z.cells m).toList++cur.toList.drop (off+n * i.size+(Builtin.zeroCells z.cells m).toList.length)).toArray):=by
 subst hb
 have hzl:(Builtin.zeroCells z.cells m).toList.length=m * i.size:=by rw [Array.length_toList,zde,hzs]
 obtain ⟨fr,hg,hfr⟩:=hg
 have hst:=zb9 P g (off+n * i.size) eb fr (Builtin.zeroCells z.cells m).toList 0 cur w hg hfr (by rw [hzl];simpa using hfit) h1
 simp only [Nat.add_zero] at hst
 have hml:m≤mostBytes:=Nat.le_trans (by have:=Nat.mul_le_mul_left m hby;omega) hm
 have hw1:IntKind.i64.wrap (m:Int)=m:=by rw [IntKind.wrap_i64];unfold mostBytes at hml;omega
 have hneg:¬ ((m:Int)<0):=by omega
 have hbig:¬ ((281474976710656:Int)<(m:Int) * (i.bytes:Int)):=by
  have e:((m:Int) * (i.bytes:Int))=((m * i.bytes:Nat):Int):=(Int.natCast_mul _ _).symm
  have hm':m * i.bytes≤140737488355328:=hm
  rw [e]
  omega
 by_cases h0:m * i.size=0
 · have hz0:(Builtin.zeroCells z.cells m).toList=[]:=List.eq_nil_of_length_eq_zero (by rw [hzl,h0])
   have hst0:=hst
   rw [hz0] at hst0
   simp [Builtin.append_,run_underlying ht,run_underlying hu,sizeOf,typeInfo,zeroValue,hi,hz,asInt,asIntOf,hw1,hneg,hbig,hroom,zao,hz0,hst0]
 · simp [Builtin.append_,run_underlying ht,run_underlying hu,sizeOf,typeInfo,zeroValue,hi,hz,asInt,asIntOf,hw1,hneg,hbig,hroom,zao,h0,hst]
theorem zl2 (t u ty e:TypeId) (k:IntKind) (i:TypeInfo) (z:Value) (ht:P.underlying t=some (.slice e)) (hu:P.underlying u=some (.int k)) (hi:P.info? e=some i) (_hz:i.zero=some z) (b:Option Addr) (n cap:Nat) (k':IntKind) (hroom:n≤cap) :
 (Builtin.append_ #[t,u] ty #[.slice b n cap,.int k' (0:Nat)]).run P w=.ok (.slice b n cap) w:=by
 have hw1:IntKind.i64.wrap (0:Int)=0:=by rw [IntKind.wrap_i64];omega
 cases b<;>simp [Builtin.append_,run_underlying ht,run_underlying hu,sizeOf,typeInfo,hi,asInt,asIntOf,hw1,hroom,storeCells]
theorem znb (t u ty e:TypeId) (k:IntKind) (i:TypeInfo) (z:Value) (ht:P.underlying t=some (.slice e)) (hu:P.underlying u=some (.int k)) (hi:P.info? e=some i) (_hz:i.zero=some z) (k':IntKind) :
 (Builtin.append_ #[t,u] ty #[.slice none 0 0,.int k' 0]).run P w=.ok (.slice none 0 0) w:=by
 have hw1:IntKind.i64.wrap (0:Int)=0:=by rw [IntKind.wrap_i64];omega
 simp [Builtin.append_,run_underlying ht,run_underlying hu,sizeOf,typeInfo,hi,asInt,asIntOf,hw1]
theorem zgw (t u ty e:TypeId) (k:IntKind) (i:TypeInfo) (z:Value) (ht:P.underlying t=some (.slice e)) (hu:P.underlying u=some (.int k)) (hi:P.info? e=some i) (hz:i.zero=some z) (hzs:z.cells.size=i.size)
 (x:Option Addr) (n cap:Nat) (olds:List Value) (hx:zd2 P i.size (.slice x n cap) n olds w) (k':IntKind) (m:Nat) (hm:m * i.bytes≤mostBytes) (hby:0<i.bytes)
 (hg:cap<n+m) (h63:((n+m:Nat):Int)≤9223372036854775807) (hfit:Builtin.nextslicecap (n+m) cap * i.bytes≤281474976710656) :
 (Builtin.append_ #[t,u] ty #[.slice x n cap,.int k' m]).run P w =
   .ok (.slice (some ⟨w.heap.size,0,none⟩) (n+m) (grownCap w (n+m) cap e))
    (w.drew.alloc (.cells (olds.toArray++Builtin.zeroCells z.cells m++Builtin.zeroCells z.cells (grownCap w (n+m) cap e - (n+m))) e)):=by
 have hml:m≤mostBytes:=Nat.le_trans (by have:=Nat.mul_le_mul_left m hby;omega) hm
 have hw1:IntKind.i64.wrap (m:Int)=m:=by rw [IntKind.wrap_i64];unfold mostBytes at hml;omega
 have hneg:¬ ((m:Int)<0):=by omega
 have hbig:¬ ((281474976710656:Int)<(m:Int) * (i.bytes:Int)):=by
  have e:((m:Int) * (i.bytes:Int))=((m * i.bytes:Nat):Int):=(Int.natCast_mul _ _).symm
  have hm':m * i.bytes≤140737488355328:=hm
  rw [e]
  omega
 have hn:¬ (n+m≤cap):=by omega
 have h63':¬ (9223372036854775807<((n:Int)+(m:Int))):=by omega
 have h48':¬ (281474976710656<Builtin.nextslicecap (n+m) cap * i.bytes):=by omega
 have hfo:=hx.first w.drew rfl
 by_cases h0:m * i.size=0
 · have hz0:Builtin.zeroCells z.cells m=#[]:=Array.eq_empty_of_size_eq_zero (by rw [zde,hzs,h0])
   simp [Builtin.append_,run_underlying ht,run_underlying hu,sizeOf,typeInfo,zeroValue,hi,hz,asInt,asIntOf,hw1,hneg,hbig,hn,h63',h48',Question.forced,hz0,hfo,newRow,grownCap]
 · simp [Builtin.append_,run_underlying ht,run_underlying hu,sizeOf,typeInfo,zeroValue,hi,hz,asInt,asIntOf,hw1,hneg,hbig,hn,h63',h48',Question.forced,h0,hfo,newRow,grownCap]
end
end Go.E2
