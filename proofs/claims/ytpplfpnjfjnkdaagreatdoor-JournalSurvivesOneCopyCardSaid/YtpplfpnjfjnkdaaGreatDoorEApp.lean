/-
 The built-in append,run;and the relation zao it.
 Conditions: none;laws.
-/
import Derived.Test.YtpplfpnjfjnkdaaGreatDoorER
namespace Go.E2
structure ze0 (P:Program) (size:Nat) (y:Value) (m:Nat) (news:List Value) (w:World):Prop where
 len:∀ w',(Builtin.lenOf y).run P w'=.ok m w'
 first:∀ w',w'.heap=w.heap→(Builtin.firstCells size m y).run P w'=.ok news.toArray w'
def zjh (P:Program) (u:TypeId):Prop:=(∃ e',P.underlying u=some (.slice e'))∨P.underlying u=some .string
theorem zk8 (s:List UInt8):(u8s s).length=s.length:=by simp [u8s]
theorem z1v (s:List UInt8):(u8s s).all D.one=true:=by simp [u8s,List.all_map,Function.comp_def,D.one]
theorem z5u (s:List UInt8):(u8s s).all (zb 1)=true:=by simp [u8s,List.all_map,Function.comp_def,zb,D.cells,D.one]
theorem zgz:∀ s:List UInt8,flat (u8s s)=u8s s
 | []=>rfl
 | b::s=>by
   show flat (.int .u8 b.toNat::u8s s)=_
   rw [zah,zgz s];rfl
theorem zrk (S:Stb) (s:List UInt8):z6 S (u8s s) (s.map fun b=>.int .u8 b.toNat):=by
 refine ⟨by simp [u8s],fun j x v hx hv=>?_⟩
 simp only [u8s,List.getElem?_map,Option.map_eq_some_iff] at hx hv
 obtain ⟨b,hb,rfl⟩:=hx
 obtain ⟨b',hb',rfl⟩:=hv
 rw [hb] at hb';cases hb'
 exact .int _ _
theorem zt9 {P:Program} (s:ByteArray) (w':World):(Builtin.lenOf (.string s)).run P w'=.ok s.data.toList.length w':=by
 simp [Builtin.lenOf]
theorem znf {P:Program} (s:ByteArray) (sz k:Nat) (w':World):(Builtin.firstCells sz k (.string s)).run P w'=.ok ((s.data.toList.map fun b=>Value.int .u8 b.toNat).take k).toArray w':=by
 simp only [Builtin.firstCells,Sem.run_pure]
 congr 1
 apply Array.ext'
 simp
theorem zau (g o j:Nat):(⟨g,o,none⟩:Addr).add j=⟨g,o+j,none⟩:=by unfold Addr.add;split<;>simp_all
theorem z5v {P:Program} {S:Stb} {w:World} {sz:Nat} {y:D} {v:Value} {ys:List D} (hc:∀ ad v,S ad=some v→w.cell? ad=some v) (hy:zsz sz y=some ys) (hv:VRD S y v) :
 ∃ news,ze0 P sz v ys.length news w∧z6 S (flat ys) news∧ys.all (zb sz)=true:=by
 cases y with
 | nilS =>
  simp [zsz] at hy
  subst hy
  cases hv
  exact ⟨[],⟨fun w'=>by simp [Builtin.lenOf],fun w' _=>by simp [Builtin.firstCells]⟩,z6.nil,rfl⟩
 | list es =>
  simp only [zsz] at hy
  split at hy
  · rename_i hsz
    cases hy
    rcases hv.list_inv with ⟨rfl,rfl⟩|⟨a,cap,c,rfl,hsp,hcap,_,hs,hS⟩
    · exact ⟨[],⟨fun w'=>by simp [Builtin.lenOf],fun w' _=>by simp [Builtin.firstCells]⟩,z6.nil,rfl⟩
    refine ⟨c,⟨fun w'=>by simp [Builtin.lenOf],fun w' hw'=>?_⟩,hs,hsz⟩
    refine run_firstCells_some w' sz ys.length a ys.length cap c (by rw [hs.1,zw hsz]) fun j u hj=>?_
    have hp:0<cap:=by
     refine Nat.lt_of_lt_of_le (Nat.pos_of_ne_zero fun e=>?_) hcap
     have:=List.eq_nil_of_length_eq_zero e
     subst this
     have h0:c=[]:=List.eq_nil_of_length_eq_zero (by simpa [flat] using hs.1)
     rw [h0] at hj;simp at hj
    have hsp:=hsp hp
    have:a=⟨a.block,a.off,none⟩:=by cases a;simp at hsp;subst hsp;rfl
    rw [this,zau]
    have h1:=hc _ _ (hS j u hj)
    simpa [World.cell?,hw'] using h1
  · cases hy
 | str s =>
  simp only [zsz] at hy
  split at hy
  · rename_i h1
    subst h1
    cases hy
    cases hv with
    | str s l h =>
     subst h
     refine ⟨_,⟨fun w'=>by rw [zk8];exact zt9 s w',fun w' _=>?_⟩,by rw [zgz];exact zrk S _,z5u _⟩
     rw [znf,List.take_of_length_le (by simp [u8s])]
  · cases hy
 | _=>simp [zsz] at hy
section
variable {P:Program} (w:World)
theorem zng (t u ty e:TypeId) (i:TypeInfo) (ht:P.underlying t=some (.slice e)) (hu:zjh P u) (hi:P.info? e=some i)
 (g n cap:Nat) (cur:Array Value) (eb:TypeId) (hg:w.heap[g]?=some (.cells cur eb (0,0))) (y:Value) (m:Nat) (news:List Value) (hy:ze0 P i.size y m news w)
 (h1:∀ v∈news,v.oneCell'=true) (hroom:n+m≤cap) (hfit:n * i.size+news.length≤cur.size) :
 (Builtin.append_ #[t,u] ty #[.slice (some ⟨g,0,none⟩) n cap,y]).run P w =
   .ok (.slice (some ⟨g,0,none⟩) (n+m) cap) (w.setRow g (cur.toList.take (n * i.size)++news++cur.toList.drop (n * i.size+news.length)).toArray):=by
 have hst:=run_storeCells_at P g (n * i.size) eb news 0 cur w hg (by simpa using hfit) h1
 simp only [Nat.add_zero] at hst
 have hf:=hy.first w rfl
 rcases hu with ⟨e',hu⟩|hu<;>simp [Builtin.append_,run_underlying ht,run_underlying hu,sizeOf,typeInfo,hi,hy.len,hroom,hf,zau,hst]
theorem ze4 (t u ty e:TypeId) (i:TypeInfo) (ht:P.underlying t=some (.slice e)) (hu:zjh P u) (hi:P.info? e=some i)
 (b:Option Addr) (n cap:Nat) (y:Value) (hy:ze0 P i.size y 0 [] w) (hroom:n≤cap) :
 (Builtin.append_ #[t,u] ty #[.slice b n cap,y]).run P w=.ok (.slice b n cap) w:=by
 have hf:=hy.first w rfl
 rcases hu with ⟨e',hu⟩|hu
 all_goals
  cases b with
  | none=>simp [Builtin.append_,run_underlying ht,run_underlying hu,sizeOf,typeInfo,hi,hy.len,hroom,hf]
  | some b=>simp [Builtin.append_,run_underlying ht,run_underlying hu,sizeOf,typeInfo,hi,hy.len,hroom,hf,storeCells]
theorem zin (t u ty e:TypeId) (i:TypeInfo) (z:Value) (ht:P.underlying t=some (.slice e)) (hu:zjh P u) (hi:P.info? e=some i) (hz:i.zero=some z)
 (x:Option Addr) (n cap:Nat) (olds:List Value) (hx:ze0 P i.size (.slice x n cap) n olds w)
 (y:Value) (m:Nat) (news:List Value) (hy:ze0 P i.size y m news w)
 (hg:cap<n+m) (h63:((n+m:Nat):Int)≤9223372036854775807) (hfit:Builtin.nextslicecap (n+m) cap * i.bytes≤281474976710656) :
 (Builtin.append_ #[t,u] ty #[.slice x n cap,y]).run P w =
   .ok (.slice (some ⟨w.heap.size,0,none⟩) (n+m) (grownCap w (n+m) cap e))
    (w.drew.alloc (.cells (olds.toArray++news.toArray++Builtin.zeroCells z.cells (grownCap w (n+m) cap e - (n+m))) e)):=by
 have hn:¬ (n+m≤cap):=by omega
 have h63':¬ (9223372036854775807<((n:Int)+(m:Int))):=by omega
 have h48':¬ (281474976710656<Builtin.nextslicecap (n+m) cap * i.bytes):=by omega
 have hf:=hy.first w.drew rfl
 have hfo:=hx.first w.drew rfl
 rcases hu with ⟨e',hu⟩|hu
 all_goals
  simp [Builtin.append_,run_underlying ht,run_underlying hu,sizeOf,typeInfo,zeroValue,hi,hz,hy.len,hn,h63',h48',Question.forced,hf,hfo,newRow,grownCap]
  congr 2
  apply Array.ext'
  simp [List.append_assoc]
end
def zi3 (S:Stb) (B:Nat) (vis:List Value):Stb:=fun ad=>if ad.block=B∧ad.spot=none then vis[ad.off]? else S ad
theorem zdi {S:Stb} {B:Nat} {vis:List Value} {ad:Addr} (h:ad.block≠B):zi3 S B vis ad=S ad:=by simp [zi3,h]
theorem zga {S:Stb} {B:Nat} {vis:List Value} {j:Nat}:zi3 S B vis ⟨B,j,none⟩=vis[j]?:=by simp [zi3]
section
variable {S:Stb} {ms:List (Nat→Nat)} {ow:Nat→Option Nat} {base:Nat} {O:Nat→Prop} {ρ:Env} {L:Hp} {σ:List Hp} {G:Gh} {a:Act} {w w':World}
theorem znh (h:zc0 S ms (L::σ) G w) (vis:List Value):Sub S (zi3 S w.heap.size vis):=by
 intro ad v hS
 rw [zdi (Nat.ne_of_lt (h.S_lt hS))];exact hS
theorem Rel.grow (h:Rel S ms ow base O ρ L σ G a w) {cur:Array Value} {e:TypeId} {fr:Nat×Nat} {vis:List Value} (hsz:w'.heap.size=w.heap.size+1)
 (hold:∀ b,b<w.heap.size→w'.heap[b]?=w.heap[b]?) (hB:w'.heap[w.heap.size]?=some (.cells cur e fr)) (hv:∀ (j:Nat) (u:Value),vis[j]?=some u→cur[j]?=some u)
 (h1:w'.os=w.os) (h2:w'.tape=w.tape) (h3:w'.output=w.output) :
 Rel (zi3 S w.heap.size vis) ms ow base O ρ L σ G a w'∧Evo base O S w (zi3 S w.heap.size vis) w':=by
 have hsub:=znh h.h vis
 refine ⟨h.ext (g:=w.heap.size) (fun k s cs hl=>absurd (h.h.block_lt hl) (by omega)) h.g_none (fun o ho=>by have:=(Array.getElem?_eq_some_iff.1 ho).1;omega) (fun i sz es hi e=>?_) (by omega) (fun b hb _=>hold b hb) hsub (fun ad _ hne=>zdi hne) ?_,?_⟩
 · have:=h.own hi;rw [e] at this;have:=this.lt;omega
 · intro ad v hS
   by_cases hb:ad.block=w.heap.size∧ad.spot=none
   · simp only [zi3,hb,and_self,if_true] at hS
     simp [World.cell?,hb,hB,hv _ _ hS]
   · simp only [zi3,hb,if_false] at hS
     have hlt:=h.h.S_lt hS
     have:=h.h.sub _ _ hS
     rw [← this]
     simp only [World.cell?,hold _ hlt]
 · exact ⟨by omega,fun b hb _=>hold b (Nat.lt_of_lt_of_le hb h.bas),fun ad hb=>zdi (Nat.ne_of_lt (Nat.lt_of_lt_of_le hb h.bas)),hsub,h1,h2,h3⟩
theorem Rel.inplace (h:Rel S ms ow base O ρ L σ G a w) {g:Nat} {cur cur':Array Value} {e:TypeId} {vis:List Value} (hgb:base≤g) (hl:∀ k s cs,¬ zdy (L::σ) ms k s g cs) (hgG:G g=none)
 (ho:∀ i sz es,ρ i=.own sz es→ow i≠some g) (hg:w.heap[g]?=some (.cells cur e (0,0))) (hv:∀ (j:Nat) (u:Value),vis[j]?=some u→cur'[j]?=some u)
 (hpre:∀ ad v,S ad=some v→ad.block=g→vis[ad.off]?=some v) :
 Rel (zi3 S g vis) ms ow base O ρ L σ G a (w.setRow g cur')∧Evo base O S w (zi3 S g vis) (w.setRow g cur'):=by
 have hsub:Sub S (zi3 S g vis):=by
  intro ad v hS
  by_cases hb:ad.block=g
  · simp [zi3,hb,h.h.S_spot hS,hpre ad v hS hb]
  · rw [zdi hb];exact hS
 refine ⟨h.ext (g:=g) hl hgG (fun o ho=>by rw [hg] at ho;cases ho;exact ⟨_,_,_,rfl⟩) ho (by simp) (fun b _ hne=>setRow_other w g b cur' hne) hsub (fun ad _ hne=>zdi hne) ?_,?_⟩
 · intro ad v hS
   by_cases hb:ad.block=g∧ad.spot=none
   · simp only [zi3,hb,and_self,if_true] at hS
     simp [World.cell?,hb,setRow_heap w g cur cur' e (0,0) hg,hv _ _ hS]
   · simp only [zi3,hb,if_false] at hS
     have hne:ad.block≠g:=fun x=>hb ⟨x,h.h.S_spot hS⟩
     rw [cell_setRow_other w g cur' ad hne];exact h.h.sub _ _ hS
 · exact ⟨by simp,fun b hb _=>setRow_other w g b cur' (by omega),fun ad hb=>zdi (by omega),hsub,rfl,rfl,rfl⟩
end
theorem z6.get {S:Stb} {xs:List D} {vs:List Value} (h:z6 S xs vs) {j:Nat} {x:D} (hx:xs[j]?=some x):∃ v,vs[j]?=some v∧VRD S x v:=by
 have hlt:=(List.getElem?_eq_some_iff.1 hx).1
 have:j<vs.length:=by rw [h.1];exact hlt
 exact ⟨vs[j],List.getElem?_eq_getElem this,h.2 j x _ hx (List.getElem?_eq_getElem this)⟩
theorem zd8 (z:Array Value) (n:Nat):(Builtin.zeroCells z n).size=n * z.size:=by simp [Builtin.zeroCells]
theorem zua {P:Program} {S:Stb} {ms:List (Nat→Nat)} {ow:Nat→Option Nat} {base:Nat} {O:Nat→Prop} {ρ:Env} {L:Hp} {σ:List Hp} {G:Gh} {a:Act} {w:World}
 (h:Rel S ms ow base O ρ L σ G a w) {t u ty e:TypeId} {i:TypeInfo} {z:Value} (ht:P.underlying t=some (.slice e)) (hu:zjh P u) (hi:P.info? e=some i) (hz:i.zero=some z)
 (hzs:z.cells.size=i.size) (_hsz:0<i.size) (hby:0<i.bytes) {x:AO} {xv:Value} (hxv:∀ j,x=.t j→xv=a.tmps.getD j undef) (hx:VR S (L::σ) ms (ev ρ x) xv) (hc:∀ y,x=.c y→(ev ρ x)=.d y)
 {y:D} {yv:Value} (hy:VRD S y yv) {r:AV} (hr:zcf i.size i.bytes (ev ρ x) y=some r) {d:Nat} (hd:d<a.tmps.size) :
 ∃ v w' S' ow',(Builtin.append_ #[t,u] ty #[xv,yv]).run P w=.ok v w'∧Rel S' ms ow' base O (E2.put (zdx ρ x) (some d) r) L σ G (a.put (some d) v) w'∧Evo base O S w S' w':=by
 have hcell:=h.h.sub
 unfold zcf at hr
 split at hr
 · cases hr
 · rename_i ys hys
   obtain ⟨news,hsrc,hvn,hsn⟩:=z5v (P:=P) (w:=w) hcell hys hy
   have hnl:news.length=ys.length * i.size:=by rw [hvn.1,zw hsn]
   have hn1:=hvn.one (zg0 hsn)
   have h63:maxLen=9223372036854775807:=rfl
   -- a new block
   have newBlock:∀ (es:List D) (olds:List Value) (b:Option Addr) (n cap:Nat),es.length=n→xv=.slice b n cap→ze0 P i.size (.slice b n cap) n olds w→z6 S (flat es) olds→es.all (zb i.size)=true →
    cap<n+ys.length→(n+ys.length) * i.bytes≤mostBytes →
    ∃ v w' S' ow',(Builtin.append_ #[t,u] ty #[xv,yv]).run P w=.ok v w'∧Rel S' ms ow' base O (E2.put (zdx ρ x) (some d) (.own i.size (es++ys))) L σ G (a.put (some d) v) w'∧Evo base O S w S' w':=by
    intro es olds b n cap hn hxv' hso hvo hse hcap hmost
    have hnm:n+ys.length≤140737488355328:=by
     have:(n+ys.length) * 1≤(n+ys.length) * i.bytes:=Nat.mul_le_mul_left _ hby
     unfold mostBytes at hmost;omega
    have hfit:=growslice_fits (bytes:=i.bytes) hcap (by unfold mostBytes at hmost;exact hmost)
    have hrun:=zin w t u ty e i z ht hu hi hz b n cap olds hso yv ys.length news hsrc hcap (by omega) hfit
    have hol:olds.length=n * i.size:=by rw [hvo.1,zw hse,hn]
    have hge:=grownCap_ge w (n+ys.length) cap e
    have hle:=grownCap_le_maxLen w (n+ys.length) cap e (by omega)
    have hgr:=(h.give x).grow (w':=w.drew.alloc (.cells (olds.toArray++news.toArray++Builtin.zeroCells z.cells (grownCap w (n+ys.length) cap e - (n+ys.length))) e))
     (cur:=olds.toArray++news.toArray++Builtin.zeroCells z.cells (grownCap w (n+ys.length) cap e - (n+ys.length))) (e:=e) (fr:=(0,0)) (vis:=olds++news)
     (by exact za6 (w:=w.drew)) (fun b hb=>zp (w:=w.drew) hb) (zab (w:=w.drew)) (fun j u hj=>by
       have hlt:=(List.getElem?_eq_some_iff.1 hj).1
       rw [Array.getElem?_append_left (by simpa using hlt)]
       simpa using hj) rfl rfl rfl
    refine ⟨_,_,zi3 S w.heap.size (olds++news),upd ow d (some w.heap.size),by rw [hxv'];exact hrun,?_,hgr.2⟩
    have hlen:(es++ys).length=n+ys.length:=by simp [hn]
    have hfl:(n+ys.length) * i.size=olds.length+news.length:=by rw [hol,hnl,Nat.add_mul]
    have htake:((olds.toArray++news.toArray++Builtin.zeroCells z.cells (grownCap w (n+ys.length) cap e - (n+ys.length))).toList.take ((es++ys).length * i.size))=olds++news:=by
     rw [hlen,hfl]
     simp only [Array.toList_append]
     rw [← List.length_append]
     exact List.take_left
    refine hgr.1.putOwn (es:=es++ys) (R:=some w.heap.size) ⟨grownCap w (n+ys.length) cap e,_,e,by rw [hlen],zab (w:=w.drew),by rw [hlen];exact hge,hle,?_,?_,?_,?_,?_⟩ ?_ hd
    · simp only [Array.size_append,List.size_toArray,zd8,hzs,hol,hnl]
      rw [← Nat.add_mul,← Nat.add_mul]
      congr 1
      omega
    · rw [List.all_append,hse,hsn];rfl
    · rw [htake,zcr]
      exact (hvo.mono hgr.2.sub).append (hvn.mono hgr.2.sub)
    · intro j u' hj
      rw [htake] at hj
      rw [zga];exact hj
    · intro off sp ho
      rw [hlen,hfl] at ho
      by_cases hsp:sp=none
      · subst hsp
        rw [zga,List.getElem?_eq_none (by simpa using ho)]
      · cases hS:zi3 S w.heap.size (olds++news) ⟨w.heap.size,off,sp⟩ with
        | none=>rfl
        | some q =>
         simp [zi3,hsp] at hS
         have:=h.h.S_spot hS
         exact absurd this hsp
    · intro g hg
      cases hg
      refine ⟨h.bas,h.g_none,fun k s cs hl=>absurd (h.h.block_lt hl) (by omega),fun j sz' es' hj hij e=>?_⟩
      have hown:=(h.give x).own hij
      rw [e] at hown
      have:=hown.lt
      omega
   split at hr
   · -- onto nil
     rename_i hxe
     split at hr
     · rename_i hmost
       have hxn:xv=.slice none 0 0:=by
        have:VR S (L::σ) ms (.d .nilS) xv:=hxe▸hx
        cases this;rfl
       have hnilsrc:ze0 P i.size (.slice none 0 0) 0 [] w:=⟨fun w'=>by simp [Builtin.lenOf],fun w' _=>by simp [Builtin.firstCells]⟩
       split at hr
       · rename_i hemp
         cases hr
         have hys0:ys=[]:=by simpa using hemp
         subst hys0
         have hnews:news=[]:=List.eq_nil_of_length_eq_zero (by simpa using hnl)
         subst hnews
         refine ⟨_,w,S,ow,by rw [hxn];exact ze4 w t u ty e i ht hu hi none 0 0 yv hsrc (Nat.le_refl _),?_,Evo.refl _ _ _ _⟩
         exact (h.give x).put (x:=.d .nilS) (VRD.nilS (S:=S)) (by intro _ _ e;cases e) (fun j hj=>by cases hj;exact hd)
       · rename_i hemp
         cases hr
         have hpos:0<ys.length:=by
          cases ys with
          | nil=>simp at hemp
          | cons _ _=>simp
         have:=newBlock [] [] none 0 0 rfl hxn hnilsrc z6.nil rfl (by omega) (by simpa using hmost)
         simpa using this
     · cases hr
   · -- onto a list of one's own
     rename_i sz' es hxe
     split at hr
     · rename_i hcond
       obtain ⟨rfl,hmost⟩:=hcond
       cases hr
       obtain ⟨j,rfl⟩:∃ j,x=.t j:=by
        cases x with
        | t j=>exact ⟨j,rfl⟩
        | c y=>have:=hc y rfl;rw [hxe] at this;cases this
        | g y=>simp only [ev] at hxe;split at hxe<;>cases hxe
       have hρ:ρ j=.own i.size es:=hxe
       have hown:=h.own hρ
       rw [← hxv j rfl] at hown
       have hgive:∀ k sz es',zdx ρ (.t j) k=.own sz es'→k≠j∧ρ k=.own sz es':=by
        intro k sz es' hk
        simp only [zdx,upd] at hk
        split at hk
        · exact absurd hk (zb1 _ _)
        · rename_i hne;exact ⟨hne,hk⟩
       cases how:ow j with
       | none =>
        rw [how] at hown
        obtain ⟨⟨b,hxs⟩,hve,hse⟩:=hown
        by_cases hpos:ys.length=0
        · have hys0:ys=[]:=List.eq_nil_of_length_eq_zero hpos
          subst hys0
          have hnews:news=[]:=List.eq_nil_of_length_eq_zero (by simpa using hnl)
          subst hnews
          refine ⟨_,w,S,upd ow d none,by rw [hxs];exact ze4 w t u ty e i ht hu hi b es.length es.length yv hsrc (Nat.le_refl _),?_,Evo.refl _ _ _ _⟩
          rw [List.append_nil]
          exact (h.give (.t j)).putOwn (es:=es) (R:=none) ⟨⟨b,rfl⟩,hxs▸hve,hse⟩ (fun g hg=>by cases hg) hd
        · obtain ⟨olds,hso,hvo,_⟩:=z5v (P:=P) (w:=w) (sz:=i.size) (y:=.list es) (ys:=es) hcell (by simp only [zsz,hse,if_true]) hve
          rw [hxs] at hso
          exact newBlock es olds b es.length es.length rfl hxs hso hvo hse (by omega) hmost
       | some g =>
        rw [how] at hown
        have hgB:=h.ownB hρ how
        obtain ⟨cap,cur,eb,hxs,hg,hec,hcm,hcs,hse,hvv,hvS,hvn'⟩:=hown
        by_cases hroom:es.length+ys.length≤cap
        · have hfit:es.length * i.size+news.length≤cur.size:=by rw [hnl,hcs,← Nat.add_mul];exact Nat.mul_le_mul_right _ hroom
          have hrun:=zng w t u ty e i ht hu hi g es.length cap cur eb hg yv ys.length news hsrc hn1 hroom hfit
          have hol:(cur.toList.take (es.length * i.size)).length=es.length * i.size:=by
           have hcl:cur.toList.length=cap * i.size:=by rw [Array.length_toList];exact hcs
           rw [List.length_take,hcl]
           exact Nat.min_eq_left (Nat.mul_le_mul_right _ hec)
          have hvis:∀ (k:Nat) (q:Value),(cur.toList.take (es.length * i.size)++news)[k]?=some q→((cur.toList.take (es.length * i.size)++news++cur.toList.drop (es.length * i.size+news.length)).toArray)[k]?=some q:=by
           intro k q hk
           have hlt:=(List.getElem?_eq_some_iff.1 hk).1
           rw [List.getElem?_toArray,List.getElem?_append_left hlt]
           exact hk
          have hin:=(h.give (.t j)).inplace (g:=g) (cur:=cur) (cur':=(cur.toList.take (es.length * i.size)++news++cur.toList.drop (es.length * i.size+news.length)).toArray) (e:=eb)
           (vis:=cur.toList.take (es.length * i.size)++news) hgB.1 hgB.2.2 hgB.2.1 (fun k sz es' hk e=>by
             obtain ⟨hne,hk'⟩:=hgive k sz es' hk
             exact hne (h.ownI hk' hρ e how)) hg hvis (fun ad v hS hb=>by
             have hspot:=h.h.S_spot hS
             have had:ad=⟨g,ad.off,none⟩:=by cases ad;simp at hb hspot;subst hb;subst hspot;rfl
             have hlt:ad.off<es.length * i.size:=by
              rcases Nat.lt_or_ge ad.off (es.length * i.size) with hlt|hge
              · exact hlt
              · have:=hvn' ad.off none hge
                rw [had] at hS;rw [this] at hS;cases hS
             rw [List.getElem?_append_left (by rw [hol];exact hlt)]
             have hex:∃ q,(cur.toList.take (es.length * i.size))[ad.off]?=some q:=⟨_,List.getElem?_eq_getElem (by rw [hol];exact hlt)⟩
             obtain ⟨q,hq⟩:=hex
             have:=hvS ad.off q hq
             rw [had] at hS
             rw [this] at hS
             cases hS
             exact hq)
          refine ⟨_,_,_,upd ow d (some g),by rw [hxs];exact hrun,?_,hin.2⟩
          have hlen:(es++ys).length=es.length+ys.length:=by simp
          have hfl:(es.length+ys.length) * i.size=(cur.toList.take (es.length * i.size)++news).length:=by rw [List.length_append,hol,hnl,Nat.add_mul]
          have htake:((cur.toList.take (es.length * i.size)++news++cur.toList.drop (es.length * i.size+news.length)).toArray.toList.take ((es++ys).length * i.size))=cur.toList.take (es.length * i.size)++news:=by
           rw [hlen,hfl]
           exact List.take_left
          refine hin.1.putOwn (es:=es++ys) (R:=some g) ⟨cap,_,eb,by rw [hlen],setRow_heap w g cur _ eb (0,0) hg,by rw [hlen];exact hroom,hcm,?_,?_,?_,?_,?_⟩ ?_ hd
          · simp only [List.size_toArray,List.length_append,hol,List.length_drop,Array.length_toList]
            omega
          · rw [List.all_append,hse,hsn];rfl
          · rw [htake,zcr]
            exact (hvv.mono hin.2.sub).append (hvn.mono hin.2.sub)
          · intro k q hk
            rw [htake] at hk
            rw [zga];exact hk
          · intro off sp ho
            rw [hlen,hfl] at ho
            by_cases hsp:sp=none
            · subst hsp
              rw [zga,List.getElem?_eq_none ho]
            · cases hS:zi3 S g (cur.toList.take (es.length * i.size)++news) ⟨g,off,sp⟩ with
              | none=>rfl
              | some q =>
               simp [zi3,hsp] at hS
               exact absurd (h.h.S_spot hS) hsp
          · intro g' hg'
            cases hg'
            refine ⟨hgB.1,hgB.2.1,hgB.2.2,fun k sz' es' _ hk e=>?_⟩
            obtain ⟨hne,hk'⟩:=hgive k sz' es' hk
            exact hne (h.ownI hk' hρ e how)
        · refine newBlock es (cur.toList.take (es.length * i.size)) (some ⟨g,0,none⟩) es.length cap rfl hxs ⟨fun w'=>by simp [Builtin.lenOf],fun w' hw'=>?_⟩ hvv hse (by omega) hmost
          refine run_firstCells_some w' i.size es.length ⟨g,0,none⟩ es.length cap _ (by rw [hvv.1,zw hse]) fun k q hk=>?_
          rw [zau]
          have hc':=hcell _ _ (hvS k q hk)
          simpa [World.cell?,hw'] using hc'
     · cases hr
   · cases hr
end Go.E2
