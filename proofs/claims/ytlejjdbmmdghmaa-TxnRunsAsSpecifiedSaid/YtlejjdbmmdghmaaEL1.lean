/-
 What the arguments read as,and how a contract becomes the statement of a law.
 Conditions: none;definitions and laws.
-/
import Derived.Test.YtlejjdbmmdghmaaEN6
import Derived.JoinedOf
import Derived.Handed
import Derived.ChangeSame
import Derived.ChangeArms
import Derived.OpenShut
import Derived.DataShut
import Derived.RowKit
import Derived.RowKit3
namespace Go.E2
open Go.ChangeShapes Go.WideShapes
def stb (w:World):Stb:=fun ad=>if ad.spot=none then w.cell? ad else none
def ztr (w w':World):Prop:=∀ b,b<w.heap.size→w'.heap[b]?=w.heap[b]?
theorem ztr.cell {w w':World} (h:ztr w w') {a:Addr} {v:Value} (hv:w.cell? a=some v):w'.cell? a=some v:=by
 have hb:a.block<w.heap.size:=by
  refine Nat.lt_of_not_le fun hc=>?_
  rw [zd9 hc] at hv;cases hv
 simpa [World.cell?,h _ hb] using hv
theorem ztr.cells {w w':World} (h:ztr w w') {base:Nat} {a:Addr} {n:Nat} {cs:List Value} (hc:w.cells? base a n=some cs):w'.cells? base a n=some cs:=by
 unfold World.cells? at hc ⊢
 split at hc
 · rename_i hb
   rw [if_pos hb]
   refine mapM_some_of_get _ _ (mapM_some_length hc) fun i x hx=>?_
   have hlt:i<cs.length:=by rw [mapM_some_length hc];exact (List.getElem?_eq_some_iff.1 hx).1
   have:=mapM_some_get hc i x hx
   rw [List.getElem?_eq_getElem hlt] at this ⊢
   exact h.cell this
 · cases hc
def zy7 (cs:List Value):Prop:=∀ (a:Addr) (l c:Nat),Value.slice (some a) l c∈cs→a.spot=none
def zei (P:Program) (t:TypeId) (s:Bool) (R:D→Prop):Prop :=
 ∀ {H:Type} (enc:TypeId×Value→H) (w:World) (fuel:Nat) (cs:List Value) (x:DataW H×List MemPlace),(s=true→zy7 cs)→DataW.trod enc P w 0 (fun _=>true) true fuel t cs=some x →
 ∃ d,R d∧zb cs.length d=true∧zz (stb w) d.cells cs∧∀ (w':World) (sp:Nat→Bool),ztr w w'→(∀ p∈x.2,sp p.block=true)→DataW.trod enc P w' 0 sp true fuel t cs=some x
theorem zgx {S:Stb} {d:D} {v:Value} (h:VRD S d v) (h1:d.one=true):zz S d.cells [v]:=by
 have e:d.cells=[d]:=by cases d<;>simp [D.one,D.cells] at h1 ⊢
 rw [e]
 refine ⟨rfl,fun j x u a b=>?_⟩
 cases j with
 | zero=>simp at a b;subst a;subst b;exact h
 | succ j=>simp at a
section
variable {P:Program} {t:TypeId}
theorem zts {k:IntKind} (ht:P.underlying t=some (.int k)):zei P t false fun d=>∃ n,(Lit.int k n).wf=true∧d=.int k n:=by
 intro H enc w fuel cs x _ h
 obtain ⟨n,rfl,rfl,hw⟩:=DataW.trod_int ht h
 refine ⟨.int k n,⟨n,hw,rfl⟩,rfl,zgx (.int k n) rfl,fun w' sp _ _=>?_⟩
 cases fuel with
 | zero=>simp [DataW.trod] at h
 | succ m=>simp [DataW.trod,ht,hw]
theorem zr8 (ht:P.underlying t=some .bool):zei P t false fun d=>∃ b,d=.bool b:=by
 intro H enc w fuel cs x _ h
 obtain ⟨b,rfl,rfl⟩:=DataW.trod_bool ht h
 refine ⟨.bool b,⟨b,rfl⟩,rfl,zgx (.bool b) rfl,fun w' sp _ _=>?_⟩
 cases fuel with
 | zero=>simp [DataW.trod] at h
 | succ m=>simp [DataW.trod,ht]
theorem znd (ht:P.underlying t=some .string):zei P t false fun d=>∃ s:List UInt8,s.length≤maxLen∧d=.str s:=by
 intro H enc w fuel cs x _ h
 obtain ⟨s,rfl,rfl,hs⟩:=DataW.trod_string ht h
 refine ⟨.str s.data.toList,⟨s.data.toList,by simpa using hs,rfl⟩,rfl,zgx (.str s _ rfl) rfl,fun w' sp _ _=>?_⟩
 cases fuel with
 | zero=>simp [DataW.trod] at h
 | succ m=>simp [DataW.trod,ht,hs]
theorem zjg {S:Stb} {xs xs':List D} {vs vs':List Value} (h:zz S xs vs) (h':zz S xs' vs'):zz S (xs++xs') (vs++vs'):=by
 refine ⟨by simp [h.1,h'.1],fun j x v a b=>?_⟩
 by_cases hj:j<xs.length
 · rw [List.getElem?_append_left hj] at a
   rw [List.getElem?_append_left (by rw [h.1];exact hj)] at b
   exact h.2 j x v a b
 · rw [List.getElem?_append_right (by omega)] at a
   rw [List.getElem?_append_right (by rw [h.1];omega),h.1] at b
   exact h'.2 _ x v a b
theorem zgb {s:Bool} {e:TypeId} {sz:Nat} {R:D→Prop} (ht:P.underlying t=some (.slice e)) (hc:P.cellsOf e=sz) (hpos:0<sz) (he:zei P e false R) :
 zei P t s fun d=>∃ es:List D,(∀ x∈es,R x)∧es.length≤maxLen∧es.all (zb sz)=true∧d=.list es:=by
 intro H enc w fuel cs x hns h
 rcases DataW.trod_slice ht h with ⟨rfl,rfl⟩|⟨a,len,cap,elems,rest,n,rfl,rfl,rfl,hb,hl,hm,hlen,hel,hsp,_⟩
 · refine ⟨.list [],⟨[],fun x hx=>(by cases hx),Nat.zero_le _,rfl,rfl⟩,rfl,zgx .nilL rfl,fun w' sp _ _=>?_⟩
   cases fuel with
   | zero=>simp [DataW.trod] at h
   | succ m=>simp [DataW.trod,ht]
 · obtain ⟨hrl,hre⟩:=hsp rfl
   rw [hc] at hel hre ⊢
   have hspot:0<cap→a.spot=none:=fun h0=>by
    have:∃ y,(w.cells? 0 (a.add (0 * sz)) sz).bind (DataW.trod enc P w 0 (fun _=>true) true n e)=some y:=by
     rcases Nat.eq_zero_or_pos len with h1|h1
     · subst h1
       exact ⟨rest[0],(hre 0 (by omega)).trans (List.getElem?_eq_getElem (by omega))⟩
     · exact ⟨elems[0],(hel 0 h1).trans (List.getElem?_eq_getElem (by omega))⟩
    obtain ⟨y,hy⟩:=this
    obtain ⟨cs',hcs,_⟩:=Option.bind_eq_some_iff.1 hy
    obtain ⟨_,hcl,hcc⟩:=World.cells?_some hcs
    have h2:=hcc 0 hpos
    rw [List.getElem?_eq_getElem (by omega)] at h2
    have:=World.cell?_spot h2
    simpa [Addr.add] using this
   -- the elements, one after the other
   have build:∀ m,m≤len→∃ (es:List D) (c:List Value),es.length=m∧(∀ x∈es,R x)∧es.all (zb sz)=true∧c.length=m * sz∧zz (stb w) (zag es) c ∧
    (∀ j v,c[j]?=some v→w.cell? ⟨a.block,a.off+j,none⟩=some v):=by
    intro m
    induction m with
    | zero=>exact fun _=>⟨[],[],rfl,fun x hx=>(by cases hx),rfl,(by simp),⟨rfl,fun j x v h=>(by simp [zag] at h)⟩,fun j v h=>(by simp at h)⟩
    | succ m ih =>
     intro hm
     obtain ⟨es,c,h1,h2,h3,h4,h5,h6⟩:=ih (by omega)
     have hi:=hel m (by omega)
     rw [List.getElem?_eq_getElem (by omega)] at hi
     obtain ⟨cs',hcs,htr⟩:=Option.bind_eq_some_iff.1 hi
     obtain ⟨_,hcl,hcc⟩:=World.cells?_some hcs
     obtain ⟨d,hR,hso,hv,_⟩:=he enc w n cs' _ (fun h=>by cases h) htr
     rw [hcl] at hso
     refine ⟨es++[d],c++cs',by simp [h1],fun x hx=>?_,by rw [List.all_append,h3];simp [hso],by rw [List.length_append,h4,hcl,Nat.succ_mul],?_,fun j v hj=>?_⟩
     · rcases List.mem_append.1 hx with h|h
       · exact h2 x h
       · obtain rfl:=List.mem_singleton.1 h;exact hR
     · have:zag (es++[d])=zag es++d.cells:=by rw [zdj];simp [zag]
       rw [this]
       exact zjg h5 hv
     · by_cases hlt:j<c.length
       · rw [List.getElem?_append_left hlt] at hj;exact h6 j v hj
       · rw [List.getElem?_append_right (by omega)] at hj
         have hj2:j - c.length<sz:=by rw [← hcl];exact (List.getElem?_eq_some_iff.1 hj).1
         have:=hcc (j - c.length) hj2
         rw [hj] at this
         rw [← this]
         rw [zme (hspot (by omega)),zme rfl]
         have e:a.off+j=a.off+m * sz+(j - c.length):=by rw [h4] at hlt ⊢;omega
         rw [e]
   obtain ⟨es,c,h1,h2,h3,h4,h5,h6⟩:=build len (Nat.le_refl _)
   subst h1
   refine ⟨.list es,⟨es,h2,by omega,h3,rfl⟩,rfl,zgx (VRD.list sz es a cap c hspot hl h3 h5.1 (fun j v hj=>by simp only [stb,if_true];exact h6 j v hj) h5.2) rfl,fun w' sp hk hp=>?_⟩
   have keepE:∀ (i:Nat) (y:DataW H×List MemPlace),(w.cells? 0 (a.add (i * sz)) sz).bind (DataW.trod enc P w 0 (fun _=>true) true n e)=some y→(∀ p∈y.2,sp p.block=true) →
    (w'.cells? 0 (a.add (i * sz)) sz).bind (DataW.trod enc P w' 0 sp true n e)=some y:=fun i y hy hpy=>by
    obtain ⟨cs',hcs,htr⟩:=Option.bind_eq_some_iff.1 hy
    obtain ⟨_,_,_,_,hkeep⟩:=he enc w n cs' y (fun h=>by cases h) htr
    exact Option.bind_eq_some_iff.2 ⟨cs',hk.cells hcs,hkeep w' sp hk hpy⟩
   have hpm:∀ y∈elems++rest,∀ p∈y.2,sp p.block=true:=fun y hy p hpy=>hp p (by
    simp only [List.mem_append,List.mem_flatMap]
    exact .inr ⟨y,by simpa using hy,hpy⟩)
   have hE:(List.range es.length).mapM (fun i=>(w'.cells? 0 (a.add (i * sz)) sz).bind (DataW.trod enc P w' 0 sp true n e))=some elems:=by
    refine mapM_some_of_get _ _ (by simpa using hlen) fun i x hx=>?_
    obtain ⟨hi',rfl⟩:=List.getElem?_eq_some_iff.1 hx
    have hi:i<es.length:=by simpa using hi'
    rw [List.getElem_range]
    have hy:=hel i hi
    rw [List.getElem?_eq_getElem (by omega)] at hy ⊢
    exact keepE i _ hy (hpm _ (List.mem_append_left _ (List.getElem_mem _)))
   have hR:(if sp a.block=true then (List.range (cap - es.length)).mapM (fun j=>(w'.cells? 0 (a.add ((es.length+j) * sz)) sz).bind (DataW.trod enc P w' 0 sp true n e)) else some [])=some rest:=by
    by_cases hsa:sp a.block=true
    · rw [if_pos hsa]
      refine mapM_some_of_get _ _ (by simpa using hrl) fun i x hx=>?_
      obtain ⟨hi',rfl⟩:=List.getElem?_eq_some_iff.1 hx
      have hi:i<cap - es.length:=by simpa using hi'
      rw [List.getElem_range]
      have hy:=hre i hi
      rw [List.getElem?_eq_getElem (by omega)] at hy ⊢
      exact keepE _ _ hy (hpm _ (List.mem_append_right _ (List.getElem_mem _)))
    · rw [if_neg hsa]
      have hr0:rest=[]:=by
       refine Classical.byContradiction fun hne=>hsa ?_
       have hrp:0<rest.length:=List.length_pos_iff.2 hne
       refine hp (.cell a.block (a.off+0)) ?_
       refine List.mem_append_left _ ?_
       simp only [MemPlace.row,List.mem_map,List.mem_range]
       exact ⟨0,Nat.mul_pos (by omega) hpos,rfl⟩
      rw [hr0]
   have hcond:0≤a.block∧es.length≤cap∧cap≤maxLen:=⟨hb,hl,hm⟩
   simp only [DataW.trod,ht,hc,if_pos hcond,hE,hR,Option.bind_some,Option.map_some]
def zk1:List (D→Prop)→List D→Prop
 | [],[]=>True
 | R::Rs,d::ds=>R d∧zk1 Rs ds
 | _,_=>False
def zo6 (P:Program) (fl:List Field):Nat:=(fl.map fun f=>P.cellsOf f.type).sum
def Lay (P:Program) (s:Bool):Nat→List Field→List (D→Prop)→Prop
 | _,[],[]=>True
 | off,f::fl,R::Rs=>f.offset=off∧zei P f.type s R∧Lay P s (off+P.cellsOf f.type) fl Rs
 | _,_,_=>False
theorem zqk {s:Bool} {H:Type} (enc:TypeId×Value→H) (w:World) (n:Nat) (cs:List Value) (hns:s=true→zy7 cs):∀ (fl:List Field) (Rs:List (D→Prop)) (off:Nat) (xs:List (DataW H×List MemPlace)),Lay P s off fl Rs→off+zo6 P fl≤cs.length→xs.length=fl.length →
 (∀ (i:Nat) (f:Field),fl[i]?=some f→DataW.trod enc P w 0 (fun _=>true) true n f.type ((cs.drop f.offset).take (P.cellsOf f.type))=xs[i]?) →
 ∃ parts,zk1 Rs parts∧zz (stb w) (zag parts) ((cs.drop off).take (zo6 P fl))∧(zag parts).all D.one=true∧(zag parts).length=zo6 P fl ∧
   ∀ (w':World) (sp:Nat→Bool),ztr w w'→(∀ y∈xs,∀ p∈y.2,sp p.block=true)→∀ (i:Nat) (f:Field),fl[i]?=some f→DataW.trod enc P w' 0 sp true n f.type ((cs.drop f.offset).take (P.cellsOf f.type))=xs[i]?
 | [],[],off,xs,_,_,_,_=>⟨[],trivial,⟨by simp [zo6,zag],fun j x v h=>by simp [zag] at h⟩,rfl,rfl,fun _ _ _ _ i f h=>by simp at h⟩
 | f::fl,R::Rs,off,xs,hl,hle,hxs,hx=>by
   obtain ⟨rfl,hr,hl⟩:=hl
   have hsz:zo6 P (f::fl)=P.cellsOf f.type+zo6 P fl:=rfl
   match xs,hxs with
   | y::ys,hxs =>
    have h0:=hx 0 f rfl
    have h0:DataW.trod enc P w 0 (fun _=>true) true n f.type ((cs.drop f.offset).take (P.cellsOf f.type))=some y:=h0
    have hlen:((cs.drop f.offset).take (P.cellsOf f.type)).length=P.cellsOf f.type:=by rw [List.length_take,List.length_drop];omega
    obtain ⟨d,hR,hso,hv,hk⟩:=hr enc w n _ y (fun h a l c hm=>hns h a l c (List.mem_of_mem_drop (List.mem_of_mem_take hm))) h0
    rw [hlen] at hso
    obtain ⟨parts,q1,q2,q3,q4,q5⟩:=zqk enc w n cs hns fl Rs (f.offset+P.cellsOf f.type) ys hl (by omega) (by simpa using hxs) (fun i g hg=>by
     have:=hx (i+1) g (by simpa using hg)
     simpa using this)
    have hd:d.cells.length=P.cellsOf f.type:=by simp only [zb,Bool.and_eq_true,beq_iff_eq] at hso;exact hso.1
    refine ⟨d::parts,⟨hR,q1⟩,?_,?_,?_,fun w' sp hkk hp i g hg=>?_⟩
    · rw [z7,hsz,List.take_add,List.drop_drop]
      exact zjg hv q2
    · rw [z7,List.all_append,q3,zh3 hso];rfl
    · rw [z7,List.length_append,hd,q4,hsz]
    · cases i with
      | zero =>
       simp at hg
       subst hg
       exact hk w' sp hkk (hp y List.mem_cons_self)
      | succ i =>
       have:=q5 w' sp hkk (fun z hz=>hp z (List.mem_cons_of_mem _ hz)) i g (by simpa using hg)
       simpa using this
 | [],_::_,_,_,hl,_,_,_=>hl.elim
 | _::_,[],_,_,hl,_,_,_=>hl.elim
theorem zii {s:Bool} {fs:Array Field} {Rs:List (D→Prop)} (ht:P.underlying t=some (.struct fs)) (hl:Lay P s 0 fs.toList Rs) (hn:zo6 P fs.toList=P.cellsOf t) :
 zei P t s fun d=>∃ parts,zk1 Rs parts∧d=.agg (zag parts):=by
 intro H enc w fuel cs x hns h
 obtain ⟨xs,n,rfl,rfl,hcl,hxl,hf⟩:=DataW.trod_struct ht h
 obtain ⟨parts,q1,q2,q3,q4,q5⟩:=zqk enc w n cs hns fs.toList Rs 0 xs hl (by omega) (by simpa using hxl) (fun i f hi=>hf i f (by simpa using hi))
 rw [hn,List.drop_zero,List.take_of_length_le (by omega)] at q2
 refine ⟨.agg (zag parts),⟨parts,q1,rfl⟩,?_,q2,fun w' sp hk hp=>?_⟩
 · simp only [zb,D.cells,Bool.and_eq_true,beq_iff_eq]
   exact ⟨by omega,q3⟩
 · have hm:fs.toList.mapM (fun f=>DataW.trod enc P w' 0 sp true n f.type ((cs.drop f.offset).take (P.cellsOf f.type)))=some xs:=by
    refine mapM_some_of_get _ _ (by simpa using hxl) fun i f hi=>?_
    exact q5 w' sp hk (fun y hy p hpy=>hp p (by simp only [List.mem_flatMap];exact ⟨y,hy,hpy⟩)) i f hi
   simp only [DataW.trod,ht,if_pos hcl,hm,Option.map_some]
end
end Go.E2
namespace Go.E2
open Go.ChangeShapes Go.WideShapes Go.RowKit
theorem zo7 {P:Program} {w:World} {r:Reach} {b:Nat} {u:TypeId} {a:Addr} {l c:Nat} (h:Cell.okWide P w r b u (.slice (some a) l c)):a.spot=none:=by
 unfold Cell.okWide Cell.ok at h
 generalize P.underlying u=d at h
 cases d with
 | none=>exact h.elim
 | some d =>
  cases d with
  | slice e=>exact h.2.2.2.1
  | _=>exact h.elim
def zla (P:Program) (t:TypeId) (R:D→Prop):Prop :=
 ∀ {H:Type} (enc:TypeId×Value→H) (w:World) (r:Reach) (base:Nat) (v:Value) (d0:DataW H) (ps:List MemPlace),Value.okWide P w r base t v→DataW.Trod enc P w 0 (fun _=>true) true t v d0 ps →
   ∃ d,R d∧VRD (stb w) d v∧∀ (w':World) (sp:Nat→Bool),ztr w w'→(∀ p∈ps,sp p.block=true)→DataW.Trod enc P w' 0 sp true t v d0 ps
theorem zr9 {P:Program} {t:TypeId} {s:Bool} {R:D→Prop} (hn:∀ fs,P.underlying t≠some (.struct fs)) (hn2:∀ n e,P.underlying t≠some (.array n e)) (hcell:∀ v:Value,(∃ cs,v=.agg cs)→∀ (w:World) (r:Reach) (b:Nat),¬ Cell.okWide P w r b t v)
 (h:zei P t s R) (hR:∀ d,R d→d.one=true):zla P t R:=by
 intro H enc w r base v d0 ps hok ⟨fuel,htr⟩
 have hok':Cell.okWide P w r base t v:=by
  unfold Value.okWide at hok
  split at hok
  · rename_i fs e;exact absurd e (hn fs)
  · rename_i n e' e;exact absurd e (hn2 n e')
  · exact hok
 have hc:v.cells.toList=[v]:=by
  cases v with
  | agg cs=>exact absurd hok' (hcell _ ⟨cs,rfl⟩ w r base)
  | _=>rfl
 rw [hc] at htr
 obtain ⟨d,hRd,hso,hv,hk⟩:=h enc w fuel [v] _ (fun _ a l c hm=>by
  rw [List.mem_singleton] at hm
  subst hm
  exact zo7 hok') htr
 have h1:=hR d hRd
 have hd:d.cells=[d]:=by cases d<;>simp [D.one,D.cells] at h1 ⊢
 rw [hd] at hv
 refine ⟨d,hRd,hv.2 0 d v rfl rfl,fun w' sp hkk hp=>⟨fuel,?_⟩⟩
 rw [hc]
 exact hk w' sp hkk hp
theorem zne {P:Program} {t e:TypeId} {sz:Nat} {R:D→Prop} (ht:P.underlying t=some (.slice e)) (hc:P.cellsOf e=sz) (hpos:0<sz) (he:zei P e false R) :
 zla P t fun d=>∃ es:List D,(∀ x∈es,R x)∧es.length≤maxLen∧es.all (zb sz)=true∧d=.list es :=
 zr9 (fun fs e=>by rw [ht] at e;cases e) (fun n e' e=>by rw [ht] at e;cases e) (fun v ⟨cs,e⟩ w r b h=>by subst e;simp [Cell.okWide,Cell.ok,ht] at h) (zgb (s:=true) ht hc hpos he) fun d ⟨es,_,_,_,e⟩=>by subst e;rfl
theorem zfo {P:Program} {t:TypeId} {s:Bool} {R R':D→Prop} (h:zei P t s R) (hr:∀ d,R d→R' d):zei P t s R':=by
 intro H enc w fuel cs x hns htr
 obtain ⟨d,h1,h2⟩:=h enc w fuel cs x hns htr
 exact ⟨d,hr d h1,h2⟩
theorem zo8 {P:Program} {t:TypeId} {R R':D→Prop} (h:zla P t R) (hr:∀ d,R d→R' d):zla P t R':=by
 intro H enc w r base v d0 ps hok htr
 obtain ⟨d,h1,h2⟩:=h enc w r base v d0 ps hok htr
 exact ⟨d,hr d h1,h2⟩
theorem zb3 {R:D→Prop} {Rs:List (D→Prop)} {ds:List D} (h:zk1 (R::Rs) ds):∃ d ds',ds=d::ds'∧R d∧zk1 Rs ds':=by
 cases ds with
 | nil=>exact h.elim
 | cons d ds=>exact ⟨d,ds,rfl,h.1,h.2⟩
theorem zjh {ds:List D} (h:zk1 [] ds):ds=[]:=by
 cases ds with
 | nil=>rfl
 | cons d ds=>exact h.elim
def LayL (P:Program) (s:Bool):Nat→List (Nat×TypeId)→List (D→Prop)→Prop
 | _,[],[]=>True
 | off,(o,t)::l,R::Rs=>o=off∧zei P t s R∧LayL P s (off+P.cellsOf t) l Rs
 | _,_,_=>False
theorem ztt {P:Program} {s:Bool}:∀ {fl:List Field} {l:List (Nat×TypeId)} {Rs:List (D→Prop)} {off:Nat},fl.map (fun f=>(f.offset,f.type))=l→LayL P s off l Rs→Lay P s off fl Rs
 | [],l,[],off,e,h=>trivial
 | [],l,_::_,off,e,h=>by simp at e;subst e;exact h.elim
 | f::fl,l,Rs,off,e,h=>by
   cases l with
   | nil=>simp at e
   | cons p l =>
    simp at e
    obtain ⟨rfl,e⟩:=e
    cases Rs with
    | nil=>exact h.elim
    | cons R Rs=>exact ⟨h.1,h.2.1,ztt e h.2.2⟩
def fieldsOf (P:Program) (t:TypeId):Array Field:=match P.underlying t with|some (.struct fs)=>fs|_=>#[]
def z55 (P:Program):List TypeId→List (D→Prop)→Prop
 | [],[]=>True
 | t::ts,R::Rs=>zla P t R∧z55 P ts Rs
 | _,_=>False
theorem znf {P:Program} {H:Type} (enc:TypeId×Value→H) (w:World) (base:Nat):∀ (ts:List TypeId) (Rs:List (D→Prop)) (vs:List Value) (ds:List (DataW H)) (ps:List MemPlace),z55 P ts Rs →
 (∀ (j:Nat) t v,ts[j]?=some t→vs[j]?=some v→Value.okWide P w .any base t v)→DataW.TrodAll enc P w 0 (fun _=>true) true ts vs ds ps →
 ∃ xs:List D,zk1 Rs xs∧zz (stb w) xs vs∧∀ (w':World) (sp:Nat→Bool),ztr w w'→(∀ p∈ps,sp p.block=true)→DataW.TrodAll enc P w' 0 sp true ts vs ds ps
 | [],[],vs,ds,ps,_,_,h=>by
   obtain ⟨rfl,rfl,rfl⟩:=trodAll_nil h
   exact ⟨[],trivial,⟨rfl,fun j x v h=>by simp at h⟩,fun _ _ _ _=>trodAll_mk0⟩
 | t::ts,R::Rs,vs,ds,ps,hl,hval,h=>by
   obtain ⟨v,vs1,d,ds1,p,q,rfl,rfl,rfl,h1,h2⟩:=trodAll_cons h
   obtain ⟨x,hR,hv,hk⟩:=hl.1 enc w .any base v d p (hval 0 t v rfl rfl) h1
   obtain ⟨xs,hP,hvs,hks⟩:=znf enc w base ts Rs vs1 ds1 q hl.2 (fun j t' v' a b=>hval (j+1) t' v' (by simpa using a) (by simpa using b)) h2
   refine ⟨x::xs,⟨hR,hP⟩,⟨by simp [hvs.1],fun j y u a b=>?_⟩,fun w' sp hkk hp=>trodAll_cons_mk (hk w' sp hkk fun z hz=>hp z (List.mem_append_left _ hz)) (hks w' sp hkk fun z hz=>hp z (List.mem_append_right _ hz))⟩
   cases j with
   | zero=>simp at a b;subst a;subst b;exact hv
   | succ j=>exact hvs.2 j y u (by simpa using a) (by simpa using b)
 | [],_::_,_,_,_,hl,_,_=>hl.elim
 | _::_,[],_,_,_,hl,_,_=>hl.elim
theorem zng {w w':World} (hk:ztr w w') (ho:w'.os=w.os) (hp:w'.output=w.output) (may:MemPlace→Prop):w.keptBut w' may:=by
 refine ⟨ho,hp,fun i hi=>?_⟩
 rw [hk i hi]
 generalize w.heap[i]?=o
 cases o with
 | none=>rfl
 | some x =>
  cases x with
  | cells c t fr=>exact ⟨rfl,rfl,rfl,fun _ _=>rfl⟩
  | map es clock=>exact .inr ⟨rfl,rfl⟩
  | _=>rfl
theorem zji {P:Program} {H:Type} {enc:TypeId×Value→H} {w:World} {base:Nat} {spare:Nat→Bool} {held:Bool}:∀ {ts:List TypeId} {vs:List Value} {ds:List (DataW H)} {ps:List MemPlace},DataW.TrodAll enc P w base spare held ts vs ds ps→ds.length=ts.length
 | [],vs,ds,ps,h=>by obtain ⟨rfl,rfl,rfl⟩:=trodAll_nil h;rfl
 | t::ts,vs,ds,ps,h=>by
   obtain ⟨v,vs1,d,ds1,p,q,rfl,rfl,rfl,h1,h2⟩:=trodAll_cons h
   simp [zji h2]
theorem zz2 (w:World) (hT:zpu (stb w)):zcw (stb w) [] [] zdi w:=by
 refine ⟨fun ad v hs=>?_,rfl,fun ⟨x,m,h1,_⟩=>by simp at h1,fun ⟨x,m,h1,_⟩=>by simp at h1,fun ⟨x,m,h1,_⟩=>by simp at h1,fun h=>(by cases h),fun h=>(by cases h),fun h=>(by cases h),zmh.none,hT⟩
 simp only [stb] at hs
 split at hs
 · exact hs
 · cases hs
theorem zo9 {w w':World} (hk:ztr w w') {a:Addr} (ha:a.block<w.heap.size):w'.frozen? a=w.frozen? a:=by
 unfold World.frozen?;rw [hk _ ha]
theorem znh {P:Program} {f:FuncId} {fn:Func} {s:ChangeSpec} {apart fresh handsOn again:Bool} {Rs:List (D→Prop)} {tb:TypeId} (hc:ze3 P f) (hvars:s.vars=[]) (hlay:z55 P fn.params.toList Rs) (hres:fn.resultTypes=#[tb]) (htb:P.underlying tb=some .bool)
 (hs:∀ (H:Type) (ds:List (DataW H)),ds.length=fn.params.size→(s.fn H ds).results=[.lit (.bool true)]∧(s.fn H ds).args=ds∧(s.fn H ds).vars=[])
 (hcall:∀ xs,zk1 Rs xs→zba P f xs (·=.d (.bool true)))
 {H:Type} {enc:TypeId×Value→H} {W:World} {base:Nat} {args:Array Value} {ds gs:List (DataW H)} {before:List MemPlace}
 (hval:∀ (j:Nat) t v,fn.params[j]?=some t→args[j]?=some v→Value.okWide P W .any base t v)
 (hW:DataW.Whole enc P fn.params.toList s.vars apart W args.toList ds gs before) (hT:zpu (stb W):=by intro _ _ e;cases e) :
 Calls P f args W fun e W'=>∃ v,e=.returned v∧s.post enc P fn apart fresh handsOn again W args v W':=by
 have hW':=hW
 obtain ⟨p,q,hA,hV,rfl,hfz,hnd⟩:=hW
 have hlt:=hW'.lt
 have hV0:=hV
 rw [hvars] at hV0
 obtain ⟨rfl,rfl⟩:=trodVars_none hV0
 obtain ⟨xs,hP,hxs,hk⟩:=znf enc W base _ Rs _ ds p hlay (fun j t v a b=>hval j t v (by simpa using a) (by simpa using b)) hA
 have hdl:ds.length=fn.params.size:=by rw [zji hA];simp
 obtain ⟨s1,s2,s3⟩:=hs H ds hdl
 have hC:=hcall xs hP (stb W) [] W args (fun _=>0) (by rw [List.length_map,← hxs.1];simp) (zz2 W hT) (fun i=>by
  rcases zxf (xs:=xs) (i:=i) with e|⟨x,hx,e⟩
  · rw [e];trivial
  · rw [e]
    have hi:i<args.size:=by have:=(List.getElem?_eq_some_iff.1 hx).1;rw [← hxs.1] at this;simpa using this
    have hv:=hxs.2 i x args[i] hx (by simp [hi])
    have e2:args.getD i undef=args[i]:=by simp [Array.getD,hi]
    rw [e2];exact hv) zgf
 rcases hC with ⟨_,h⟩|⟨v,w',h,_⟩
 · refine h.mono fun e W' ⟨v,he,S',r,σ',G',⟨h1,h2,hr⟩,_,hev,_,hret,_⟩=>⟨v,he,?_⟩
   subst hr
   have hvb:v=.bool true:=by
    have hret':VRD S' (.bool true) v:=hret
    cases hret';rfl
   subst hvb
   have hkeep:ztr W W':=(Evo.all (O:=fun _=>False) hev).2
   have hold:∀ z∈p++[],(fun b=>decide (b<W.heap.size)) z.block=true:=fun z hz=>by simpa using hlt z hz
   have hold':∀ z∈p,(fun b=>decide (b<W.heap.size)) z.block=true:=fun z hz=>hold z (by simpa using hz)
   have hrl:(Value.bool true).resultList fn.resultTypes.size=[.bool true]:=by rw [hres];rfl
   have hds:ds++[]=ds:=List.append_nil ds
   have hres1:∀ (b:Nat) (sp:Nat→Bool) (hd:Bool),DataW.TrodAll enc P W' b sp hd fn.resultTypes.toList ((Value.bool true).resultList fn.resultTypes.size) [.lit (.bool true)] []:=fun b sp hd=>by
    rw [hrl,hres];exact trodAll_cons_mk (shut_bool htb true) trodAll_mk0
   refine ⟨ds,[],p++[],[],p,[],hW',?_,?_,?_,?_,fun _=>⟨ok_one hres rfl (okWide_bool_mk htb true),[.lit (.bool true)]++ds,[],p++[],?_,fun z hz _=>hz⟩⟩
   · rw [hds,s1];exact hres1 _ _ _
   · rw [hds,s2];exact hk W' _ hkeep hold'
   · rw [hds,s3,hvars];rfl
   · exact zng hkeep hev.os hev.out _
   · refine ⟨[]++p,[],trodAll_append (hk W' _ hkeep fun _ _=>rfl) (hres1 _ _ _),by rw [hvars];rfl,rfl,fun b off hm=>?_,hnd⟩
     rw [zo9 hkeep (by simpa [MemPlace.block] using hlt _ hm)]
     exact hfz b off hm
 · rw [zbp hc] at h
   cases h
end Go.E2
