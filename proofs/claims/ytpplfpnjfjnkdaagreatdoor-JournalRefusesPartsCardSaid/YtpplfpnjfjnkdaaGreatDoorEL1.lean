/-
 What the arguments read as,and how a contract becomes the statement of a law.
 Conditions: none;definitions and laws.
-/
import Derived.Test.YtpplfpnjfjnkdaaGreatDoorEN6
import Derived.JoinedOf
import Derived.Handed
import Derived.ChangeSame
import Derived.ChangeArms
import Derived.OpenShut
import Derived.DataShut
import Derived.RowKit
import Derived.RowKit3
namespace Go.E2
open Go.ChangeShapes Go.WideShapes
def stb (w:World):Stb:=fun ad=>if ad.spot=none then w.cell? ad else none
def z5d (w w':World):Prop:=∀ b,b<w.heap.size→w'.heap[b]?=w.heap[b]?
def z6m (cs:List Value):Prop:=∀ (a:Addr) (l c:Nat),Value.slice (some a) l c∈cs→a.spot=none
def z2r (P:Program) (t:TypeId) (s:Bool) (R:D→Prop):Prop :=
 ∀ {H:Type} (enc:TypeId×Value→H) (w:World) (fuel:Nat) (cs:List Value) (x:DataW H×List MemPlace),(s=true→z6m cs)→DataW.trod enc P w 0 (fun _=>true) true fuel t cs=some x →
 ∃ d,R d∧ze cs.length d=true∧zac (stb w) d.cells cs∧∀ (w':World) (sp:Nat→Bool),z5d w w'→(∀ p∈x.2,sp p.block=true)→DataW.trod enc P w' 0 sp true fuel t cs=some x
theorem zrk {S:Stb} {d:D} {v:Value} (h:VRD S d v) (h1:d.one=true):zac S d.cells [v]:=by
 have e:d.cells=[d]:=by cases d<;>simp [D.one,D.cells] at h1 ⊢
 rw [e]
 refine ⟨rfl,fun j x u a b=>?_⟩
 cases j with
 | zero=>simp at a b;subst a;subst b;exact h
 | succ j=>simp at a
section
variable {P:Program} {t:TypeId}
theorem zuv {k:IntKind} (ht:P.underlying t=some (.int k)):z2r P t false fun d=>∃ n,(Lit.int k n).wf=true∧d=.int k n:=by
 intro H enc w fuel cs x _ h
 obtain ⟨n,rfl,rfl,hw⟩:=DataW.trod_int ht h
 refine ⟨.int k n,⟨n,hw,rfl⟩,rfl,zrk (.int k n) rfl,fun w' sp _ _=>?_⟩
 cases fuel with
 | zero=>simp [DataW.trod] at h
 | succ m=>simp [DataW.trod,ht,hw]
theorem zs9 (ht:P.underlying t=some .bool):z2r P t false fun d=>∃ b,d=.bool b:=by
 intro H enc w fuel cs x _ h
 obtain ⟨b,rfl,rfl⟩:=DataW.trod_bool ht h
 refine ⟨.bool b,⟨b,rfl⟩,rfl,zrk (.bool b) rfl,fun w' sp _ _=>?_⟩
 cases fuel with
 | zero=>simp [DataW.trod] at h
 | succ m=>simp [DataW.trod,ht]
def zn1:List (D→Prop)→List D→Prop
 | [],[]=>True
 | R::Rs,d::ds=>R d∧zn1 Rs ds
 | _,_=>False
end
end Go.E2
namespace Go.E2
open Go.ChangeShapes Go.WideShapes Go.RowKit
theorem zp3 {P:Program} {w:World} {r:Reach} {b:Nat} {u:TypeId} {a:Addr} {l c:Nat} (h:Cell.okWide P w r b u (.slice (some a) l c)):a.spot=none:=by
 unfold Cell.okWide Cell.ok at h
 generalize P.underlying u=d at h
 cases d with
 | none=>exact h.elim
 | some d =>
  cases d with
  | slice e=>exact h.2.2.2.1
  | _=>exact h.elim
def zlm (P:Program) (t:TypeId) (R:D→Prop):Prop :=
 ∀ {H:Type} (enc:TypeId×Value→H) (w:World) (r:Reach) (base:Nat) (v:Value) (d0:DataW H) (ps:List MemPlace),Value.okWide P w r base t v→DataW.Trod enc P w 0 (fun _=>true) true t v d0 ps →
   ∃ d,R d∧VRD (stb w) d v∧∀ (w':World) (sp:Nat→Bool),z5d w w'→(∀ p∈ps,sp p.block=true)→DataW.Trod enc P w' 0 sp true t v d0 ps
theorem zln {P:Program} {t:TypeId} {s:Bool} {R:D→Prop} (hn:∀ fs,P.underlying t≠some (.struct fs)) (hn2:∀ n e,P.underlying t≠some (.array n e)) (hcell:∀ v:Value,(∃ cs,v=.agg cs)→∀ (w:World) (r:Reach) (b:Nat),¬ Cell.okWide P w r b t v)
 (h:z2r P t s R) (hR:∀ d,R d→d.one=true):zlm P t R:=by
 intro H enc w r base v d0 ps hok ⟨fuel,htr⟩
 have hok':Cell.okWide P w r base t v:=by
  unfold Value.okWide at hok
  split at hok
  · rename_i fs e;exact absurd e (hn fs)
  · rename_i n e' e;exact absurd e (hn2 n e')
  · exact hok
 have hc:v.cells.toList=[v]:=by
  cases v with
  | agg cs=>exact absurd hok' (hcell _ ⟨cs,rfl⟩ w r base)
  | _=>rfl
 rw [hc] at htr
 obtain ⟨d,hRd,hso,hv,hk⟩:=h enc w fuel [v] _ (fun _ a l c hm=>by
  rw [List.mem_singleton] at hm
  subst hm
  exact zp3 hok') htr
 have h1:=hR d hRd
 have hd:d.cells=[d]:=by cases d<;>simp [D.one,D.cells] at h1 ⊢
 rw [hd] at hv
 refine ⟨d,hRd,hv.2 0 d v rfl rfl,fun w' sp hkk hp=>⟨fuel,?_⟩⟩
 rw [hc]
 exact hk w' sp hkk hp
theorem zta {P:Program} {t:TypeId} {k:IntKind} (ht:P.underlying t=some (.int k)):zlm P t fun d=>∃ n,(Lit.int k n).wf=true∧d=.int k n :=
 zln (fun fs e=>by rw [ht] at e;cases e) (fun n e' e=>by rw [ht] at e;cases e) (fun v ⟨cs,e⟩ w r b h=>by subst e;simp [Cell.okWide,Cell.ok,ht] at h) (zuv ht) fun d ⟨n,_,e⟩=>by subst e;rfl
theorem zp4 {P:Program} {t:TypeId} (ht:P.underlying t=some .bool):zlm P t fun d=>∃ b,d=.bool b :=
 zln (fun fs e=>by rw [ht] at e;cases e) (fun n e' e=>by rw [ht] at e;cases e) (fun v ⟨cs,e⟩ w r b h=>by subst e;simp [Cell.okWide,Cell.ok,ht] at h) (zs9 ht) fun d ⟨n,e⟩=>by subst e;rfl
theorem zh8 {R:D→Prop} {Rs:List (D→Prop)} {ds:List D} (h:zn1 (R::Rs) ds):∃ d ds',ds=d::ds'∧R d∧zn1 Rs ds':=by
 cases ds with
 | nil=>exact h.elim
 | cons d ds=>exact ⟨d,ds,rfl,h.1,h.2⟩
theorem zuw {ds:List D} (h:zn1 [] ds):ds=[]:=by
 cases ds with
 | nil=>rfl
 | cons d ds=>exact h.elim
def fieldsOf (P:Program) (t:TypeId):Array Field:=match P.underlying t with|some (.struct fs)=>fs|_=>#[]
def z96 (P:Program):List TypeId→List (D→Prop)→Prop
 | [],[]=>True
 | t::ts,R::Rs=>zlm P t R∧z96 P ts Rs
 | _,_=>False
theorem zn2 {P:Program} {H:Type} (enc:TypeId×Value→H) (w:World) (base:Nat):∀ (ts:List TypeId) (Rs:List (D→Prop)) (vs:List Value) (ds:List (DataW H)) (ps:List MemPlace),z96 P ts Rs →
 (∀ (j:Nat) t v,ts[j]?=some t→vs[j]?=some v→Value.okWide P w .any base t v)→DataW.TrodAll enc P w 0 (fun _=>true) true ts vs ds ps →
 ∃ xs:List D,zn1 Rs xs∧zac (stb w) xs vs∧∀ (w':World) (sp:Nat→Bool),z5d w w'→(∀ p∈ps,sp p.block=true)→DataW.TrodAll enc P w' 0 sp true ts vs ds ps
 | [],[],vs,ds,ps,_,_,h=>by
   obtain ⟨rfl,rfl,rfl⟩:=trodAll_nil h
   exact ⟨[],trivial,⟨rfl,fun j x v h=>by simp at h⟩,fun _ _ _ _=>trodAll_mk0⟩
 | t::ts,R::Rs,vs,ds,ps,hl,hval,h=>by
   obtain ⟨v,vs1,d,ds1,p,q,rfl,rfl,rfl,h1,h2⟩:=trodAll_cons h
   obtain ⟨x,hR,hv,hk⟩:=hl.1 enc w .any base v d p (hval 0 t v rfl rfl) h1
   obtain ⟨xs,hP,hvs,hks⟩:=zn2 enc w base ts Rs vs1 ds1 q hl.2 (fun j t' v' a b=>hval (j+1) t' v' (by simpa using a) (by simpa using b)) h2
   refine ⟨x::xs,⟨hR,hP⟩,⟨by simp [hvs.1],fun j y u a b=>?_⟩,fun w' sp hkk hp=>trodAll_cons_mk (hk w' sp hkk fun z hz=>hp z (List.mem_append_left _ hz)) (hks w' sp hkk fun z hz=>hp z (List.mem_append_right _ hz))⟩
   cases j with
   | zero=>simp at a b;subst a;subst b;exact hv
   | succ j=>exact hvs.2 j y u (by simpa using a) (by simpa using b)
 | [],_::_,_,_,_,hl,_,_=>hl.elim
 | _::_,[],_,_,_,hl,_,_=>hl.elim
theorem zn3 {w w':World} (hk:z5d w w') (ho:w'.os=w.os) (hp:w'.output=w.output) (may:MemPlace→Prop):w.keptBut w' may:=by
 refine ⟨ho,hp,fun i hi=>?_⟩
 rw [hk i hi]
 generalize w.heap[i]?=o
 cases o with
 | none=>rfl
 | some x =>
  cases x with
  | cells c t fr=>exact ⟨rfl,rfl,rfl,fun _ _=>rfl⟩
  | map es clock=>exact .inr ⟨rfl,rfl⟩
  | _=>rfl
theorem zjz {P:Program} {H:Type} {enc:TypeId×Value→H} {w:World} {base:Nat} {spare:Nat→Bool} {held:Bool}:∀ {ts:List TypeId} {vs:List Value} {ds:List (DataW H)} {ps:List MemPlace},DataW.TrodAll enc P w base spare held ts vs ds ps→ds.length=ts.length
 | [],vs,ds,ps,h=>by obtain ⟨rfl,rfl,rfl⟩:=trodAll_nil h;rfl
 | t::ts,vs,ds,ps,h=>by
   obtain ⟨v,vs1,d,ds1,p,q,rfl,rfl,rfl,h1,h2⟩:=trodAll_cons h
   simp [zjz h2]
theorem z2s (w:World) (hT:zou (stb w)):zc7 (stb w) [] [] noGh w:=by
 refine ⟨fun ad v hs=>?_,rfl,fun ⟨x,m,h1,_⟩=>by simp at h1,fun ⟨x,m,h1,_⟩=>by simp at h1,fun ⟨x,m,h1,_⟩=>by simp at h1,fun h=>(by cases h),fun h=>(by cases h),fun h=>(by cases h),zl7.none,hT⟩
 simp only [stb] at hs
 split at hs
 · exact hs
 · cases hs
theorem zp5 {w w':World} (hk:z5d w w') {a:Addr} (ha:a.block<w.heap.size):w'.frozen? a=w.frozen? a:=by
 unfold World.frozen?;rw [hk _ ha]
theorem zn4 {P:Program} {f:FuncId} {fn:Func} {s:ChangeSpec} {apart fresh handsOn again:Bool} {Rs:List (D→Prop)} {tb:TypeId} (hc:zhf P f) (hvars:s.vars=[]) (hlay:z96 P fn.params.toList Rs) (hres:fn.resultTypes=#[tb]) (htb:P.underlying tb=some .bool)
 (hs:∀ (H:Type) (ds:List (DataW H)),ds.length=fn.params.size→(s.fn H ds).results=[.lit (.bool true)]∧(s.fn H ds).args=ds∧(s.fn H ds).vars=[])
 (hcall:∀ xs,zn1 Rs xs→zw P f xs (·=.d (.bool true)))
 {H:Type} {enc:TypeId×Value→H} {W:World} {base:Nat} {args:Array Value} {ds gs:List (DataW H)} {before:List MemPlace}
 (hval:∀ (j:Nat) t v,fn.params[j]?=some t→args[j]?=some v→Value.okWide P W .any base t v)
 (hW:DataW.Whole enc P fn.params.toList s.vars apart W args.toList ds gs before) (hT:zou (stb W):=by intro _ _ e;cases e) :
 Calls P f args W fun e W'=>∃ v,e=.returned v∧s.post enc P fn apart fresh handsOn again W args v W':=by
 have hW':=hW
 obtain ⟨p,q,hA,hV,rfl,hfz,hnd⟩:=hW
 have hlt:=hW'.lt
 have hV0:=hV
 rw [hvars] at hV0
 obtain ⟨rfl,rfl⟩:=trodVars_none hV0
 obtain ⟨xs,hP,hxs,hk⟩:=zn2 enc W base _ Rs _ ds p hlay (fun j t v a b=>hval j t v (by simpa using a) (by simpa using b)) hA
 have hdl:ds.length=fn.params.size:=by rw [zjz hA];simp
 obtain ⟨s1,s2,s3⟩:=hs H ds hdl
 have hC:=hcall xs hP (stb W) [] W args (fun _=>0) (by rw [yk3Q,← hxs.1];simp) (z2s W hT) (fun i=>by
  rcases zvf (xs:=xs) (i:=i) with e|⟨x,hx,e⟩
  · rw [e];trivial
  · rw [e]
    have hi:i<args.size:=by have:=(List.getElem?_eq_some_iff.1 hx).1;rw [← hxs.1] at this;simpa using this
    have hv:=hxs.2 i x args[i] hx (by simp [hi])
    have e2:args.getD i undef=args[i]:=by simp [Array.getD,hi]
    rw [e2];exact hv) zgt
 rcases hC with ⟨_,h⟩|⟨v,w',h,_⟩
 · refine h.mono fun e W' ⟨v,he,S',r,σ',G',⟨h1,h2,hr⟩,_,hev,_,hret,_⟩=>⟨v,he,?_⟩
   subst hr
   have hvb:v=.bool true:=by
    have hret':VRD S' (.bool true) v:=hret
    cases hret';rfl
   subst hvb
   have hkeep:z5d W W':=(Evo.all (O:=fun _=>False) hev).2
   have hold:∀ z∈p++[],(fun b=>decide (b<W.heap.size)) z.block=true:=fun z hz=>by simpa using hlt z hz
   have hold':∀ z∈p,(fun b=>decide (b<W.heap.size)) z.block=true:=fun z hz=>hold z (by simpa using hz)
   have hrl:(Value.bool true).resultList fn.resultTypes.size=[.bool true]:=by rw [hres];rfl
   have hds:ds++[]=ds:=ylvQ ds
   have hres1:∀ (b:Nat) (sp:Nat→Bool) (hd:Bool),DataW.TrodAll enc P W' b sp hd fn.resultTypes.toList ((Value.bool true).resultList fn.resultTypes.size) [.lit (.bool true)] []:=fun b sp hd=>by
    rw [hrl,hres];exact trodAll_cons_mk (shut_bool htb true) trodAll_mk0
   refine ⟨ds,[],p++[],[],p,[],hW',?_,?_,?_,?_,fun _=>⟨ok_one hres rfl (okWide_bool_mk htb true),[.lit (.bool true)]++ds,[],p++[],?_,fun z hz _=>hz⟩⟩
   · rw [hds,s1];exact hres1 _ _ _
   · rw [hds,s2];exact hk W' _ hkeep hold'
   · rw [hds,s3,hvars];rfl
   · exact zn3 hkeep hev.os hev.out _
   · refine ⟨[]++p,[],trodAll_append (hk W' _ hkeep fun _ _=>rfl) (hres1 _ _ _),by rw [hvars];rfl,rfl,fun b off hm=>?_,hnd⟩
     rw [zp5 hkeep (by simpa [MemPlace.block] using hlt _ hm)]
     exact hfz b off hm
 · rw [zc5 hc] at h
   cases h
