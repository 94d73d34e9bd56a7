/-
 When a value of the machine reads as a datum of the evaluator,and what the evaluator's state says of the machine's.
 Conditions: none;definitions and first laws.
-/
import Derived.Test.YtlejjdbmmdghmaaETb
import Derived.WalkKit
namespace Go.E2
abbrev Stb:=Addr→Option Value
inductive VRD (S:Stb):D→Value→Prop
 | bool (b:Bool):VRD S (.bool b) (.bool b)
 | int (k:IntKind) (n:Int):VRD S (.int k n) (.int k n)
 | str (s:ByteArray) (l:List UInt8) (h:s.data.toList=l):VRD S (.str l) (.string s)
 | agg (cs:List D) (vs:Array Value) (hl:vs.size=cs.length) (ho:cs.all D.one=true)
    (h:∀ (j:Nat) (x:D) (v:Value),cs[j]?=some x→vs[j]?=some v→VRD S x v):VRD S (.agg cs) (.agg vs)
 | nilL:VRD S (.list []) (.slice none 0 0)
 | list (sz:Nat) (es:List D) (a:Addr) (cap:Nat) (c:List Value) (hsp:0<cap→a.spot=none) (hcap:es.length≤cap) (hsz:es.all (zb sz)=true)
    (hl:c.length=(zag es).length) (hS:∀ (j:Nat) (v:Value),c[j]?=some v→S ⟨a.block,a.off+j,none⟩=some v)
    (h:∀ (j:Nat) (x:D) (v:Value),(zag es)[j]?=some x→c[j]?=some v→VRD S x v):VRD S (.list es) (.slice (some a) es.length cap)
 | nilS:VRD S .nilS (.slice none 0 0)
 | nilP:VRD S .nilP (.pointer none)
 | nilF:VRD S .nilF .nilFunc
 | fn (f:FuncId):VRD S (.fn f) (.func (.func f) #[] #[])
 | gs (b off len cap:Nat) (h:len≤cap):VRD S (.gs b off len cap) (.slice (some ⟨b,off,none⟩) len cap)
 | gp (b off:Nat):VRD S (.gp b off) (.pointer (some ⟨b,off,none⟩))
 | clo (f:FuncId) (ds:List D) (cv:Array Value) (hl:cv.size=ds.length) (ho:ds.all D.one=true)
    (h:∀ (j:Nat) (x:D) (v:Value),ds[j]?=some x→cv[j]?=some v→VRD S x v):VRD S (.clo f ds) (.func (.func f) #[] cv)
 | bnd (f:FuncId) (ds:List D) (cv:Array Value) (hl:cv.size=ds.length) (ho:ds.all D.one=true)
    (h:∀ (j:Nat) (x:D) (v:Value),ds[j]?=some x→cv[j]?=some v→VRD S x v):VRD S (.bnd f ds) (.func (.func f) cv #[])
 | mref (r:Nat):VRD S (.mref r) (.map (some r))
 | nilM:VRD S .nilM (.map none)
 | yld (l:Nat):VRD S (.yld l) (.func (.yield l) #[] #[])
 | ifc (t b off:Nat):VRD S (.ifc t b off) (.iface t (.pointer (some ⟨b,off,none⟩)))
 | nilI:VRD S .nilI .nilIface
def zz (S:Stb) (xs:List D) (vs:List Value):Prop :=
 vs.length=xs.length∧∀ (j:Nat) (x:D) (v:Value),xs[j]?=some x→vs[j]?=some v→VRD S x v
def Sub (S S':Stb):Prop:=∀ a v,S a=some v→S' a=some v
theorem Sub.refl (S:Stb):Sub S S:=fun _ _ h=>h
theorem Sub.trans {S S' S'':Stb} (h:Sub S S') (h':Sub S' S''):Sub S S'':=fun _ _ x=>h' _ _ (h _ _ x)
theorem VRD.mono {S S':Stb} (hs:Sub S S') {x:D} {v:Value} (h:VRD S x v):VRD S' x v:=by
 induction h with
 | bool b=>exact .bool b
 | int k n=>exact .int k n
 | str s l h=>exact .str s l h
 | agg cs vs hl ho _ ih=>exact .agg cs vs hl ho ih
 | nilL=>exact .nilL
 | list sz es a cap c hsp hcap hsz hl hS _ ih=>exact .list sz es a cap c hsp hcap hsz hl (fun j v h=>hs _ _ (hS j v h)) ih
 | nilS=>exact .nilS
 | nilP=>exact .nilP
 | nilF=>exact .nilF
 | fn f=>exact .fn f
 | gs b off len cap h=>exact .gs b off len cap h
 | gp b off=>exact .gp b off
 | clo f ds cv hl ho _ ih=>exact .clo f ds cv hl ho ih
 | bnd f ds cv hl ho _ ih=>exact .bnd f ds cv hl ho ih
 | mref r=>exact .mref r
 | nilM=>exact .nilM
 | yld l=>exact .yld l
 | ifc t b off=>exact .ifc t b off
 | nilI=>exact .nilI
theorem zz.mono {S S':Stb} (hs:Sub S S') {xs:List D} {vs:List Value} (h:zz S xs vs):zz S' xs vs :=
 ⟨h.1,fun j x v a b=>(h.2 j x v a b).mono hs⟩
theorem zz.nil {S:Stb}:zz S [] []:=⟨rfl,fun j x v h=>by simp at h⟩
theorem zz.cons {S:Stb} {x:D} {v:Value} {xs:List D} {vs:List Value} (h:VRD S x v) (hs:zz S xs vs):zz S (x::xs) (v::vs):=by
 refine ⟨by simp [hs.1],fun j y u a b=>?_⟩
 cases j with
 | zero=>simp at a b;subst a;subst b;exact h
 | succ j=>exact hs.2 j y u (by simpa using a) (by simpa using b)
theorem zz.nil_inv {S:Stb} {vs:List Value} (h:zz S [] vs):vs=[]:=List.eq_nil_of_length_eq_zero (by simpa using h.1)
theorem zz.cons_inv {S:Stb} {x:D} {xs:List D} {vs:List Value} (h:zz S (x::xs) vs):∃ v vs',vs=v::vs'∧VRD S x v∧zz S xs vs':=by
 cases vs with
 | nil=>have:=h.1;simp at this
 | cons v vs' =>
  refine ⟨v,vs',rfl,h.2 0 x v rfl rfl,by have:=h.1;simpa using this,fun j y u a b=>h.2 (j+1) y u (by simpa using a) (by simpa using b)⟩
theorem zz.append {S:Stb} {xs ys:List D} {vs us:List Value} (h:zz S xs vs) (h':zz S ys us):zz S (xs++ys) (vs++us):=by
 refine ⟨by simp [h.1,h'.1],fun j x v a b=>?_⟩
 rcases Nat.lt_or_ge j xs.length with hj|hj
 · rw [List.getElem?_append_left hj] at a
   rw [List.getElem?_append_left (by rw [h.1];exact hj)] at b
   exact h.2 j x v a b
 · rw [List.getElem?_append_right hj] at a
   rw [List.getElem?_append_right (by rw [h.1];exact hj),h.1] at b
   exact h'.2 _ x v a b
theorem zz.take {S:Stb} {xs:List D} {vs:List Value} (h:zz S xs vs) (n:Nat):zz S (xs.take n) (vs.take n):=by
 refine ⟨by simp [h.1],fun j x v a b=>?_⟩
 rw [List.getElem?_take] at a b
 split at a
 · rename_i hj;rw [if_pos hj] at b;exact h.2 j x v a b
 · cases a
theorem zz.drop {S:Stb} {xs:List D} {vs:List Value} (h:zz S xs vs) (n:Nat):zz S (xs.drop n) (vs.drop n):=by
 refine ⟨by simp [h.1],fun j x v a b=>?_⟩
 rw [List.getElem?_drop] at a b
 exact h.2 _ x v a b
theorem VRD.agg_inv {S:Stb} {cs:List D} {v:Value} (h:VRD S (.agg cs) v):∃ vs:Array Value,v=.agg vs∧zz S cs vs.toList∧cs.all D.one=true:=by
 cases h with
 | agg _ vs hl ho h=>exact ⟨vs,rfl,⟨by simpa using hl,fun j x v a b=>h j x v a (by simpa using b)⟩,ho⟩
theorem VRD.agg_mk {S:Stb} {cs:List D} {vs:List Value} (h:zz S cs vs) (ho:cs.all D.one=true):VRD S (.agg cs) (.agg vs.toArray) :=
 .agg cs _ (by simpa using h.1) ho (fun j x v a b=>h.2 j x v a (by simpa using b))
theorem VRD.clo_inv {S:Stb} {f:FuncId} {ds:List D} {v:Value} (h:VRD S (.clo f ds) v):∃ cv:Array Value,v=.func (.func f) #[] cv∧zz S ds cv.toList∧ds.all D.one=true:=by
 cases h with
 | clo _ _ cv hl ho h=>exact ⟨cv,rfl,⟨by simpa using hl,fun j x v a b=>h j x v a (by simpa using b)⟩,ho⟩
theorem VRD.bnd_inv {S:Stb} {f:FuncId} {ds:List D} {v:Value} (h:VRD S (.bnd f ds) v):∃ cv:Array Value,v=.func (.func f) cv #[]∧zz S ds cv.toList∧ds.all D.one=true:=by
 cases h with
 | bnd _ _ cv hl ho h=>exact ⟨cv,rfl,⟨by simpa using hl,fun j x v a b=>h j x v a (by simpa using b)⟩,ho⟩
theorem VRD.list_inv {S:Stb} {es:List D} {v:Value} (h:VRD S (.list es) v) :
 (es=[]∧v=.slice none 0 0)∨∃ (a:Addr) (cap:Nat) (c:List Value),v=.slice (some a) es.length cap∧(0<cap→a.spot=none)∧es.length≤cap∧(∃ sz,es.all (zb sz)=true)∧zz S (zag es) c ∧
   (∀ (j:Nat) (v:Value),c[j]?=some v→S ⟨a.block,a.off+j,none⟩=some v):=by
 cases h with
 | nilL=>exact .inl ⟨rfl,rfl⟩
 | list sz _ a cap c hsp hcap hsz hl hS h=>exact .inr ⟨a,cap,c,rfl,hsp,hcap,⟨sz,hsz⟩,⟨hl,h⟩,hS⟩
theorem VRD.list_inv' {S:Stb} {es:List D} {v:Value} (h:VRD S (.list es) v) :
 ∃ (a:Option Addr) (cap:Nat) (c:List Value),v=.slice a es.length cap∧(∀ x,a=some x→0<cap→x.spot=none)∧(a=none→es=[]∧cap=0)∧es.length≤cap∧zz S (zag es) c ∧
   (∀ x,a=some x→∀ (j:Nat) (v:Value),c[j]?=some v→S ⟨x.block,x.off+j,none⟩=some v):=by
 rcases h.list_inv with ⟨rfl,rfl⟩|⟨a,cap,c,rfl,hsp,hcap,_,hs,hS⟩
 · exact ⟨none,0,[],rfl,fun _ e=>(by cases e),fun _=>⟨rfl,rfl⟩,Nat.le_refl _,zz.nil,fun _ e=>(by cases e)⟩
 · exact ⟨some a,cap,c,rfl,fun _ e=>(by cases e;exact hsp),fun e=>(by cases e),hcap,hs,fun _ e=>(by cases e;exact hS)⟩
theorem VRD.list_mk {S:Stb} {sz:Nat} {es:List D} {a:Addr} {cap:Nat} {c:List Value} (hsp:a.spot=none) (hcap:es.length≤cap) (hsz:es.all (zb sz)=true)
 (h:zz S (zag es) c) (hS:∀ (j:Nat) (v:Value),c[j]?=some v→S ⟨a.block,a.off+j,none⟩=some v):VRD S (.list es) (.slice (some a) es.length cap) :=
 .list sz es a cap c (fun _=>hsp) hcap hsz h.1 hS h.2
theorem VRD.list_mk' {S:Stb} {sz:Nat} {es:List D} {a:Addr} {cap:Nat} {c:List Value} (hsp:0<cap→a.spot=none) (hcap:es.length≤cap) (hsz:es.all (zb sz)=true)
 (h:zz S (zag es) c) (hS:∀ (j:Nat) (v:Value),c[j]?=some v→S ⟨a.block,a.off+j,none⟩=some v):VRD S (.list es) (.slice (some a) es.length cap) :=
 .list sz es a cap c hsp hcap hsz h.1 hS h.2
theorem VRD.empty {S:Stb} {v:Value} {a:Option Addr} (h:v=.slice a 0 0):VRD S (.list []) v:=by
 subst h
 cases a with
 | none=>exact .nilL
 | some a=>exact VRD.list_mk' (sz:=0) (es:=[]) (c:=[]) (fun h=>absurd h (Nat.lt_irrefl _)) (Nat.le_refl _) rfl zz.nil (fun j v hj=>by simp at hj)
theorem VRD.one' {S:Stb} {x:D} {v:Value} (h:VRD S x v) (ho:x.one=true):v.oneCell'=true:=by
 cases h<;>first|rfl|cases ho
theorem D.cells_one {x:D} (h:x.one=true):x.cells=[x]:=by cases x<;>first|rfl|cases h
theorem VRD.cells_one' {S:Stb} {x:D} {v:Value} (h:VRD S x v) (ho:x.one=true):v.cells=#[v]:=by
 cases h<;>first|rfl|cases ho
theorem VRD.cells {S:Stb} {x:D} {v:Value} (h:VRD S x v):zz S x.cells v.cells.toList∧x.cells.all D.one=true:=by
 cases x with
 | agg cs =>
  obtain ⟨vs,rfl,hs,ho⟩:=h.agg_inv
  exact ⟨hs,ho⟩
 | _ =>
  refine ⟨?_,rfl⟩
  rw [h.cells_one' rfl]
  exact zz.cons h zz.nil
theorem zz.one {S:Stb} {xs:List D} {vs:List Value} (h:zz S xs vs) (ho:xs.all D.one=true):∀ v∈vs,v.oneCell'=true:=by
 intro v hv
 obtain ⟨j,hj⟩:=List.getElem?_of_mem hv
 have hlt:j<xs.length:=by rw [← h.1];exact (List.getElem?_eq_some_iff.1 hj).1
 exact (h.2 j _ v (List.getElem?_eq_getElem hlt) hj).one' (by simpa using List.all_eq_true.1 ho _ (List.getElem_mem hlt))
theorem zo5 {S:Stb} {v:Value} {x:D} (h:ofV v=some x):VRD S x v:=by
 unfold ofV at h
 split at h<;>simp at h<;>subst h
 · exact .bool _
 · exact .int _ _
 · exact .str _ _ rfl
 · exact .nilS
 · exact .nilP
 · exact .nilF
 · exact .nilM
 · exact .nilI
theorem zz1 {v:Value} {x:D} (h:ofV v=some x):x.one=true:=by
 unfold ofV at h
 split at h<;>simp at h<;>subst h<;>rfl
theorem zje {S:Stb}:∀ {vs:List Value} {xs:List D},z25 vs=some xs→zz S xs vs∧xs.all D.one=true
 | [],xs,h=>by simp [z25] at h;subst h;exact ⟨zz.nil,rfl⟩
 | v::vs,xs,h=>by
   simp only [z25] at h
   split at h
   · rename_i y ys hy hys
     simp at h
     subst h
     have ih:=zje (S:=S) hys
     exact ⟨zz.cons (zo5 hy) ih.1,by simp [zz1 hy];simpa using ih.2⟩
   · cases h
theorem zdj (a b:List D):zag (a++b)=zag a++zag b:=by simp [zag]
theorem zw4:zag []=[]:=rfl
theorem z7 (x:D) (l:List D):zag (x::l)=x.cells++zag l:=by simp [zag]
theorem zw {sz:Nat}:∀ {es:List D},es.all (zb sz)=true→(zag es).length=es.length * sz
 | [],_=>by simp [zag]
 | x::es,h=>by
   simp only [List.all_cons,Bool.and_eq_true] at h
   have hx:x.cells.length=sz:=by have:=h.1;simp [zb] at this;exact this.1
   rw [z7,List.length_append,hx,zw h.2,List.length_cons,Nat.add_mul,Nat.one_mul,Nat.add_comm]
theorem zfn {sz:Nat}:∀ {es:List D},es.all (zb sz)=true→(zag es).all D.one=true
 | [],_=>rfl
 | x::es,h=>by
   simp only [List.all_cons,Bool.and_eq_true] at h
   have hx:x.cells.all D.one=true:=by have:=h.1;simp [zb] at this;simpa using this.2
   rw [z7,List.all_append,hx,zfn h.2];rfl
theorem znc {sz:Nat}:∀ {es:List D} (n:Nat),es.all (zb sz)=true→zag (es.take n)=(zag es).take (n * sz)
 | [],n,_=>by simp [zag]
 | x::es,0,_=>by simp [zag]
 | x::es,n+1,h=>by
   simp only [List.all_cons,Bool.and_eq_true] at h
   have hx:x.cells.length=sz:=by have:=h.1;simp [zb] at this;exact this.1
   rw [List.take_succ_cons,z7,z7,znc n h.2,Nat.add_mul,Nat.one_mul,Nat.add_comm,List.take_append,hx]
   rw [List.take_of_length_le (by omega:x.cells.length≤sz+n * sz)]
   congr 2
   omega
theorem zjf {sz:Nat}:∀ {es:List D} (n:Nat),es.all (zb sz)=true→zag (es.drop n)=(zag es).drop (n * sz)
 | [],n,_=>by simp [zag]
 | x::es,0,_=>by simp
 | x::es,n+1,h=>by
   simp only [List.all_cons,Bool.and_eq_true] at h
   have hx:x.cells.length=sz:=by have:=h.1;simp [zb] at this;exact this.1
   rw [List.drop_succ_cons,z7,zjf n h.2,Nat.add_mul,Nat.one_mul,Nat.add_comm,List.drop_append,hx]
   rw [List.drop_eq_nil_of_le (by omega:x.cells.length≤sz+n * sz),List.nil_append]
   congr 1
   omega
theorem zqj {sz:Nat} {es:List D} {n:Nat} {e:D} (h:es.all (zb sz)=true) (he:es[n]?=some e):e.cells=((zag es).drop (n * sz)).take sz:=by
 rw [← zjf n h]
 obtain ⟨hn,rfl⟩:=List.getElem?_eq_some_iff.1 he
 rw [List.drop_eq_getElem_cons hn,z7]
 have hx:(es[n]).cells.length=sz:=by
  have:=List.all_eq_true.1 h _ (List.getElem_mem hn);simp [zb] at this;exact this.1
 rw [List.take_append,hx,Nat.sub_self,List.take_zero,List.append_nil,List.take_of_length_le (by omega)]
end Go.E2
