/-
 Operations that only yield a value: what the evaluator yields,the machine yields.
 Conditions: none;laws.
-/
import Derived.Test.YtlejjdbmmdghmaaEApp
import Derived.ChangeKeysEq
namespace Go.E2
section
variable {P:Program} {S:Stb} {ms:List (Nat→Nat)} {lv:List Hp} {ρ:Env} {a:Act} {w:World}
theorem za (ht:zfc S lv ms ρ a) {o:Operand} {x:AO} (h:cO o=some x):VR S lv ms (ev ρ x) (a.eval o):=by
 cases o with
 | tmp t=>simp [cO] at h;subst h;exact ht.2 t
 | const v=>simp [cO] at h;obtain ⟨d,hd,rfl⟩:=h;exact zo5 hd
 | global g =>
  simp only [cO] at h
  split at h
  · cases h
    simp only [ev]
    cases hg:z72 g with
    | none=>trivial
    | some cs =>
     obtain ⟨c,h1,h2,h3⟩:=ht.1 g cs hg
     exact ⟨⟨g,0,none⟩,c,rfl,rfl,h1,h2,fun j u hj=>by simpa using h3 j u hj⟩
  · cases h
 | func f=>simp [cO] at h;subst h;exact VRD.fn f
theorem VRD.int_inv {k:IntKind} {n:Int} {v:Value} (h:VRD S (.int k n) v):v=.int k n:=by cases h;rfl
theorem VRD.bool_inv {b:Bool} {v:Value} (h:VRD S (.bool b) v):v=.bool b:=by cases h;rfl
theorem VRD.str_inv {l:List UInt8} {v:Value} (h:VRD S (.str l) v):∃ s:ByteArray,v=.string s∧s.data.toList=l:=by cases h with|str s l h=>exact ⟨s,rfl,h⟩
theorem zd7 {t:TypeId} {g:Bool} {n:Nat} {b o:Nat} {cs:List D} {c:List Value} {x:D} (ha:zgu P t=some g) (hn:tsz P t=some n) (hgn:(g || n == 1)=true)
 (hc:zz S cs c) (ho:cs.all D.one=true) (hcell:∀ (j:Nat) (u:Value),c[j]?=some u→w.cell? ⟨b,o+j,none⟩=some u) (hx:zcj g n cs=some x) :
 ∃ v,(loadVar t ⟨b,o,none⟩).run P w=.ok v w∧VRD S x v:=by
 unfold zgu at ha
 unfold tsz at hn
 cases hu:P.underlying t with
 | none=>simp [hu] at ha
 | some d =>
  simp [hu] at ha
  cases hi:P.info? t with
  | none=>simp [hi] at hn
  | some i =>
   simp [hi] at hn
   cases g with
   | true =>
    simp only [zcj,if_true] at hx
    split at hx
    · rename_i hle
      cases hx
      have hl:=run_loadCells_list (P:=P) w ⟨b,o,none⟩ (c.take n) (fun j u hj=>by
       rw [zao]
       rw [List.getElem?_take] at hj
       split at hj
       · exact hcell j u hj
       · cases hj)
      have hlen:(c.take n).length=n:=by rw [List.length_take,hc.1];omega
      rw [hlen] at hl
      refine ⟨.agg (c.take n).toArray,?_,VRD.agg_mk (hc.take n) ?_⟩
      · have hag:(isAgg t).run P w=.ok true w:=by
         unfold isAgg
         simp only [Sem.run_bind,run_underlying hu,Result.andThen_ok]
         cases d<;>simp [zky] at ha<;>rfl
        simp only [loadVar,Sem.run_bind,hag,Result.andThen_ok,if_true,sizeOf,typeInfo,run_program,hi,Sem.run_pure,hn,hl]
      · rw [List.all_eq_true] at ho ⊢
        exact fun y hy=>ho y (List.mem_of_mem_take hy)
    · cases hx
   | false =>
    simp only [zcj] at hx
    have hx':cs.head?=some x:=by simpa using hx
    have h0:cs[0]?=some x:=by rw [← List.head?_eq_getElem?];exact hx'
    obtain ⟨v,hv,hr⟩:=hc.get h0
    refine ⟨v,?_,hr⟩
    have hag:(isAgg t).run P w=.ok false w:=by
     unfold isAgg
     simp only [Sem.run_bind,run_underlying hu,Result.andThen_ok]
     cases d<;>simp [zky] at ha<;>rfl
    have hc0:=hcell 0 v hv
    simp only [Nat.add_zero] at hc0
    simp [loadVar,hag,run_load,hc0]
theorem zuv {t:TypeId} {g:Bool} {n off:Nat} {cs:List D} {vs:Array Value} {x:D} (ha:zgu P t=some g) (hn:tsz P t=some n)
 (hc:zz S cs vs.toList) (ho:cs.all D.one=true) (hx:zcj g n (cs.drop off)=some x) :
 ∃ v,(part t vs off).run P w=.ok v w∧VRD S x v:=by
 unfold zgu at ha
 unfold tsz at hn
 cases hu:P.underlying t with
 | none=>simp [hu] at ha
 | some d =>
  simp [hu] at ha
  cases hi:P.info? t with
  | none=>simp [hi] at hn
  | some i =>
   simp [hi] at hn
   cases g with
   | true =>
    simp only [zcj,if_true] at hx
    split at hx
    · rename_i hle
      cases hx
      have hag:(isAgg t).run P w=.ok true w:=by
       unfold isAgg
       simp only [Sem.run_bind,run_underlying hu,Result.andThen_ok]
       cases d<;>simp [zky] at ha<;>rfl
      refine ⟨.agg (vs.extract off (off+n)),?_,?_⟩
      · simp only [part,Sem.run_bind,hag,Result.andThen_ok,if_true,sizeOf,typeInfo,run_program,hi,Sem.run_pure,hn]
      · have e:vs.extract off (off+n)=((vs.toList.drop off).take n).toArray:=by
         apply Array.ext'
         simp [List.extract_eq_take_drop]
        rw [e]
        refine VRD.agg_mk ((hc.drop off).take n) ?_
        rw [List.all_eq_true] at ho ⊢
        exact fun y hy=>ho y (List.mem_of_mem_drop (List.mem_of_mem_take hy))
    · cases hx
   | false =>
    have hag:(isAgg t).run P w=.ok false w:=by
     unfold isAgg
     simp only [Sem.run_bind,run_underlying hu,Result.andThen_ok]
     cases d<;>simp [zky] at ha<;>rfl
    simp only [zcj] at hx
    have hx':(cs.drop off).head?=some x:=by simpa using hx
    have h0:cs[off]?=some x:=by rw [List.head?_eq_getElem?,List.getElem?_drop,Nat.add_zero] at hx';exact hx'
    obtain ⟨v,hv,hr⟩:=hc.get h0
    refine ⟨v,?_,hr⟩
    have hv':vs[off]?=some v:=by simpa using hv
    simp [part,hag,hv']
theorem zj1 {ms:List (Nat→Nat)} {lv:List Hp} {G:Gh} (h:zcw S ms lv G w) {k s g off:Nat} {v:Value} (hp:zep lv ms k s g off v) {cs:List D} (hb:blk lv k s g=some cs) :
 ∃ b,v=.pointer (some ⟨b,off,none⟩)∧zds lv ms k s b cs∧∃ c e,w.heap[b]?=some (.cells c e (0,0))∧zz S cs c.toList∧cs.all D.one=true:=by
 obtain ⟨x,m,b,h1,h2,h3,h4,h5⟩:=hp
 unfold blk at hb
 rw [h1] at hb
 simp only at hb
 split at hb
 · rename_i hg
   have hbm:b=m s:=h5 (by rw [hb];simp) hg.symm
   have hl:zds lv ms k s b cs:=⟨x,m,h1,h2,hb,hbm.symm⟩
   exact ⟨b,h3,hl,h.box hl⟩
 · cases hb
theorem zc8 {b off:Nat} {c:Array Value} {e:TypeId} (hb:w.heap[b]?=some (.cells c e (0,0))) (j:Nat) (u:Value) (hu:(c.toList.drop off)[j]?=some u):w.cell? ⟨b,off+j,none⟩=some u:=by
 rw [List.getElem?_drop] at hu
 simp only [World.cell?,hb]
 simpa using hu
end
end Go.E2
namespace Go.E2
section
variable {P:Program} {S:Stb} {w:World}
theorem zpn (op:BinOp) (t:TypeId) (x y:Operand) (k k':IntKind) (m n:Int):(eqGuard op t x y (.int k m) (.int k' n)).run P w=.ok () w:=by
 cases op<;>simp [eqGuard]
theorem zpo (op:BinOp) (t:TypeId) (x y:Operand) (m n:ByteArray):(eqGuard op t x y (.string m) (.string n)).run P w=.ok () w:=by
 cases op<;>simp [eqGuard]
theorem zim (op:BinOp) (t:TypeId) (x y:Operand) (m n:Bool):(eqGuard op t x y (.bool m) (.bool n)).run P w=.ok () w:=by
 cases op<;>simp [eqGuard]
theorem zsu {op:BinOp} {t:TypeId} {k k':IntKind} {m n:Int} {r:D} (h:zb6 op (.int k m) (.int k' n)=some r) :
 ∃ v,(binOp op t (.int k m) (.int k' n)).run P w=.ok v w∧VRD S r v:=by
 by_cases hs:op=.shl∨op=.shr
 · rcases hs with rfl|rfl
   · simp only [zb6] at h
     split at h
     · cases h
     · rename_i hn
       cases h
       exact ⟨_,by simp [binOp,Op.shift,hn],.int _ _⟩
   · simp only [zb6] at h
     split at h
     · cases h
     · rename_i hn
       cases h
       exact ⟨_,by simp [binOp,Op.shift,hn],.int _ _⟩
 · have hk:k=k':=by
    cases op<;>simp [zb6] at h hs<;>first|exact h.1|exact h.1.1
   subst hk
   cases op<;>simp [zb6] at h hs
   case quo=>obtain ⟨hn,rfl⟩:=h;exact ⟨_,by simp [binOp,Op.intDiv,hn],.int _ _⟩
   case rem=>obtain ⟨hn,rfl⟩:=h;exact ⟨_,by simp [binOp,Op.intDiv,hn],.int _ _⟩
   all_goals subst h
   case add=>exact ⟨_,by simp [binOp,Op.intArith],.int _ _⟩
   case sub=>exact ⟨_,by simp [binOp,Op.intArith],.int _ _⟩
   case mul=>exact ⟨_,by simp [binOp,Op.intArith],.int _ _⟩
   case and=>exact ⟨_,by simp only [binOp,Op.intBits];simp,.int _ _⟩
   case or=>exact ⟨_,by simp only [binOp,Op.intBits];simp,.int _ _⟩
   case xor=>exact ⟨_,by simp only [binOp,Op.intBits];simp,.int _ _⟩
   case andNot=>exact ⟨_,by simp only [binOp,Op.intBits];simp,.int _ _⟩
   case eql=>exact ⟨_,by simp [binOp,Op.intCmp],.bool _⟩
   case neq=>exact ⟨_,by simp [binOp,Op.intCmp],.bool _⟩
   case lss=>exact ⟨_,by simp [binOp,Op.intCmp],.bool _⟩
   case leq=>exact ⟨_,by simp [binOp,Op.intCmp],.bool _⟩
   case gtr=>exact ⟨_,by simp [binOp,Op.intCmp],.bool _⟩
   case geq=>exact ⟨_,by simp [binOp,Op.intCmp],.bool _⟩
theorem zsv {op:BinOp} {t:TypeId} {x y:ByteArray} {r:D} (h:zb6 op (.str x.data.toList) (.str y.data.toList)=some r) :
 ∃ v,(binOp op t (.string x) (.string y)).run P w=.ok v w∧VRD S r v:=by
 have e1:x.toList=x.data.toList:=ByteArray.toList_eq x
 have e2:y.toList=y.data.toList:=ByteArray.toList_eq y
 cases op<;>simp only [zb6] at h<;>(try (cases h;done))
 case add =>
  split at h
  · rename_i hl
    cases h
    have h3:¬ (((x.size+y.size:Nat):Int) > IntKind.max .i64):=by
     have:x.size+y.size<4611686018427387904:=by simpa using hl
     simp [IntKind.max,IntKind.signed,IntKind.bits]
     omega
    refine ⟨.string (x++y),?_,.str _ _ (by simp)⟩
    simp only [binOp,Op.stringOp,h3,if_false]
    rfl
  · cases h
 all_goals cases h
 all_goals (refine ⟨_,by simp only [binOp,Op.stringOp,e1,e2];rfl,.bool _⟩)
theorem z5e {op:BinOp} {t:TypeId} {x y r:D} {u v:Value} (hu:VRD S x u) (hv:VRD S y v) (h:zb6 op x y=some r) (ox oy:Operand) :
 ∃ q,(do eqGuard op t ox oy u v;binOp op t u v:Sem Value).run P w=.ok q w∧VRD S r q:=by
 cases x with
 | int k m =>
  cases y with
  | int k' n =>
   rw [hu.int_inv,hv.int_inv]
   obtain ⟨q,hq,hr⟩:=zsu (P:=P) (S:=S) (w:=w) (t:=t) h
   exact ⟨q,by simp only [Sem.run_bind,zpn,Result.andThen_ok,hq],hr⟩
  | _=>simp [zb6] at h
 | str m =>
  cases y with
  | str n =>
   obtain ⟨s,rfl,rfl⟩:=hu.str_inv
   obtain ⟨s',rfl,rfl⟩:=hv.str_inv
   obtain ⟨q,hq,hr⟩:=zsv (P:=P) (S:=S) (w:=w) (t:=t) h
   exact ⟨q,by simp only [Sem.run_bind,zpo,Result.andThen_ok,hq],hr⟩
  | _=>simp [zb6] at h
 | _=>simp [zb6] at h
theorem z5f {neg:Bool} {op:BinOp} {t:TypeId} {m n:Bool} (ht:P.underlying t=some .bool) (hop:(op=.eql∧neg=false)∨(op=.neq∧neg=true)) (ox oy:Operand) :
 (do eqGuard op t ox oy (.bool m) (.bool n);binOp op t (.bool m) (.bool n):Sem Value).run P w=.ok (.bool (if neg then !(m == n) else m == n)) w:=by
 rcases hop with ⟨rfl,rfl⟩|⟨rfl,rfl⟩
 · simp only [Sem.run_bind,zim,Result.andThen_ok,binOp,Op.equal,Op.maxDepth,run_equalIn_bool' w 9999 t m n ht,Sem.run_pure];rfl
 · simp only [Sem.run_bind,zim,Result.andThen_ok,binOp,Op.equal,Op.maxDepth,run_equalIn_bool' w 9999 t m n ht,Sem.run_pure];rfl
theorem zj2 (d:Nat) {t e:TypeId} (ht:P.underlying t=some (.slice e)) (b:Option Addr) (m n:Nat):(Op.equalIn (d+1) t (.slice b m n) (.slice none 0 0)).run P w=.ok b.isNone w:=by
 cases b<;>simp [Op.equalIn,run_underlying ht]
theorem zg7 (op:BinOp) (t:TypeId) (x y:Operand) (b c:Option Addr) (m n m' n':Nat):(eqGuard op t x y (.slice b m n) (.slice c m' n')).run P w=.ok () w:=by
 cases op<;>simp [eqGuard]
theorem zi4 {neg:Bool} {op:BinOp} {t e:TypeId} (ht:P.underlying t=some (.slice e)) (hop:(op=.eql∧neg=false)∨(op=.neq∧neg=true)) (b:Option Addr) (m n:Nat) (ox oy:Operand) :
 (do eqGuard op t ox oy (.slice b m n) (.slice none 0 0);binOp op t (.slice b m n) (.slice none 0 0):Sem Value).run P w=.ok (.bool (if neg then !b.isNone else b.isNone)) w:=by
 rcases hop with ⟨rfl,rfl⟩|⟨rfl,rfl⟩
 · simp only [Sem.run_bind,zg7,Result.andThen_ok,binOp,Op.equal,Op.maxDepth,zj2 (w:=w) 9999 ht,Sem.run_pure];rfl
 · simp only [Sem.run_bind,zg7,Result.andThen_ok,binOp,Op.equal,Op.maxDepth,zj2 (w:=w) 9999 ht,Sem.run_pure];rfl
theorem VRD.nilS_inv {v:Value} (h:VRD S .nilS v):v=.slice none 0 0:=by cases h;rfl
theorem VRD.fn_inv {f:FuncId} {v:Value} (h:VRD S (.fn f) v):v=.func (.func f) #[] #[]:=by cases h;rfl
theorem znv {b:Bool}:(Op.unary .not (.bool b)).run P w=.ok (.bool (!b)) w:=rfl
theorem znw {k:IntKind} {n:Int}:(Op.unary .xor (.int k n)).run P w=.ok (.int k (k.wrap (BitVec.ofInt k.bits (if k.signed then -1 else k.max) ^^^ BitVec.ofInt k.bits n).toNat)) w:=rfl
theorem znx {k:IntKind} {n:Int}:(Op.unary .neg (.int k n)).run P w=.ok (.int k (k.wrap (0 - n))) w:=rfl
end
end Go.E2
namespace Go.E2
theorem zbq:∀ {ks:List Kd} {xs ys:List D} {r:Bool},zk ks xs ys=some r→xs.length=ks.length∧ys.length=ks.length
 | [],[],[],_,_=>⟨rfl,rfl⟩
 | k::ks,x::xs,y::ys,r,h=>by
   simp only [zk] at h
   split at h
   · split at h
     · rename_i hc
       have:=zbq hc
       simp [this]
     · cases h
   · cases h
 | [],_::_,_,_,h=>by simp [zk] at h
 | [],[],_::_,_,h=>by simp [zk] at h
 | _::_,[],_,_,h=>by simp [zk] at h
 | _::_,_::_,[],_,h=>by simp [zk] at h
theorem zcv:∀ {ks ks':List Kd} {xs ys:List D} {r:Bool},zk (ks++ks') xs ys=some r →
 ∃ r1 r2,zk ks (xs.take ks.length) (ys.take ks.length)=some r1∧zk ks' (xs.drop ks.length) (ys.drop ks.length)=some r2∧r=(r1 && r2)
 | [],ks',xs,ys,r,h=>⟨true,r,by simp [zk],by simpa using h,by simp⟩
 | k::ks,ks',x::xs,y::ys,r,h=>by
   simp only [List.cons_append,zk] at h
   split at h
   · rename_i b hb
     split at h
     · rename_i c hc
       cases h
       obtain ⟨r1,r2,h1,h2,rfl⟩:=zcv hc
       exact ⟨b && r1,r2,by simp [zk,hb,h1],by simpa using h2,by rw [Bool.and_assoc]⟩
     · cases h
   · cases h
 | _::_,_,[],_,_,h=>by simp [zk] at h
 | _::_,_,_::_,[],_,h=>by simp [zk] at h
section
variable {P:Program} {S:Stb} {w:World}
def Two (S:Stb) (t:TypeId) (P:Program) (xs ys:List D) (u v:Value):Prop :=
 (zgu P t=some true∧∃ us vs:Array Value,u=.agg us∧v=.agg vs∧zz S xs us.toList∧zz S ys vs.toList) ∨
 (zgu P t=some false∧∃ x y,xs=[x]∧ys=[y]∧VRD S x u∧VRD S y v)
theorem zmb {t:TypeId} {n:Nat} {g:Bool} (hg:zgu P t=some g) (hg1:g=false→n=1) (hsz:tsz P t=some n) {off:Nat} {Z:List D} {zs:Array Value} (hZ:zz S Z zs.toList) (hl:((Z.drop off).take n).length=n) :
 ∃ q,(part t zs off).run P w=.ok q w∧((g=true∧∃ qs:Array Value,q=.agg qs∧zz S ((Z.drop off).take n) qs.toList)∨(g=false∧∃ x,(Z.drop off).take n=[x]∧VRD S x q)):=by
 unfold zgu at hg
 unfold tsz at hsz
 cases hu:P.underlying t with
 | none=>simp [hu] at hg
 | some dd =>
  simp [hu] at hg
  cases hi:P.info? t with
  | none=>simp [hi] at hsz
  | some i =>
   simp [hi] at hsz
   cases g with
   | true =>
    have hagg:(isAgg t).run P w=.ok true w:=by
     unfold isAgg
     simp only [Sem.run_bind,run_underlying hu,Result.andThen_ok]
     cases dd<;>simp [zky] at hg<;>rfl
    refine ⟨.agg (zs.extract off (off+n)),?_,.inl ⟨rfl,_,rfl,?_⟩⟩
    · simp only [Go.part,Sem.run_bind,hagg,Result.andThen_ok,if_true,sizeOf,typeInfo,run_program,hi,Sem.run_pure,hsz]
    · have e:(zs.extract off (off+n)).toList=(zs.toList.drop off).take n:=by simp [List.extract_eq_take_drop]
      rw [e]
      exact (hZ.drop off).take _
   | false =>
    have hagg:(isAgg t).run P w=.ok false w:=by
     unfold isAgg
     simp only [Sem.run_bind,run_underlying hu,Result.andThen_ok]
     cases dd<;>simp [zky] at hg<;>rfl
    have h1':=hg1 rfl
    subst h1'
    obtain ⟨x,hx⟩:=List.length_eq_one_iff.1 hl
    have hx0:Z[off]?=some x:=by
     have:((Z.drop off).take 1)[0]?=some x:=by rw [hx];rfl
     rw [List.getElem?_take] at this
     simpa using this
    obtain ⟨q,hq,hr'⟩:=hZ.get hx0
    have hq':zs[off]?=some q:=by simpa using hq
    exact ⟨q,by simp [Go.part,hagg,hq'],.inr ⟨rfl,x,hx,hr'⟩⟩
theorem zq2 {rec:TypeId→Option (List Kd)} {d:Nat} {e:TypeId} {ks:List Kd}
 (hrec:∀ xs ys u v r,Two S e P xs ys u v→zk ks xs ys=some r→(Op.equalIn d e u v).run P w=.ok r w)
 {g:Bool} (hg:zgu P e=some g) (hg1:g=false→ks.length=1) (hsz:tsz P e=some ks.length) {X Y:List D} {us vs:Array Value} (hX:zz S X us.toList) (hY:zz S Y vs.toList) :
 ∀ (n i:Nat) (r:Bool),zk (List.replicate n ks).flatten (X.drop (i * ks.length)) (Y.drop (i * ks.length))=some r→(Op.eqItems d e ks.length us vs (List.range' i n)).run P w=.ok r w
 | 0,i,r,hr=>by
   have:=zbq hr
   have e1:X.drop (i * ks.length)=[]:=List.eq_nil_of_length_eq_zero (by simpa using this.1)
   have e2:Y.drop (i * ks.length)=[]:=List.eq_nil_of_length_eq_zero (by simpa using this.2)
   rw [e1,e2] at hr
   simp [zk] at hr
   subst hr
   simp [Op.eqItems]
 | n+1,i,r,hr=>by
   simp only [List.replicate_succ,List.flatten_cons] at hr
   obtain ⟨r1,r2,h1,h2,rfl⟩:=zcv hr
   have hl1:=zbq h1
   obtain ⟨qu,hqu,hu⟩:=zmb (w:=w) hg hg1 hsz hX hl1.1
   obtain ⟨qv,hqv,hv⟩:=zmb (w:=w) hg hg1 hsz hY hl1.2
   have htwo:Two S e P ((X.drop (i * ks.length)).take ks.length) ((Y.drop (i * ks.length)).take ks.length) qu qv:=by
    rcases hu with ⟨rfl,us',rfl,hu⟩|⟨rfl,x,hx,hu⟩
    · rcases hv with ⟨_,vs',rfl,hv⟩|⟨e,_⟩
      · exact .inl ⟨hg,us',vs',rfl,rfl,hu,hv⟩
      · cases e
    · rcases hv with ⟨e,_⟩|⟨_,y,hy,hv⟩
      · cases e
      · exact .inr ⟨hg,x,y,hx,hy,hu,hv⟩
   have heq:=hrec _ _ _ _ _ htwo h1
   have h2':zk (List.replicate n ks).flatten (X.drop ((i+1) * ks.length)) (Y.drop ((i+1) * ks.length))=some r2:=by
    rw [Nat.add_mul,Nat.one_mul]
    simpa [List.drop_drop] using h2
   have ih:=zq2 (rec:=rec) hrec hg hg1 hsz hX hY n (i+1) r2 h2'
   simp only [List.range'_succ,Op.eqItems,Sem.run_bind,hqu,hqv,heq,Result.andThen_ok]
   cases r1
   · simp
   · simp [ih]
theorem zny {rec:TypeId→Option (List Kd)} {d:Nat}
 (hrec:∀ t ks xs ys u v r,rec t=some ks→Two S t P xs ys u v→zk ks xs ys=some r→(Op.equalIn d t u v).run P w=.ok r w)
 (hag:∀ t ks,rec t=some ks→∃ g,zgu P t=some g∧(g=false→ks.length=1)) {X Y:List D} {us vs:Array Value} (hX:zz S X us.toList) (hY:zz S Y vs.toList) :
 ∀ (fs:List Field) (off:Nat) (ks:List Kd) (r:Bool),zfg P rec fs off=some ks→zk ks (X.drop off) (Y.drop off)=some r→(Op.eqFields d us vs fs).run P w=.ok r w
 | [],off,ks,r,h,hr=>by
   simp [zfg] at h
   subst h
   have:=zbq hr
   have e1:X.drop off=[]:=List.eq_nil_of_length_eq_zero (by simpa using this.1)
   have e2:Y.drop off=[]:=List.eq_nil_of_length_eq_zero (by simpa using this.2)
   rw [e1,e2] at hr
   simp [zk] at hr
   simp [Op.eqFields,hr]
 | f::fs,off,ks,r,h,hr=>by
   simp only [zfg] at h
   split at h
   · rename_i hf
     obtain ⟨hname,hoff⟩:=hf
     split at h
     · rename_i ks1 hks1
       split at h
       · rename_i hsz
         split at h
         · rename_i ks2 hks2
           cases h
           obtain ⟨r1,r2,h1,h2,rfl⟩:=zcv hr
           obtain ⟨g,hg,hg1⟩:=hag _ _ hks1
           have hl1:=zbq h1
           have part:∀ {Z:List D} {zs:Array Value},zz S Z zs.toList→((Z.drop off).take ks1.length).length=ks1.length →
            ∃ q,(part f.type zs f.offset).run P w=.ok q w∧((g=true∧∃ qs:Array Value,q=.agg qs∧zz S ((Z.drop off).take ks1.length) qs.toList)∨(g=false∧∃ x,(Z.drop off).take ks1.length=[x]∧VRD S x q)):=by
            intro Z zs hZ hl
            unfold zgu at hg
            unfold tsz at hsz
            cases hu:P.underlying f.type with
            | none=>simp [hu] at hg
            | some dd =>
             simp [hu] at hg
             cases hi:P.info? f.type with
             | none=>simp [hi] at hsz
             | some i =>
              simp [hi] at hsz
              cases g with
              | true =>
               have hagg:(isAgg f.type).run P w=.ok true w:=by
                unfold isAgg
                simp only [Sem.run_bind,run_underlying hu,Result.andThen_ok]
                cases dd<;>simp [zky] at hg<;>rfl
               refine ⟨.agg (zs.extract f.offset (f.offset+ks1.length)),?_,.inl ⟨rfl,_,rfl,?_⟩⟩
               · simp only [Go.part,Sem.run_bind,hagg,Result.andThen_ok,if_true,sizeOf,typeInfo,run_program,hi,Sem.run_pure,hsz]
               · have e:(zs.extract f.offset (f.offset+ks1.length)).toList=(zs.toList.drop off).take ks1.length:=by
                  rw [hoff]
                  simp [List.extract_eq_take_drop]
                 rw [e]
                 exact (hZ.drop off).take _
              | false =>
               have hagg:(isAgg f.type).run P w=.ok false w:=by
                unfold isAgg
                simp only [Sem.run_bind,run_underlying hu,Result.andThen_ok]
                cases dd<;>simp [zky] at hg<;>rfl
               have h1':=hg1 rfl
               rw [h1'] at hl
               obtain ⟨x,hx⟩:=List.length_eq_one_iff.1 hl
               have hx0:Z[off]?=some x:=by
                have:((Z.drop off).take 1)[0]?=some x:=by rw [hx];rfl
                rw [List.getElem?_take] at this
                simpa using this
               obtain ⟨q,hq,hr'⟩:=hZ.get hx0
               have hq':zs[off]?=some q:=by simpa using hq
               refine ⟨q,by simp [Go.part,hagg,hoff,hq'],.inr ⟨rfl,x,by rw [h1'];exact hx,hr'⟩⟩
           obtain ⟨qu,hqu,hu⟩:=part hX hl1.1
           obtain ⟨qv,hqv,hv⟩:=part hY hl1.2
           have htwo:Two S f.type P ((X.drop off).take ks1.length) ((Y.drop off).take ks1.length) qu qv:=by
            rcases hu with ⟨rfl,us',rfl,hu⟩|⟨rfl,x,hx,hu⟩
            · rcases hv with ⟨_,vs',rfl,hv⟩|⟨e,_⟩
              · exact .inl ⟨hg,us',vs',rfl,rfl,hu,hv⟩
              · cases e
            · rcases hv with ⟨e,_⟩|⟨_,y,hy,hv⟩
              · cases e
              · exact .inr ⟨hg,x,y,hx,hy,hu,hv⟩
           have heq:=hrec _ _ _ _ _ _ _ hks1 htwo h1
           have h2':zk ks2 (X.drop (off+ks1.length)) (Y.drop (off+ks1.length))=some r2:=by simpa [List.drop_drop] using h2
           have ih:=zny hrec hag hX hY fs (off+ks1.length) ks2 r2 hks2 h2'
           simp only [Op.eqFields,hname,ne_eq,not_false_eq_true,if_true,Sem.run_bind,hqu,hqv,heq,Result.andThen_ok]
           cases r1
           · simp
           · simp [ih]
         · cases h
       · cases h
     · cases h
   · cases h
theorem zh0:∀ (d:Nat) (t:TypeId) (ks:List Kd),zcf P d t=some ks→∃ g,zgu P t=some g∧(g=false→ks.length=1)
 | 0,t,ks,h=>by simp [zcf] at h
 | d+1,t,ks,h=>by
   simp only [zcf] at h
   unfold zgu
   split at h
   · rename_i hu;cases h;exact ⟨false,by simp [hu,zky],fun _=>rfl⟩
   · rename_i hu;cases h;exact ⟨false,by simp [hu,zky],fun _=>rfl⟩
   · rename_i hu;cases h;exact ⟨false,by simp [hu,zky],fun _=>rfl⟩
   · rename_i hu;exact ⟨true,by simp [hu,zky],fun e=>by cases e⟩
   · rename_i hu;exact ⟨true,by simp [hu,zky],fun e=>by cases e⟩
   · cases h
theorem zi5:∀ (d m:Nat) (t:TypeId) (ks:List Kd) (xs ys:List D) (u v:Value) (r:Bool),zcf P d t=some ks→Two S t P xs ys u v→zk ks xs ys=some r →
 (Op.equalIn (d+m) t u v).run P w=.ok r w
 | 0,m,t,ks,xs,ys,u,v,r,h,_,_=>by simp [zcf] at h
 | d+1,m,t,ks,xs,ys,u,v,r,h,ht,hr=>by
   have e1:d+1+m=(d+m)+1:=by omega
   rw [e1]
   simp only [zcf] at h
   split at h
   · rename_i hu
     cases h
     rcases ht with ⟨hg,_⟩|⟨_,x,y,rfl,rfl,hx,hy⟩
     · simp [zgu,hu,zky] at hg
     · cases x<;>cases y<;>simp [zk,zb0] at hr
       rw [hx.bool_inv,hy.bool_inv,run_equalIn_bool' w _ t _ _ hu,hr]
   · rename_i hu
     cases h
     rcases ht with ⟨hg,_⟩|⟨_,x,y,rfl,rfl,hx,hy⟩
     · simp [zgu,hu,zky] at hg
     · cases x<;>cases y<;>simp [zk,zb0] at hr
       rename_i k1 n1 k2 n2
       by_cases hk:k1=k2
       · subst hk
         simp at hr
         rw [hx.int_inv,hy.int_inv,run_equalIn_int w _ t _ _ _ _ hu,hr]
       · simp [hk] at hr
   · rename_i hu
     cases h
     rcases ht with ⟨hg,_⟩|⟨_,x,y,rfl,rfl,hx,hy⟩
     · simp [zgu,hu,zky] at hg
     · cases x<;>cases y<;>simp [zk,zb0] at hr
       obtain ⟨s,rfl,rfl⟩:=hx.str_inv
       obtain ⟨s',rfl,rfl⟩:=hy.str_inv
       rw [run_equalIn_string w _ t _ _ hu,ByteArray.toList_eq,ByteArray.toList_eq,hr]
   · rename_i fs hu
     split at h
     · cases h
     · rename_i hst
       rcases ht with ⟨_,us,vs,rfl,rfl,hx,hy⟩|⟨hg,_⟩
       · have hfo:P.fieldsOf t=fs:=by simp [Program.fieldsOf,hu]
         rw [run_equalIn_struct w _ t us vs (by rw [hfo];exact hu) (by simpa using hst),hfo]
         exact zny (rec:=zcf P d) (d:=d+m) (fun t ks xs ys u v r=>zi5 d m t ks xs ys u v r) (zh0 d) hx hy fs.toList 0 ks r h (by simpa using hr)
       · simp [zgu,hu,zky] at hg
   · rename_i n e hu
     split at h
     · rename_i ks1 hks1
       split at h
       · rename_i hsz
         cases h
         rcases ht with ⟨_,us,vs,rfl,rfl,hx,hy⟩|⟨hg,_⟩
         · obtain ⟨g,hg,hg1⟩:=zh0 d e ks1 hks1
           obtain ⟨i,hi,his⟩:∃ i,P.info? e=some i∧i.size=ks1.length:=by
            unfold tsz at hsz
            cases hi:P.info? e with
            | none=>simp [hi] at hsz
            | some i=>simp [hi] at hsz;exact ⟨i,rfl,hsz⟩
           have hce:P.cellsOf e=ks1.length:=by simp [Program.cellsOf,hi,his]
           rw [run_equalIn_array (P:=P) w (d+m) us vs hu hi,hce,List.range_eq_range']
           exact zq2 (rec:=fun _=>none) (fun xs ys u v r h1 h2=>zi5 d m e ks1 xs ys u v r hks1 h1 h2) hg hg1 hsz hx hy n 0 r (by simpa using hr)
         · simp [zgu,hu,zky] at hg
       · cases h
     · cases h
   · cases h
theorem zzm {neg:Bool} {op:BinOp} {t:TypeId} {ks:List Kd} {cs cs':List D} {u v:Value} {r:Bool} (hop:(op=.eql∧neg=false)∨(op=.neq∧neg=true))
 (hk:zcf P 8 t=some ks) (hg:P.eqGuardType P.depth t=false) (hagg:zgu P t=some true) (hu:VRD S (.agg cs) u) (hv:VRD S (.agg cs') v) (hr:zk ks cs cs'=some r) (ox oy:Operand) :
 (do eqGuard op t ox oy u v;binOp op t u v:Sem Value).run P w=.ok (.bool (if neg then !r else r)) w:=by
 obtain ⟨us,rfl,hus,_⟩:=hu.agg_inv
 obtain ⟨vs,rfl,hvs,_⟩:=hv.agg_inv
 have h:=zi5 (w:=w) 8 9992 t ks cs cs' _ _ r hk (.inl ⟨hagg,us,vs,rfl,rfl,hus,hvs⟩) hr
 rcases hop with ⟨rfl,rfl⟩|⟨rfl,rfl⟩
 · simp only [Sem.run_bind,run_eqGuard_agg w _ t ox oy us vs hg,Result.andThen_ok,run_eql_struct,h];rfl
 · simp only [Sem.run_bind,run_eqGuard_agg w _ t ox oy us vs hg,Result.andThen_ok,run_neq_struct,h];rfl
end
end Go.E2
namespace Go.E2
section
variable {P:Program} {S:Stb} {ms:List (Nat→Nat)} {lv:List Hp} {ρ:Env} {a:Act} {w:World}
def zan (P:Program) (S:Stb) (lv:List Hp) (ms:List (Nat→Nat)) (a:Act) (w:World) (o:Oper) (x:AV):Prop :=
 ∃ v,(execOp a.eval o).run P w=.ok (.value v) w∧VR S lv ms x v∧∀ sz es,x≠.own sz es
theorem zan.d {o:Oper} {x:D} {v:Value} (h:(execOp a.eval o).run P w=.ok (.value v) w) (hx:VRD S x v):zan P S lv ms a w o (.d x):=⟨v,h,hx,fun _ _ e=>by cases e⟩
theorem znz (ht:zfc S lv ms ρ a) {o:Operand} {x:AO} (h:cO o=some x) {dflt:Nat} {n:Int} (hb:bnd ρ dflt (some x)=some n):∃ k,a.eval o=.int k n:=by
 have hv:=za ht h
 simp only [bnd] at hb
 split at hb
 · rename_i k m e
   rw [e] at hv
   cases hb
   exact ⟨k,VRD.int_inv hv⟩
 · cases hb
theorem zbl {k:IntKind} {n:Int} {y:Nat} {code:BoundsCode} (h0:0≤n) (h1:n≤y):(Instr.sliceBound (.int k n) y code).run P w=.ok n.toNat w:=by
 simp [Instr.sliceBound,asIntOf,h0,h1]
theorem zj3 (ht:zfc S lv ms ρ a) {isSlice:Bool} {len cap:Nat} {lo hi:Option Operand} {lo' hi':Option AO} (hlo:zh5 lo=some lo') (hhi:zh5 hi=some hi') {l h:Int}
 (hl:bnd ρ 0 lo'=some l) (hh:bnd ρ len hi'=some h) (h0:0≤l) (h1:l≤h) (h2:h≤cap) :
 (Instr.sliceBounds isSlice len cap (lo.map a.eval) (hi.map a.eval) none).run P w=.ok (l.toNat,h.toNat,cap) w:=by
 have hrunH:∀ (code:BoundsCode),(match hi.map a.eval with|some v=>Instr.sliceBound v cap code|none=>pure len:Sem Nat).run P w=.ok h.toNat w:=by
  intro code
  cases hi with
  | none =>
   simp [zh5] at hhi
   subst hhi
   simp [bnd] at hh
   simp [← hh]
  | some o =>
   simp [zh5] at hhi
   obtain ⟨y,hy,rfl⟩:=hhi
   obtain ⟨k,hk⟩:=znz ht hy hh
   simp only [Option.map_some,hk]
   exact zbl (by omega) (by omega)
 have hrunL:∀ (code:BoundsCode),(match lo.map a.eval with|some v=>Instr.sliceBound v h.toNat code|none=>pure 0:Sem Nat).run P w=.ok l.toNat w:=by
  intro code
  cases lo with
  | none =>
   simp [zh5] at hlo
   subst hlo
   simp [bnd] at hl
   simp [← hl]
  | some o =>
   simp [zh5] at hlo
   obtain ⟨y,hy,rfl⟩:=hlo
   obtain ⟨k,hk⟩:=znz ht hy hl
   simp only [Option.map_some,hk]
   exact zbl h0 (by omega)
 unfold Instr.sliceBounds
 have hH:=hrunH (if isSlice then .sliceAcap else .sliceAlen)
 have hL:=hrunL .sliceB
 cases hhm:hi.map a.eval<;>cases hlm:lo.map a.eval<;>simp only [hhm] at hH<;>simp only [hlm] at hL
 · simp at hH hL
   simp [← hH,← hL]
 · simp at hH
   rw [← hH] at hL ⊢
   simp [hL]
 · simp at hL
   simp [hH,← hL]
 · simp [hH,hL]
theorem zfv (ht:zfc S lv ms ρ a) {isSlice:Bool} {len cap:Nat} {lo hi:Option Operand} {lo' hi':Option AO} (hlo:zh5 lo=some lo') (hhi:zh5 hi=some hi') {l h:Int}
 (hl:bnd ρ 0 lo'=some l) (hh:bnd ρ len hi'=some h) (h0:0≤l) (h1:l≤h) (h2:h≤len) (h3:len≤cap) :
 (Instr.sliceBounds isSlice len cap (lo.map a.eval) (hi.map a.eval) none).run P w=.ok (l.toNat,h.toNat,cap) w :=
 zj3 ht hlo hhi hl hh h0 h1 (by omega)
theorem zgh (ht:zfc S lv ms ρ a) {isSlice:Bool} {len cap:Nat} {lo:Option Operand} {hi mx:Operand} {lo':Option AO} {hi' mx':AO} (hlo:zh5 lo=some lo') (hhi:cO hi=some hi') (hmx:cO mx=some mx') {l h m:Int}
 (hl:bnd ρ 0 lo'=some l) (hh:bnd ρ len (some hi')=some h) (hm:bnd ρ cap (some mx')=some m) (h0:0≤l) (h1:l≤h) (h2:h≤m) (h3:m≤cap) :
 (Instr.sliceBounds isSlice len cap (lo.map a.eval) (some (a.eval hi)) (some (a.eval mx))).run P w=.ok (l.toNat,h.toNat,m.toNat) w:=by
 obtain ⟨k1,e1⟩:=znz ht hhi hh
 obtain ⟨k2,e2⟩:=znz ht hmx hm
 have r1:∀ (code:BoundsCode),(Instr.sliceBound (a.eval mx) cap code).run P w=.ok m.toNat w:=fun code=>by rw [e2];exact zbl (by omega) (by omega)
 have r2:∀ (code:BoundsCode),(Instr.sliceBound (a.eval hi) m.toNat code).run P w=.ok h.toNat w:=fun code=>by rw [e1];exact zbl (by omega) (by omega)
 cases lo with
 | none =>
  simp [zh5] at hlo
  subst hlo
  simp [bnd] at hl
  simp [Instr.sliceBounds,r1,r2,← hl]
 | some o =>
  simp [zh5] at hlo
  obtain ⟨y,hy,rfl⟩:=hlo
  obtain ⟨k,hk⟩:=znz ht hy hl
  have r3:∀ (code:BoundsCode),(Instr.sliceBound (a.eval o) h.toNat code).run P w=.ok l.toNat w:=fun code=>by rw [hk];exact zbl (by omega) (by omega)
  simp [Instr.sliceBounds,r1,r2,r3]
theorem zmc {S:Stb}:∀ (place:Nat→Option (Nat×Nat)) (ps:List (Nat×Value)) (qs:List (Nat×Nat×D)) (cells:List D) (cs:Array Value) (r:List D),
 List.length ps=qs.length→(∀ (j:Nat) (p:Nat×Value) (q:Nat×Nat×D),ps[j]?=some p→qs[j]?=some q→place p.1=some (q.1,q.2.1)∧VRD S q.2.2 p.2) →
 zz S cells cs.toList→ziz cells qs=some r→∃ cs',Instr.fill place cs ps=some cs'∧zz S r cs'.toList
 | place,[],[],cells,cs,r,_,_,hc,h=>by simp [ziz] at h;subst h;exact ⟨cs,rfl,hc⟩
 | place,(i,v)::ps,(off,size,x)::qs,cells,cs,r,hl,hp,hc,h=>by
   obtain ⟨hpl,hx⟩:=hp 0 (i,v) (off,size,x) rfl rfl
   simp only [ziz] at h
   split at h
   · rename_i hcond
     have hxc:=(hx.cells).1
     have hsz:v.cells.size=size:=by have:=hxc.1;simp at this;omega
     have hfit:¬ (off+v.cells.size > cs.size):=by have:=hc.1;simp at this;omega
     have hnew:zz S (zbv cells x.cells off) (v.cells.zipIdx.foldl (fun cs (c,j)=>cs.setIfInBounds (off+j) c) cs).toList:=by
      have gen:∀ (vs:List Value) (o:Nat) (cs:Array Value),o+vs.length≤cs.size →
       ((vs.zipIdx o).foldl (fun (cs:Array Value) (p:Value×Nat)=>cs.setIfInBounds p.2 p.1) cs).toList=cs.toList.take o++vs++cs.toList.drop (o+vs.length):=by
       intro vs
       induction vs with
       | nil=>intro o cs _;simp
       | cons u vs ih =>
        intro o cs hle
        simp only [List.length_cons] at hle
        rw [List.zipIdx_cons,List.foldl_cons,ih (o+1) _ (by simp;omega)]
        have e:=list_seg_step cs.toList o u vs (by simp;omega)
        simp only [Array.toList_setIfInBounds]
        rw [e]
        simp
      have hz:(v.cells.zipIdx.foldl (fun (cs:Array Value) (p:Value×Nat)=>cs.setIfInBounds (off+p.2) p.1) cs)=((v.cells.toList.zipIdx off).foldl (fun (cs:Array Value) (p:Value×Nat)=>cs.setIfInBounds p.2 p.1) cs):=by
       rw [← Array.foldl_toList,Array.toList_zipIdx]
       have:∀ (l:List Value) (k:Nat) (cs:Array Value),(l.zipIdx k).foldl (fun (cs:Array Value) (p:Value×Nat)=>cs.setIfInBounds (off+p.2) p.1) cs=(l.zipIdx (off+k)).foldl (fun (cs:Array Value) (p:Value×Nat)=>cs.setIfInBounds p.2 p.1) cs:=by
        intro l
        induction l with
        | nil=>intro k cs;rfl
        | cons u l ih=>intro k cs;simp only [List.zipIdx_cons,List.foldl_cons];rw [ih (k+1)];rfl
       simpa using this v.cells.toList 0 cs
      have hle:off+v.cells.toList.length≤cs.size:=by simp;omega
      have e2:=gen v.cells.toList off cs hle
      rw [← hz] at e2
      show zz S (zbv cells x.cells off) (Array.toList (v.cells.zipIdx.foldl (fun (cs:Array Value) (p:Value×Nat)=>cs.setIfInBounds (off+p.2) p.1) cs))
      rw [e2]
      have hlen:v.cells.toList.length=x.cells.length:=hxc.1
      unfold zbv
      rw [hlen]
      exact ((hc.take off).append hxc).append (hc.drop _)
     obtain ⟨cs',h1,h2⟩:=zmc place ps qs _ _ r (by simpa using hl) (fun j p q hj hq=>hp (j+1) p q (by simpa using hj) (by simpa using hq)) hnew h
     refine ⟨cs',?_,h2⟩
     simp only [Instr.fill,hpl]
     rw [if_neg (by simp [hsz];omega)]
     exact h1
   · cases h
 | place,[],_::_,_,_,_,hl,_,_,_=>by simp at hl
 | place,_::_,[],_,_,_,hl,_,_,_=>by simp at hl
theorem zg8 (ht:zfc S lv ms ρ a):∀ (os:List Operand) (xs:List AO) (ds:List D),cOs os=some xs→zx ρ xs=some ds→zz S ds (os.map a.eval)
 | [],xs,ds,h,hd=>by simp [cOs] at h;subst h;simp [zx] at hd;subst hd;exact zz.nil
 | o::os,xs,ds,h,hd=>by
   simp only [cOs] at h
   split at h
   · rename_i x xs' hx hxs
     cases h
     simp only [zx] at hd
     split at hd
     · rename_i y ys hy hys
       cases hd
       exact zz.cons ((za ht hx).data hy) (zg8 ht os xs' ys hxs hys)
     · cases hd
   · cases h
end
end Go.E2
