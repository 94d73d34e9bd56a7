/-
 One operation of a region.
 Conditions: none;laws.
-/
import Derived.Test.YtlejjdbmmdghmaaEM1
import Derived.Test.YtlejjdbmmdghmaaEO10
namespace Go.E2
theorem zgc {P:Program} {gs:List Nat} {f:FuncId} {af:AFunc} (h:zf P gs f=some af) :
 ∃ fn c, P.funcs[f]? = some fn ∧ fn.body = some c ∧ (fn.name == "runtime.NumGoroutine") = false ∧ zk0 P fn.results.toList = some af.res ∧ zai P gs fn.ntmps (zbn c) c = some af.body ∧ af.nt = fn.ntmps := by
 unfold zf at h
 split at h
 · cases h
 · rename_i fn hf
   split at h
   · cases h
   · rename_i c hb
     split at h
     · cases h
     · rename_i hn
       split at h
       · rename_i res body h1 h2
         cases h
         exact ⟨fn,c,hf,hb,by simpa using hn,h1,h2,rfl⟩
       · cases h
section
variable {P:Program} {S:Stb} {ms:List (Nat→Nat)} {ow:Nat→Option Nat} {base:Nat} {O:Nat→Prop} {ρ:Env} {L:Hp} {σ:List Hp} {G:Gh} {a:Act} {w:World}
theorem zep.sh {lv:List Hp} {ms:List (Nat→Nat)} {k s g off:Nat} {v:Value} (h:zep lv ms k s g off v) (m0:Nat→Nat):zep (zm5::lv) (m0::ms) (k+1) s g off v:=by
 obtain ⟨x,m,b,h1,h2,h3⟩:=h
 exact ⟨x,m,b,by simpa using h1,by simpa using h2,h3⟩
theorem VR.sh {lv:List Hp} {ms:List (Nat→Nat)} {x:AV} {v:Value} (h:VR S lv ms x v) (m0:Nat→Nat):VR S (zm5::lv) (m0::ms) (sh x) v:=by
 cases x with
 | d x=>exact h
 | ptr k s g off=>exact zep.sh h m0
 | cptr cs=>exact h
 | func f caps =>
  obtain ⟨cv,h1,h2,h3⟩:=h
  refine ⟨cv,h1,by simpa using h2,fun j p u hj hu=>?_⟩
  rw [List.getElem?_map] at hj
  cases hq:caps[j]? with
  | none=>simp [hq] at hj
  | some q =>
   simp [hq] at hj
   subst hj
   exact (h3 j q u hq hu).sh m0
 | own sz es=>exact h
 | tup xs=>trivial
 | skp=>trivial
 | undef=>trivial
theorem zld {x:AV}:∀ sz es,sh x≠.own sz es:=by intro sz es;cases x<;>simp [sh]
theorem zy8 {S:Stb} {lv:List Hp} {ms:List (Nat→Nat)} (ht:zfc S lv ms ρ a):∀ (os:List Operand) (xs:List AO),cOs os=some xs→(xs.map (ev ρ)).length=os.length∧∀ (i:Nat) (o:Operand),os[i]?=some o→∃ x,(xs.map (ev ρ))[i]?=some x∧VR S lv ms x (a.eval o)
 | [],xs,h=>by simp [cOs] at h;subst h;exact ⟨rfl,fun i o h=>by simp at h⟩
 | o::os,xs,h=>by
   simp only [cOs] at h
   split at h
   · rename_i x xs' hx hxs
     cases h
     obtain ⟨h1,h2⟩:=zy8 ht os xs' hxs
     refine ⟨by simp at h1 ⊢;exact h1,fun i o' ho=>?_⟩
     cases i with
     | zero=>simp at ho;subst ho;exact ⟨_,rfl,za ht hx⟩
     | succ i=>obtain ⟨y,hy,hv⟩:=h2 i o' (by simpa using ho);exact ⟨y,by simpa using hy,hv⟩
   · cases h
theorem zw7 {o:Oper} {f:Operand} {args:Array Operand} {ats:Array TypeId} (ho:o.op=.call { callee:=.value f,args,argTypes:=ats }) {g:FuncId} {cv:Array Value} (hf:a.eval f=.func (.func g) #[] cv) (hg:ze3 P g) :
 (execOp a.eval o).run P w=.ok (.enter g (args.map a.eval++cv)) w:=by
 have:=zbp (P:=P) (w:=w) (args:=args.map a.eval++cv) hg
 simp [execOp,ho,resolve,hf,Deferred.ofValue,invoke,this]
theorem zty {o:Oper} {f:Operand} {args:Array Operand} {ats:Array TypeId} (ho:o.op=.call { callee:=.value f,args,argTypes:=ats }) {g:FuncId} {fv:Array Value} (hf:a.eval f=.func (.func g) fv #[]) (hg:ze3 P g) :
 (execOp a.eval o).run P w=.ok (.enter g (fv++args.map a.eval)) w:=by
 have:=zbp (P:=P) (w:=w) (args:=fv++args.map a.eval) hg
 simp [execOp,ho,resolve,hf,Deferred.ofValue,invoke,this]
theorem zsb {o:Oper} {f:Operand} {args:Array Operand} {ats:Array TypeId} (ho:o.op=.call { callee:=.value f,args,argTypes:=ats }) {g:FuncId} {fv:Array Value} (hf:a.eval f=.func (.func g) fv #[]) {v:Value} {w':World} (hg:(callFunc g (fv++args.map a.eval)).run P w=.ok (.value v) w') :
 (execOp a.eval o).run P w=.ok (.value v) w':=by
 simp [execOp,ho,resolve,hf,Deferred.ofValue,invoke,hg]
theorem ztz {o:Oper} {f:Operand} {args:Array Operand} {ats:Array TypeId} (ho:o.op=.call { callee:=.value f,args,argTypes:=ats }) {g:FuncId} {cv:Array Value} (hf:a.eval f=.func (.func g) #[] cv) {v:Value} {w':World} (hg:(callFunc g (args.map a.eval++cv)).run P w=.ok (.value v) w') :
 (execOp a.eval o).run P w=.ok (.value v) w':=by
 simp [execOp,ho,resolve,hf,Deferred.ofValue,invoke,hg]
theorem zsc {name:String} {t:TypeId} {g:FuncId} (h:zlo P name t=some g):∃ i m e,P.info? t=some i∧i.methods.find? (·.name == name)=some m∧m.path=#[]∧m.func=some (g,true)∧P.underlying t=some (.pointer e):=by
 unfold zlo at h
 split at h
 · rename_i i hi
   split at h
   · rename_i m hm
     split at h
     · rename_i hp
       split at h
       · rename_i f e h1 h2
         cases h
         exact ⟨i,m,e,hi,hm,by simpa using hp,h1,h2⟩
       · cases h
     · cases h
   · cases h
 · cases h
theorem zw8 {name:String} {t:TypeId} {g:FuncId} (h:(zw3 P name).lookup t=some g):zlo P name t=some g:=by
 have mem:∀ {l:List (Nat×FuncId)},l.lookup t=some g→(t,g)∈l:=by
  intro l
  induction l with
  | nil=>intro h;cases h
  | cons p l ih =>
   intro h
   obtain ⟨a,b⟩:=p
   simp only [List.lookup] at h
   split at h
   · rename_i e
     have e:t=a:=by simpa using e
     cases h;subst e
     exact List.mem_cons_self
   · exact List.mem_cons_of_mem _ (ih h)
 have:=mem h
 unfold zw3 at this
 rw [List.mem_filterMap] at this
 obtain ⟨x,_,hx⟩:=this
 rw [Option.map_eq_some_iff] at hx
 obtain ⟨f,hf,e⟩:=hx
 cases e
 exact hf
theorem zsd {name:String} {t:TypeId} {g:FuncId} (h:zlo P name t=some g) (v:Value) (n:Nat):(method (n+1) t v name).run P w=.ok (g,v) w:=by
 obtain ⟨i,m,e,h1,h2,h3,h4,h5⟩:=zsc h
 have hi:(typeInfo t).run P w=.ok i w:=run_typeInfo w h1
 simp [method,hi,h2,h3,h4,follow,receiverAt,run_underlying h5,Place.get]
theorem zt0 {o:Oper} {r:Operand} {name:String} {args:Array Operand} {ats:Array TypeId} (ho:o.op=.call { callee:=.invoke r name,args,argTypes:=ats }) {g:FuncId} {t:TypeId} {v:Value} (hf:a.eval r=.iface t v) (hm:zlo P name t=some g) :
 (execOp a.eval o).run P w=(callFunc g (#[v]++args.map a.eval)).run P w:=by
 have hx:(#[a.eval r]++args.map a.eval).extract 1 (#[a.eval r]++args.map a.eval).size=args.map a.eval:=by
  apply Array.toList_inj.1
  simp
  exact List.take_of_length_le (by simp)
 have h0:(#[a.eval r]++args.map a.eval)[0]?=some (a.eval r):=by
  rw [Array.getElem?_append_left (by simp)];rfl
 have hrm:=zsd (P:=P) (w:=w) hm v (P.types.size+99)
 have e:P.types.size+99+1=P.types.size+Made.depth:=rfl
 rw [e] at hrm
 rw [hf] at h0 hx
 simp only [execOp,ho,resolve,Sem.run_bind,Sem.run_pure,Result.andThen_ok,invoke,hf,h0,hx,callMethod,run_program,hrm]
theorem zjl {c:Ctx} {ops:Array Oper} {o:Oper} {ai:AI} (h:zpy c ops o=some ai):z5i c o.dst o.type o.op=some ai.op∧ai.dst=o.dst∧(∀ d,o.dst=some d→d<c.nt) ∧
 ((o.guard=none∧ai.guard=none)∨∃ j want t,o.guard=some (j,want)∧(ops[j]?).bind (·.dst)=some t∧ai.guard=some (t,want)):=by
 unfold zpy at h
 split at h
 · rename_i aop g e1 e2
   split at h
   · rename_i hd
     cases h
     refine ⟨e1,rfl,fun d e=>by rw [e] at hd;simpa [z5j] using hd,?_⟩
     generalize hgd:o.guard=gd at e2
     cases gd with
     | none=>simp [zpx] at e2;exact .inl ⟨rfl,e2.symm⟩
     | some q =>
      obtain ⟨j,want⟩:=q
      simp only [zpx,Option.map_eq_some_iff] at e2
      obtain ⟨t,ht,rfl⟩:=e2
      exact .inr ⟨j,want,t,rfl,ht,rfl⟩
   · cases h
 · cases h
theorem zfp {c:Ctx} {dst:Option Nat} {op:Op} {aop:AOp} (h:zcg c dst op=some aop):(∃ k as,aop=.gd k as)∨∃ k as,aop=.gn k as:=by
 cases op with
 | makeMap t x =>
  cases x with
  | none =>
   simp only [zcg,Option.map_eq_some_iff] at h
   obtain ⟨_,_,e⟩:=h
   exact .inr ⟨_,_,e.symm⟩
  | some y=>simp [zcg] at h
 | next x y =>
  cases y with
  | false =>
   simp only [zcg,Option.map_eq_some_iff] at h
   obtain ⟨_,_,e⟩:=h
   exact .inr ⟨_,_,e.symm⟩
  | true=>simp [zcg] at h
 | makeFunc fn x y =>
  cases fn with
  | func f =>
   simp only [zcg] at h
   split at h
   · simp only [Option.map_eq_some_iff] at h
     obtain ⟨_,_,e⟩:=h
     exact .inl ⟨_,_,e.symm⟩
   · split at h
     · simp only [Option.map_eq_some_iff] at h
       obtain ⟨_,_,e⟩:=h
       exact .inl ⟨_,_,e.symm⟩
     · cases h
  | _=>simp [zcg] at h
 | _ =>
  simp only [zcg] at h
  first
  | (cases h;done)
  | ((repeat' split at h)<;>first
      | (cases h;done)
      | (cases Option.some.inj h;first|exact .inl ⟨_,_,rfl⟩|exact .inr ⟨_,_,rfl⟩)
      | (simp only [Option.map_eq_some_iff] at h;obtain ⟨_,_,e⟩:=h;cases e;first|exact .inl ⟨_,_,rfl⟩|exact .inr ⟨_,_,rfl⟩))
  | (simp only [Option.map_eq_some_iff] at h;obtain ⟨_,_,e⟩:=h;cases e;first|exact .inl ⟨_,_,rfl⟩|exact .inr ⟨_,_,rfl⟩)
theorem zej {c:Ctx} {dst:Option Nat} {ty:TypeId} {op:Op} {aop:AOp} (h:z5i c dst ty op=some aop):zcg c dst op=some aop∨(cOp c dst ty op=some aop∧aop.old=true)∨(aop=.gd .never []∧∀ cl,op≠.defer cl):=by
 unfold z5i at h
 split at h
 · rename_i a e;cases h;exact .inl e
 · split at h
   · rename_i a e
     split at h
     · rename_i ho;cases h;exact .inr (.inl ⟨e,ho⟩)
     · cases h
   · split at h
     · cases h
     · rename_i hnd
       cases h
       exact .inr (.inr ⟨rfl,fun cl e=>hnd cl e⟩)
theorem zse {c:Ctx} {dst:Option Nat} {ty:TypeId} {cl:Call} {aop:AOp}:z5i c dst ty (.defer cl)≠some aop:=by
 intro h
 rcases zej h with h|⟨h,_⟩|⟨_,h⟩
 · simp [zcg] at h
 · simp [cOp] at h
 · exact h cl rfl
theorem zw9 {c:Ctx} {dst:Option Nat} {ty:TypeId} {op:Op} {f:AO} {args:List AO} {q:Nat} (hop:cOp c dst ty op=some (.call f args q)) :
 (∃ f' args' ats,op=.call { callee:=.value f',args:=args',argTypes:=ats }∧cO f'=some f∧cOs args'.toList=some args) ∨
 ∃ i m args' ats,op=.call { callee:=.invoke (.tmp i) m,args:=args',argTypes:=ats }∧f=.m i (zw3 c.P m)∧cOs args'.toList=some args:=by
 cases op with
 | call cl =>
  obtain ⟨callee,as,ts⟩:=cl
  cases callee with
  | value f' =>
   simp only [cOp,zck] at hop
   split at hop
   · rename_i f0 as0 e1 e2
     cases hop
     exact .inl ⟨f',as,ts,rfl,e1,e2⟩
   · cases hop
  | invoke r m =>
   simp only [cOp] at hop
   obtain ⟨i,as',q',rfl,h1,e⟩:=zb5 hop
   cases e
   exact .inr ⟨i,m,as,ts,rfl,rfl,h1⟩
  | builtin b =>
   exfalso
   cases b<;>simp only [cOp,zck] at hop<;>(repeat' split at hop)<;>first|(cases hop;done)|(simp at hop;done)|(split at hop<;>cases hop;done)
 | unOp u t y=>cases u<;>simp [cOp] at hop;(split at hop<;>simp at hop)
 | makeFunc fn x y =>
  cases fn with
  | func f=>simp only [cOp] at hop;split at hop<;>simp at hop
  | _=>simp [cOp] at hop
 | binOp o t x y u =>
  simp only [cOp] at hop
  split at hop
  · unfold zzq at hop
    (repeat' split at hop)<;>cases hop
  · cases hop
 | slice t x lo hi mx =>
  simp only [cOp] at hop
  split at hop
  · rcases zdh hop with ⟨_,_,_,_,_,_,e⟩|⟨_,_,_,_,⟨_,_,_,_,_,e⟩|⟨_,_,_,e⟩|⟨_,_,_,_,_,_,_,_,_,e⟩|⟨_,_,_,_,_,_,_,_,_,_,e⟩⟩<;>cases e
  · cases hop
 | convert s d x =>
  simp only [cOp] at hop
  split at hop
  · unfold zmj at hop
    (repeat' split at hop)<;>cases hop
  · cases hop
 | _ =>
  exfalso
  simp only [cOp] at hop
  first
  | (cases hop;done)
  | ((repeat' split at hop)<;>first|(cases hop;done)|(simp at hop;done)|(split at hop<;>cases hop;done))
def zw0 (P:Program) (d:Option Nat) (f:AV) (args:List AO) (q:Nat) (ρ:Env) (L:Hp) (σ:List Hp) (G:Gh) (K:St→Prop):Prop :=
 match f with
 | .d (.yld l) =>
  (match zx ρ args with
  | none=>False
  | some vs =>
   if q=0 then zk2 P l vs (L::σ) G (fun r lv G'=>match lv with|L'::σ'=>K (put ρ d r,L',σ',G')|[]=>False)
   else 3≤q∧zk2 P l vs (L::σ) G (fun r lv G'=>lv=L::σ∧(q=3→zjk G G')∧K (put ρ d r,L,σ,G')))
 | .d (.bnd g xs) =>
  (match zx ρ args with
  | none=>False
  | some vs =>
   if q=0 then zbb P g ((xs++vs).map .d) (L::σ) G (fun r lv G'=>match lv with|L'::σ'=>K (put ρ d r,L',σ',G')|[]=>False)
   else zbb P g ((xs++vs).map .d) [] G (fun r lv G'=>lv=[]∧(q=1∨q=3→zjk G G')∧K (put ρ d r,L,σ,G')))
 | _=>False
def zdl (P:Program) (d:Option Nat) (f:AO) (args:List AO) (q:Nat) (ρ:Env) (L:Hp) (σ:List Hp) (G:Gh) (K:St→Prop):Prop :=
 match target (ev ρ f) with
 | none=>zw0 P d (ev ρ f) args q ρ L σ G K
 | some (g,caps) =>
  if q=0 then zbb P g ((args.map (ev ρ)++caps).map sh) (L::σ) G (fun r lv G'=>match lv with|L'::σ'=>K (put ρ d r,L',σ',G')|[]=>False)
  else if 3≤q then zbb P g ((args.map (ev ρ)++caps).map sh) (L::σ) G (fun r lv G'=>lv=L::σ∧(q=3→zjk G G')∧K (put ρ d r,L,σ,G'))
  else ∃ cs,caps=cs.map .d∧match zx ρ args with
   | none=>False
   | some vs=>zbb P g ((vs++cs).map .d) [] G (fun r lv G'=>lv=[]∧(q=1→zjk G G')∧K (put ρ d r,L,σ,G'))
def zbm (P:Program) (d:Option Nat) (op:AOp) (ρ:Env) (L:Hp) (σ:List Hp) (G:Gh) (K:St→Prop):Prop :=
 match op with
 | .call f args q=>zdl P d f args q ρ L σ G K
 | op=>zce d op ρ L σ G K
def zjm (ls:List RL) (ρ:Env) (σ:List Hp) (G:Gh) (st:St):Prop:=∀ r∈ls,r.val st.1 st.2.2.1 st.2.2.2=r.val ρ σ G
def zax (P:Program) (o:AI) (ρ:Env) (L:Hp) (σ:List Hp) (G:Gh) (K:St→Prop):Prop :=
 match o.op with
 | .kp ls op=>zbm P o.dst op ρ L σ G fun st=>zjm ls ρ σ G st∧K st
 | .call f args q=>zdl P o.dst f args q ρ L σ G K
 | op=>zce o.dst op ρ L σ G K
def zaf (P:Program) (o:AI) (ρ:Env) (L:Hp) (σ:List Hp) (G:Gh) (K:St→Prop):Prop :=
 match o.guard with
 | none=>zax P o ρ L σ G K
 | some (t,want)=>∃ r,zh4 (ρ t) want=some r∧if r=true then zax P o ρ L σ G K else K (put ρ o.dst .skp,L,σ,G)
def zaq (P:Program):List AI→Env→Hp→List Hp→Gh→(St→Prop)→Prop
 | [],ρ,L,σ,G,K=>K (ρ,L,σ,G)
 | o::os,ρ,L,σ,G,K=>zaf P o ρ L σ G fun st=>zaq P os st.1 st.2.1 st.2.2.1 st.2.2.2 K
structure zbf [DD] (S:Stb) (ms:List (Nat→Nat)) (base:Nat) (O:Nat→Prop) (σ:List Hp) (a:Act) (w:World) (st:St) (a':Act) (w':World):Prop where
 ex:∃ S' m' ow',Rel S' (m'::ms.tail) ow' base O st.1 st.2.1 st.2.2.1 st.2.2.2 a' w'∧Evo base O S w S' w'
 sh:zah σ st.2.2.1
 sz:a'.tmps.size=a.tmps.size
theorem z3f [DD] {c:Ctx} {rd:Option Nat} (h:Rel S ms ow base O ρ L σ G a w) {ops:Array Oper} {o:Oper} {ai:AI} (ho:zpy c ops o=some ai) (hnt:c.nt≤a.tmps.size)
 {K':St→Prop} (hs:zax c.P ai ρ L σ G K') {K:Act→World→Prop} {Q:Exit→Act→World→Prop} (hK:∀ st a' w',K' st→zbf S ms base O σ a w st a' w'→K a' w'):o.wpIn (FW rd) 0 c.P a w K Q:=by
 obtain ⟨hop,hdst',hdn,_⟩:=zjl ho
 have hd:∀ i,o.dst=some i→i<a.tmps.size:=fun i hi=>Nat.lt_of_lt_of_le (hdn i hi) hnt
 generalize haop:ai.op=aop at hop
 simp only [zax,hdst',haop] at hs
 have hnd:∀ cl,o.op≠.defer cl:=fun cl e=>by rw [e] at hop;exact zse hop
 have wpin:o.uponIn (FW rd) 0 c.P a K Q ((execOp a.eval o).run c.P w)→o.wpIn (FW rd) 0 c.P a w K Q:=fun h=>⟨fun _ _=>trivial,by rw [Oper.semAt_eq _ _ _ hnd];exact h⟩
 have ofStep:∀ st,K' st→zc9 c.P S ms ow base O σ a w o st→o.wpIn (FW rd) 0 c.P a w K Q:=by
  intro st hk' ⟨v,w',S',m',ow',hr,hrel,hevo,hsh⟩
  have hk:=hK st (a.put o.dst v) w' hk' ⟨⟨S',m',ow',hrel,hevo⟩,hsh,zda⟩
  refine wpin ?_
  rcases hr with hr|⟨hr,rfl⟩
  · rw [hr];exact hk
  · rw [hr];exact hk
 have other:(cOp c o.dst o.type o.op=some aop∧aop.old=true)→zce o.dst aop ρ L σ G K'→o.wpIn (FW rd) 0 c.P a w K Q:=by
  intro hop hs'
  obtain ⟨st,hk',hst⟩:=zx3 h hop.1 hop.2 hd hs'
  exact ofStep st hk' hst
 cases aop with
 | gd k as =>
  rcases zej hop with hop|⟨_,e⟩|⟨e,_⟩
  · simp only [zce,zm] at hs
    obtain ⟨st,hst,hk'⟩:=hs
    split at hst
    · rename_i vs hvs
      simp only [Option.map_eq_some_iff] at hst
      obtain ⟨⟨r,G1⟩,hg,e⟩:=hst
      subst e
      exact ofStep _ hk' (z97 h hop hd hvs hg)
    · cases hst
  · cases e
  · cases e
    simp [zce,zm,zx,gdD] at hs
 | gn k as =>
  rcases zej hop with hop|⟨_,e⟩|⟨e,_⟩
  · simp only [zce] at hs
    split at hs
    · rename_i vs hvs
      obtain ⟨r,G1,hk',hst⟩:=z98 h hop hd hvs hs
      exact ofStep _ hk' hst
    · exact hs.elim
  · cases e
  · cases e
 | call f args q =>
  have hop:cOp c o.dst o.type o.op=some (.call f args q):=by
   rcases zej hop with hop|⟨hop,_⟩|⟨e,_⟩
   · rcases zfp hop with ⟨_,_,e⟩|⟨_,_,e⟩<;>cases e
   · exact hop
   · cases e
  have bndC:∀ (g:FuncId) (xs:List D) (fv:Array Value) (args':Array Operand),cOs args'.toList=some args→zz S xs fv.toList →
   (ze3 c.P g→(execOp a.eval o).run c.P w=.ok (.enter g (fv++args'.map a.eval)) w) →
   (∀ {v w'},(callFunc g (fv++args'.map a.eval)).run c.P w=.ok (.value v) w'→(execOp a.eval o).run c.P w=.ok (.value v) w') →
   zw0 c.P o.dst (.d (.bnd g xs)) args q ρ L σ G K'→o.wpIn (FW rd) 0 c.P a w K Q:=by
   intro g xs fv args' hargs hxf hrunE hrunV hs
   simp only [zw0] at hs
   split at hs
   · exact hs.elim
   · rename_i vs hvs
     have hds:=zg8 h.tmpT args'.toList args vs hargs hvs
     have hall2:zz S (xs++vs) (fv++args'.map a.eval).toList:=by
      have:=hxf.append hds
      simpa using this
     have zix:∀ {R:Value→World→Prop},zhr c.P g (fv++args'.map a.eval) w R→(∀ v w',R v w'→K (a.put o.dst v) w')→o.wpIn (FW rd) 0 c.P a w K Q:=by
      intro R hall hR
      refine wpin ?_
      rcases hall with ⟨hcd,hall⟩|⟨v,w',hrun,hr⟩
      · rw [hrunE hcd]
        refine ⟨fun e=>(by cases e),?_⟩
        have hin:CallsIn (FW rd) (0 - 1) c.P g (fv++args'.map a.eval) w _:=callsIn_wide (n:=0 - 1).2 hall
        refine hin.mono fun e w' ⟨v,he,hr⟩=>?_
        subst he
        exact hR _ _ hr
      · rw [hrunV hrun]
        exact hR _ _ hr
     have hsz:(fv++args'.map a.eval).size=((xs++vs).map AV.d).length:=by have:=hall2.1;simp at this ⊢;omega
     have hva:∀ (ms':List (Nat→Nat)) (σ':List Hp) (i:Nat),VR S σ' ms' (ofL ((xs++vs).map AV.d) i) ((fv++args'.map a.eval).getD i undef):=fun ms' σ' i=>by
      simp only [ofL,List.getD_eq_getElem?_getD,List.getElem?_map]
      cases hvi:(xs++vs)[i]? with
      | none=>trivial
      | some y =>
       obtain ⟨v,hv,hvr⟩:=hall2.get hvi
       have hv':(fv++args'.map a.eval)[i]?=some v:=by rw [← Array.getElem?_toList];exact hv
       have:(fv++args'.map a.eval).getD i undef=v:=by simp [Array.getD_eq_getD_getElem?,hv']
       rw [this]
       exact hvr
     have hno:∀ i sz es,ofL ((xs++vs).map AV.d) i≠.own sz es:=fun i sz es=>by
      simp only [ofL,List.getD_eq_getElem?_getD,List.getElem?_map]
      cases (xs++vs)[i]? <;> simp
     by_cases hq0:q=0
     · subst hq0
       rw [if_pos rfl] at hs
       refine zix (hs S ms w (fv++args'.map a.eval) (fun _=>0) hsz h.h (hva _ _) hno) fun v w' ⟨S',r,lv,G',hq,hrel,hevo,hsh,hret,hG⟩=>?_
       cases lv with
       | nil=>exact hq.elim
       | cons L' σ' =>
        obtain ⟨hr1,hr2⟩:=h.called hrel hevo hsh hG
        obtain ⟨ow',hp⟩:=hr1.putRet (fun k s b cs hl=>by
         obtain ⟨cs',hl'⟩:=zdf hsh hl
         exact h.h.block_lt hl') (fun i sz es g hi gi=>by
         have:=h.own hi
         rw [gi] at this
         exact this.lt) h.bas hret hd
        obtain ⟨m,hm⟩:=za8 h
        exact hK _ _ _ hq ⟨⟨S',m,ow',by rw [← hm];exact hp,hr2⟩,hsh.tail,zda⟩
     · rw [if_neg hq0] at hs
       refine zix (hs S [] w (fv++args'.map a.eval) (fun _=>0) hsz
        ⟨h.h.sub,rfl,fun ⟨x,m,h1,_⟩=>by simp at h1,fun ⟨x,m,h1,_⟩=>by simp at h1,fun ⟨x,m,h1,_⟩=>by simp at h1,h.h.gbox,h.h.gnos,fun _ ⟨x,m,h1,_⟩=>by simp at h1,h.h.x,h.h.tab⟩
        (hva _ _) hno) fun v w' ⟨S',r,lv,G',⟨hlv,_,hq⟩,hrel,hevo,hsh,hret,hG⟩=>?_
       subst hlv
       obtain ⟨hr1,hr2⟩:=h.calledQ hrel hevo hG
       obtain ⟨ow',hp⟩:=hr1.putRet (fun k s b cs hl=>h.h.block_lt hl) (fun i sz es g hi gi=>by
        have:=h.own hi
        rw [gi] at this
        exact this.lt) h.bas hret hd
       obtain ⟨m,hm⟩:=za8 h
       exact hK _ _ _ hq ⟨⟨S',m,ow',by rw [← hm];exact hp,hr2⟩,zah.refl _,zda⟩
  rcases zw9 hop with ⟨f',args',ats,hoc,hf,hargs⟩|⟨i,name,args',ats,hoc,rfl,hargs⟩
  rotate_left
  · -- a method of an interface value
    simp only [zdl] at hs
    have hvi:=h.tmp i
    cases hti:ρ i with
    | d x =>
     rw [hti] at hvi
     cases x with
     | ifc t b off =>
      have hev:a.eval (.tmp i)=.iface t (.pointer (some ⟨b,off,none⟩)):=by
       have hv:VRD S (.ifc t b off) (a.tmps.getD i undef):=hvi
       show a.tmps.getD i undef=_
       generalize a.tmps.getD i undef=u at hv
       cases hv;rfl
      cases hlk:(zw3 c.P name).lookup t with
      | some g =>
       have hevm:ev ρ (.m i (zw3 c.P name))=.d (.bnd g [.gp b off]):=by simp only [ev,hti,hlk]
       rw [hevm] at hs
       have hrm:=fun {w:World}=>zt0 (P:=c.P) (w:=w) hoc hev (zw8 hlk)
       refine bndC g [.gp b off] #[.pointer (some ⟨b,off,none⟩)] args' hargs (zz.cons (VRD.gp b off) zz.nil) (fun hcd=>?_) (fun hrun=>?_) hs
       · rw [hrm];exact zbp hcd
       · rw [hrm];exact hrun
      | none =>
       have hevm:ev ρ (.m i (zw3 c.P name))=.undef:=by simp only [ev,hti,hlk]
       rw [hevm] at hs
       exact hs.elim
     | _ =>
      have hevm:ev ρ (.m i (zw3 c.P name))=.undef:=by simp only [ev,hti]
      rw [hevm] at hs
      exact hs.elim
    | _ =>
     have hevm:ev ρ (.m i (zw3 c.P name))=.undef:=by simp only [ev,hti]
     rw [hevm] at hs
     exact hs.elim
  have hfv:=za h.tmpT hf
  simp only [zdl] at hs
  split at hs
  · -- what a range zbv a function hands zbv
    unfold zw0 at hs
    split at hs
    · rename_i l el
      rw [el] at hfv
      have hfe:a.eval f'=.func (.yield l) #[] #[]:=by
       have hfv':VRD S (.yld l) (a.eval f'):=hfv
       generalize a.eval f'=u at hfv'
       cases hfv';rfl
      split at hs
      · exact hs.elim
      · rename_i vs hvs
        have hds:zz S vs (args'.map a.eval).toList:=by
         have:=zg8 h.tmpT args'.toList args vs hargs hvs
         simpa using this
        have outY:∀ {R:Value→World→Prop},(∃ f tmps assign body,(Instr.yield l (args'.map a.eval)).run c.P w=.ok (.round l f tmps assign body) w∧RoundIn Fence.wide 0 c.P l f tmps assign body w fun e w'=>∃ v,e=.returned v∧R v w') →
         (∀ v w',R v w'→K (a.put o.dst v) w')→o.wpIn (FW rd) 0 c.P a w K Q:=by
         intro R ⟨f0,tmps,assign,body,hrun,hround⟩ hR
         refine wpin ?_
         have:(execOp a.eval o).run c.P w=.ok (.round l f0 tmps assign body) w:=by
          simp [execOp,hoc,resolve,hfe,Deferred.ofValue,invoke,hrun]
         rw [this]
         refine ⟨fun e=>(by cases e),hround.mono fun e w' ⟨v,he,hr⟩=>?_⟩
         subst he
         exact hR v w' hr
        by_cases hq0:q=0
        · subst hq0
          rw [if_pos rfl] at hs
          refine outY (hs S ms w (args'.map a.eval) h.h hds) fun v w' ⟨S',r,lv,G',hq,hrel,hevo,hsh,hret,hG⟩=>?_
          cases lv with
          | nil=>exact hq.elim
          | cons L' σ' =>
           obtain ⟨hr1,hr2⟩:=h.called hrel hevo hsh hG
           obtain ⟨ow',hp⟩:=hr1.putRet (fun k s b cs hl=>by
            obtain ⟨cs',hl'⟩:=zdf hsh hl
            exact h.h.block_lt hl') (fun i sz es g hi gi=>by
            have:=h.own hi
            rw [gi] at this
            exact this.lt) h.bas hret hd
           obtain ⟨m,hm⟩:=za8 h
           exact hK _ _ _ hq ⟨⟨S',m,ow',by rw [← hm];exact hp,hr2⟩,hsh.tail,zda⟩
        · rw [if_neg hq0] at hs
          refine outY (hs.2 S ms w (args'.map a.eval) h.h hds) fun v w' ⟨S',r,lv,G',⟨hlv,_,hq⟩,hrel,hevo,hsh,hret,hG⟩=>?_
          subst hlv
          obtain ⟨hr1,hr2⟩:=h.called hrel hevo hsh hG
          obtain ⟨ow',hp⟩:=hr1.putRet (fun k s b cs hl=>h.h.block_lt hl) (fun i sz es g hi gi=>by
           have:=h.own hi
           rw [gi] at this
           exact this.lt) h.bas hret hd
          obtain ⟨m,hm⟩:=za8 h
          exact hK _ _ _ hq ⟨⟨S',m,ow',by rw [← hm];exact hp,hr2⟩,hsh.tail,zda⟩
    · rename_i g xs eb
      rw [eb] at hfv
      obtain ⟨fv,hfe,hxf,_⟩:=VRD.bnd_inv hfv
      exact bndC g xs fv args' hargs hxf (fun hcd=>zty (P:=c.P) (w:=w) hoc hfe hcd) (fun hrun=>zsb (P:=c.P) (w:=w) hoc hfe hrun) hs
    · exact hs.elim
  · rename_i g caps htg
    obtain ⟨hcl,hcg⟩:=zy8 h.tmpT args'.toList args hargs
    have hcv:∃ cv:Array Value,a.eval f'=.func (.func g) #[] cv∧cv.size=caps.length∧∀ (j:Nat) (x:AV),caps[j]?=some x→VR S (L::σ) ms x (cv.getD j undef):=by
     unfold target at htg
     split at htg
     · rename_i g' e
       rw [e] at hfv
       cases htg
       exact ⟨#[],VRD.fn_inv hfv,rfl,fun j x hx=>by simp at hx⟩
     · rename_i g' ds e
       rw [e] at hfv
       cases htg
       obtain ⟨cv,h1,h2,_⟩:=VRD.clo_inv hfv
       refine ⟨cv,h1,by have:=h2.1;simpa using this,fun j x hx=>?_⟩
       rw [List.getElem?_map] at hx
       cases hq:ds[j]? with
       | none=>rw [hq] at hx;cases hx
       | some y =>
        rw [hq] at hx
        cases hx
        obtain ⟨v,hv,hr⟩:=h2.get hq
        have hv':cv[j]?=some v:=by simpa using hv
        have:cv.getD j undef=v:=by simp [Array.getD_eq_getD_getElem?,hv']
        rw [this];exact hr
     · rename_i g' cs e
       rw [e] at hfv
       cases htg
       obtain ⟨cv,h1,h2,h3⟩:=hfv
       refine ⟨cv,h1,by simpa using h2,fun j x hx=>?_⟩
       rw [List.getElem?_map] at hx
       cases hq:cs[j]? with
       | none=>simp [hq] at hx
       | some q =>
        simp [hq] at hx
        subst hx
        have hlt:j<cv.size:=by rw [h2];exact (List.getElem?_eq_some_iff.1 hq).1
        have:=h3 j q (cv.getD j undef) hq (by simp [hlt])
        exact this
     · cases htg
    obtain ⟨cv,hfe,hcvs,hcvr⟩:=hcv
    have out:∀ {R:Value→World→Prop},zhr c.P g (args'.map a.eval++cv) w R→(∀ v w',R v w'→K (a.put o.dst v) w')→o.wpIn (FW rd) 0 c.P a w K Q:=by
     intro R hall hR
     refine wpin ?_
     rcases hall with ⟨hcd,hall⟩|⟨v,w',hrun,hr⟩
     · rw [zw7 (P:=c.P) (w:=w) hoc hfe hcd]
       refine ⟨fun e=>(by cases e),?_⟩
       have hin:CallsIn (FW rd) (0 - 1) c.P g (args'.map a.eval++cv) w _:=callsIn_wide (n:=0 - 1).2 hall
       refine hin.mono fun e w' ⟨v,he,hr⟩=>?_
       subst he
       exact hR _ _ hr
     · rw [ztz (P:=c.P) (w:=w) hoc hfe hrun]
       exact hR _ _ hr
    by_cases hq3:q=0∨3≤q
    · -- it sees the boxes
      have hs:zbb c.P g ((args.map (ev ρ)++caps).map sh) (L::σ) G (fun r lv G'=>match lv with|L'::σ'=>K' (put ρ o.dst r,L',σ',G')|[]=>False):=by
       rcases hq3 with rfl|h3
       · simpa using hs
       · rw [if_neg (by omega),if_pos h3] at hs
         exact hs.mono fun r lv G' ⟨h1,_,h3⟩=>by subst h1;exact h3
      have hall:=hs S ms w (args'.map a.eval++cv) (fun _=>0) (by simp only [List.length_map,List.length_append,Array.size_append,Array.size_map,hcvs];simp only [List.length_map] at hcl;rw [hcl];simp) h.h (fun i=>by
       simp only [ofL,List.getD_eq_getElem?_getD,List.getElem?_map]
       rcases Nat.lt_or_ge i args'.size with hi|hi
       · obtain ⟨x,hx,hv⟩:=hcg i args'[i] (by simp [hi])
         rw [List.getElem?_append_left (by rw [hcl];simpa using hi),hx]
         have:(args'.map a.eval++cv).getD i undef=a.eval args'[i]:=by
          simp only [Array.getD_eq_getD_getElem?]
          rw [Array.getElem?_append_left (by simpa using hi)]
          simp [hi]
         rw [this]
         exact hv.sh _
       · rw [List.getElem?_append_right (by rw [hcl];simpa using hi),hcl]
         simp only [Array.length_toList]
         cases hci:caps[i - args'.size]? with
         | none=>trivial
         | some x =>
          have hv:=hcvr _ x hci
          have:(args'.map a.eval++cv).getD i undef=cv.getD (i - args'.size) undef:=by
           simp only [Array.getD_eq_getD_getElem?]
           rw [Array.getElem?_append_right (by simpa using hi)]
           simp
          rw [this]
          exact hv.sh _) (fun i sz es=>by
       simp only [ofL,List.getD_eq_getElem?_getD,List.getElem?_map]
       cases (args.map (ev ρ)++caps)[i]? with
       | none=>simp
       | some x=>exact zld sz es)
      refine out hall fun v w' ⟨S',r,lv,G',hq,hrel,hevo,hsh,hret,hG⟩=>?_
      cases lv with
      | nil=>exact hq.elim
      | cons L' σ' =>
       obtain ⟨hr1,hr2⟩:=h.called hrel hevo hsh hG
       obtain ⟨ow',hp⟩:=hr1.putRet (fun k s b cs hl=>by
        obtain ⟨cs',hl'⟩:=zdf hsh hl
        exact h.h.block_lt hl') (fun i sz es g hi gi=>by
        have:=h.own hi
        rw [gi] at this
        exact this.lt) h.bas hret hd
       obtain ⟨m,hm⟩:=za8 h
       exact hK _ _ _ hq ⟨⟨S',m,ow',by rw [← hm];exact hp,hr2⟩,hsh.tail,zda⟩
    · -- it sees no box
      rw [if_neg (by omega),if_neg (by omega)] at hs
      obtain ⟨cs,hc0,hs⟩:=hs
      subst hc0
      split at hs
      · exact hs.elim
      · rename_i vs hvs
        have hds:=zg8 h.tmpT args'.toList args vs hargs hvs
        have hcs:zz S cs cv.toList:=by
         refine ⟨by simpa using hcvs,fun j x v hj hv=>?_⟩
         have h1:=hcvr j (.d x) (by rw [List.getElem?_map,hj];rfl)
         have hv':cv[j]?=some v:=by simpa using hv
         have e:cv.getD j undef=v:=by simp [Array.getD_eq_getD_getElem?,hv']
         rw [e] at h1;exact h1
        have hall2:zz S (vs++cs) (args'.map a.eval++cv).toList:=by
         have:=hds.append hcs
         simpa using this
        have hall:=hs S [] w (args'.map a.eval++cv) (fun _=>0) (by have:=hall2.1;simp at this ⊢;omega)
         ⟨h.h.sub,rfl,fun ⟨x,m,h1,_⟩=>by simp at h1,fun ⟨x,m,h1,_⟩=>by simp at h1,fun ⟨x,m,h1,_⟩=>by simp at h1,h.h.gbox,h.h.gnos,fun _ ⟨x,m,h1,_⟩=>by simp at h1,h.h.x,h.h.tab⟩
         (fun i=>by
           simp only [ofL,List.getD_eq_getElem?_getD,List.getElem?_map]
           cases hvi:(vs++cs)[i]? with
           | none=>trivial
           | some y =>
            obtain ⟨v,hv,hvr⟩:=hall2.get hvi
            have hv':(args'.map a.eval++cv)[i]?=some v:=by rw [← Array.getElem?_toList];exact hv
            have:(args'.map a.eval++cv).getD i undef=v:=by simp [Array.getD_eq_getD_getElem?,hv']
            rw [this]
            exact hvr) (fun i sz es=>by
           simp only [ofL,List.getD_eq_getElem?_getD,List.getElem?_map]
           cases (vs++cs)[i]? <;> simp)
        refine out hall fun v w' ⟨S',r,lv,G',⟨hlv,_,hq⟩,hrel,hevo,hsh,hret,hG⟩=>?_
        subst hlv
        obtain ⟨hr1,hr2⟩:=h.calledQ hrel hevo hG
        obtain ⟨ow',hp⟩:=hr1.putRet (fun k s b cs hl=>h.h.block_lt hl) (fun i sz es g hi gi=>by
         have:=h.own hi
         rw [gi] at this
         exact this.lt) h.bas hret hd
        obtain ⟨m,hm⟩:=za8 h
        exact hK _ _ _ hq ⟨⟨S',m,ow',by rw [← hm];exact hp,hr2⟩,zah.refl _,zda⟩
 | kp ls op' =>
  exfalso
  rcases zej hop with hop|⟨_,e⟩|⟨e,_⟩
  · rcases zfp hop with ⟨_,_,e⟩|⟨_,_,e⟩<;>cases e
  · cases e
  · cases e
 | _ =>
  refine other ?_ hs
  rcases zej hop with hop|hop|⟨e,_⟩
  · rcases zfp hop with ⟨_,_,e⟩|⟨_,_,e⟩<;>cases e
  · exact hop
  · cases e
end
end Go.E2
namespace Go.E2
theorem zle {d:Option Nat} {sz by_:Nat} {z olds ys:List D} {n m:Nat} {ρ:Env} {L:Hp} {σ:List Hp} {G:Gh} {K K':St→Prop} (hk:∀ st,K st→K' st) (h:zs0 d sz by_ z olds ys n m ρ L σ G K):zs0 d sz by_ z olds ys n m ρ L σ G K' :=
 ⟨h.1,fun b cap h1 h2=>hk _ (h.2 b cap h1 h2)⟩
theorem znl {d:Option Nat} {sz by_:Nat} {z ys:List D} {x:D} {m:Nat} {ρ:Env} {L:Hp} {σ:List Hp} {G:Gh} {K K':St→Prop} (hk:∀ st,K st→K' st) (h:zs1 d sz by_ z x m ys ρ L σ G K):zs1 d sz by_ z x m ys ρ L σ G K':=by
 unfold zs1 at h ⊢
 split at h
 · split at h
   · rename_i hm;rw [if_pos hm];exact hk _ h
   · rename_i hm;rw [if_neg hm];exact zle hk h
 · split at h
   · obtain ⟨h0,h⟩:=h
     refine ⟨h0,?_⟩
     split at h
     · rename_i hm;rw [if_pos hm];exact ⟨h.1,hk _ h.2⟩
     · rename_i hm;rw [if_neg hm];exact zle hk h
   · exact h.elim
 · exact h.elim
theorem zl3 {k:GN} {vs:List D} {G:Gh} {R R':AV→Gh→Prop} (h:gnW k vs G R) (hr:∀ r G',R r G'→R' r G'):gnW k vs G R':=by
 unfold gnW at h ⊢
 split at h
 · exact fun r h0=>hr _ _ (h r h0)
 · exact ⟨h.1,fun b h0=>hr _ _ (h.2 b h0)⟩
 · exact fun b h0=>hr _ _ (h b h0)
 · exact ⟨h.1,h.2.1,h.2.2.1,fun b h0=>hr _ _ (h.2.2.2 b h0)⟩
 · split at h
   · exact fun r h0=>hr _ _ (h r h0)
   · split at h
     · exact fun r h0=>hr _ _ (h r h0)
     · exact h.elim
   · exact h.elim
 · split at h
   · exact hr _ _ h
   · split at h
     · exact ⟨h.1,fun h0=>hr _ _ (h.2.1 h0),fun e h1 h2=>hr _ _ (h.2.2 e h1 h2)⟩
     · exact h.elim
   · exact h.elim
 · exact h.elim
theorem zlf {d:Option Nat} {op:AOp} {ρ:Env} {L:Hp} {σ:List Hp} {G:Gh} {K K':St→Prop} (hk:∀ st,K st→K' st) (h:zce d op ρ L σ G K):zce d op ρ L σ G K':=by
 have dflt:(∃ st,zm d op ρ L σ G=some st∧K st)→∃ st,zm d op ρ L σ G=some st∧K' st:=fun ⟨st,h1,h2⟩=>⟨st,h1,hk st h2⟩
 cases op with
 | appG sz b z x y =>
  simp only [zce] at h ⊢
  split at h
  · split at h
    · exact znl hk h
    · exact h.elim
  · exact h.elim
 | appZ sz b z x y =>
  simp only [zce] at h ⊢
  split at h
  · exact ⟨h.1,h.2.1,znl hk h.2.2⟩
  · exact h.elim
 | mkG sz n z ps =>
  simp only [zce] at h ⊢
  split at h
  · exact ⟨h.1,fun b hb=>hk _ (h.2 b hb)⟩
  · exact h.elim
 | isnil neg x =>
  simp only [zce] at h ⊢
  split at h
  · exact fun t=>hk _ (h t)
  · exact dflt h
 | gn k as =>
  simp only [zce] at h ⊢
  split at h
  · exact zl3 h fun r G' hr=>hk _ hr
  · exact h.elim
 | _=>exact dflt h
theorem zt1 {P:Program} {d:Option Nat} {f:AV} {args:List AO} {q:Nat} {ρ:Env} {L:Hp} {σ:List Hp} {G:Gh} {K K':St→Prop} (hk:∀ st,K st→K' st) (h:zw0 P d f args q ρ L σ G K):zw0 P d f args q ρ L σ G K':=by
 unfold zw0 at h ⊢
 split at h
 · split at h
   · exact h.elim
   · split at h
     · rename_i hq
       rw [if_pos hq]
       exact h.mono fun r lv G' hr=>by
        cases lv with
        | nil=>exact hr
        | cons L' σ'=>exact hk _ hr
     · rename_i hq
       rw [if_neg hq]
       exact ⟨h.1,h.2.mono fun r lv G' hr=>⟨hr.1,hr.2.1,hk _ hr.2.2⟩⟩
 · split at h
   · exact h.elim
   · split at h
     · rename_i hq
       rw [if_pos hq]
       exact h.mono fun r lv G' hr=>by
        cases lv with
        | nil=>exact hr
        | cons L' σ'=>exact hk _ hr
     · rename_i hq
       rw [if_neg hq]
       exact h.mono fun r lv G' hr=>⟨hr.1,hr.2.1,hk _ hr.2.2⟩
 · exact h.elim
theorem zhs {P:Program} {d:Option Nat} {f:AO} {args:List AO} {q:Nat} {ρ:Env} {L:Hp} {σ:List Hp} {G:Gh} {K K':St→Prop} (hk:∀ st,K st→K' st) (h:zdl P d f args q ρ L σ G K):zdl P d f args q ρ L σ G K':=by
 unfold zdl at h ⊢
 split at h
 · exact zt1 hk h
 · split at h
   · rename_i hq
     rw [if_pos hq]
     exact h.mono fun r lv G' hr=>by
      cases lv with
      | nil=>exact hr
      | cons L' σ'=>exact hk _ hr
   · rename_i hq
     rw [if_neg hq]
     split at h
     · rename_i h3
       rw [if_pos h3]
       exact h.mono fun r lv G' hr=>⟨hr.1,hr.2.1,hk _ hr.2.2⟩
     · rename_i h3
       rw [if_neg h3]
       obtain ⟨cs,h1,h⟩:=h
       refine ⟨cs,h1,?_⟩
       split at h
       · exact h.elim
       · exact h.mono fun r lv G' hr=>⟨hr.1,hr.2.1,hk _ hr.2.2⟩
theorem zar {P:Program} {d:Option Nat} {op:AOp} {ρ:Env} {L:Hp} {σ:List Hp} {G:Gh} {K K':St→Prop} (hk:∀ st,K st→K' st) (h:zbm P d op ρ L σ G K):zbm P d op ρ L σ G K':=by
 unfold zbm at h ⊢
 split at h
 · exact zhs hk h
 · exact zlf hk h
theorem zij {P:Program} {o:AI} {ρ:Env} {L:Hp} {σ:List Hp} {G:Gh} {K K':St→Prop} (hk:∀ st,K st→K' st) (h:zax P o ρ L σ G K):zax P o ρ L σ G K':=by
 unfold zax at h ⊢
 split at h
 · exact zar (fun st hst=>⟨hst.1,hk st hst.2⟩) h
 · exact zhs hk h
 · exact zlf hk h
theorem zdg {P:Program} {o:AI} {ρ:Env} {L:Hp} {σ:List Hp} {G:Gh} {K K':St→Prop} (hk:∀ st,K st→K' st) (h:zaf P o ρ L σ G K):zaf P o ρ L σ G K':=by
 unfold zaf at h ⊢
 split at h
 · exact zij hk h
 · obtain ⟨b,hb,h⟩:=h
   refine ⟨b,hb,?_⟩
   split at h
   · rename_i e;rw [if_pos e];exact zij hk h
   · rename_i e;rw [if_neg e];exact hk _ h
section
variable {P:Program} {S:Stb} {ms:List (Nat→Nat)} {ow:Nat→Option Nat} {base:Nat} {O:Nat→Prop} {ρ:Env} {L:Hp} {σ:List Hp} {G:Gh} {a:Act} {w:World}
theorem zbf.refl [DD] (h:Rel S ms ow base O ρ L σ G a w):zbf S ms base O σ a w (ρ,L,σ,G) a w:=by
 obtain ⟨m,hm⟩:=za8 h
 exact ⟨⟨S,m,ow,by rw [← hm];exact h,Evo.refl _ _ _ _⟩,zah.refl _,rfl⟩
theorem z3g [DD] {c:Ctx} {rd:Option Nat} (h:Rel S ms ow base O ρ L σ G a w) {ops:Array Oper} {i:Nat} {o:Oper} (hi:ops[i]?=some o)
 {ai:AI} (ho:zpy c ops o=some ai) (hnt:c.nt≤a.tmps.size) {K':St→Prop} (hs:zaf c.P ai ρ L σ G K') {K:Act→World→Prop} {Q:Exit→Act→World→Prop} (hK:∀ st a' w',K' st→zbf S ms base O σ a w st a' w'→K a' w'):wpOpIn (FW rd) 0 c.P ops Q i K a w:=by
 obtain ⟨_,hdst,hdn,hg⟩:=zjl ho
 have run:zax c.P ai ρ L σ G K'→o.wpIn (FW rd) 0 c.P a w K Q:=fun hr=>z3f h ho hnt hr hK
 unfold wpOpIn
 simp only [hi]
 rcases hg with ⟨g1,g2⟩|⟨j,want,t,g1,g2,g3⟩
 · simp only [zaf,g2] at hs
   simp only [Region.wanted,g1,if_true]
   exact run hs
 · simp only [zaf,g3] at hs
   obtain ⟨r,hr,hs⟩:=hs
   have hv:=h.tmp t
   have hy:(yielded ops a.tmps j == some want)=r:=by
    unfold zh4 at hr
    split at hr
    · rename_i b hb
      cases hr
      rw [hb] at hv
      have hv':=VRD.bool_inv hv
      have ht:a.tmps[t]?=some (.bool b):=by
       simp only [Array.getD_eq_getD_getElem?] at hv'
       cases hq:a.tmps[t]? with
       | none=>rw [hq] at hv';simp [undef] at hv'
       | some x=>rw [hq] at hv';simp at hv';rw [hv']
      unfold yielded
      rw [g2]
      simp [ht]
    · rename_i hb
      cases hr
      rw [hb] at hv
      have hv':a.tmps.getD t undef=Go.undef:=hv
      unfold yielded
      rw [g2]
      simp only [Array.getD_eq_getD_getElem?] at hv'
      cases hq:a.tmps[t]? with
      | none=>simp [hq]
      | some x=>rw [hq] at hv';simp at hv';subst hv';simp [hq,Go.undef]
    · cases hr
   simp only [Region.wanted,g1,hy]
   cases r with
   | true =>
    simp only [if_true] at hs ⊢
    exact run hs
   | false =>
    simp only [if_false,Bool.false_eq_true] at hs ⊢
    obtain ⟨m,hm⟩:=za8 h
    refine ⟨fun _ _=>trivial,hK _ _ _ hs ⟨⟨S,m,ow,?_,Evo.refl _ _ _ _⟩,zah.refl _,zda⟩⟩
    rw [← hm,hdst]
    exact h.put (x:=.skp) rfl (fun _ _ e=>by cases e) (fun i hi=>Nat.lt_of_lt_of_le (hdn i hi) hnt)
theorem zy9 [DD] {c:Ctx} {rd:Option Nat} {ops:Array Oper} {Q:Exit→Act→World→Prop}:∀ (l:List Oper) (as:List AI) (k:Nat),(∀ j,l[j]?=ops[k+j]?)→zf8 c ops l=some as →
 ∀ {S:Stb} {ms:List (Nat→Nat)} {ow:Nat→Option Nat} {ρ:Env} {L:Hp} {σ:List Hp} {G:Gh} {a:Act} {w:World} {K':St→Prop},Rel S ms ow base O ρ L σ G a w→c.nt≤a.tmps.size→zaq c.P as ρ L σ G K' →
 (∀ st a' w',K' st→zbf S ms base O σ a w st a' w'→Q .normal a' w')→wpOpsIn (FW rd) 0 c.P ops Q (List.range' k l.length) a w
 | [],as,k,hl,hc,S,ms,ow,ρ,L,σ,G,a,w,K',h,hnt,hr,hQ=>by
   simp [zf8] at hc
   subst hc
   exact hQ _ _ _ hr (zbf.refl h)
 | o::l,as,k,hl,hc,S,ms,ow,ρ,L,σ,G,a,w,K',h,hnt,hr,hQ=>by
   simp only [zf8] at hc
   split at hc
   · rename_i x xs hx hxs
     cases hc
     simp only [zaq] at hr
     simp only [List.length_cons,List.range'_succ]
     rw [wpOpsIn_cons]
     refine z3g h (by simpa using (hl 0).symm) hx hnt hr fun st1 a1 w1 hk1 ha1=>?_
     have hsz:=ha1.sz
     have ha1':=ha1
     obtain ⟨⟨S',m',ow',hr1,he1⟩,hs1,hz1⟩:=ha1'
     refine zy9 l xs (k+1) (fun j=>by have:=hl (j+1);simpa [Nat.add_assoc,Nat.add_comm 1 j] using this) hxs hr1 (by rw [hsz];exact hnt) hk1 fun st a' w' hk' ha'=>?_
     obtain ⟨⟨S'',m'',ow'',hr2,he2⟩,hs2,hz2⟩:=ha'
     exact hQ _ _ _ hk' ⟨⟨S'',m'',ow'',by simpa using hr2,he1.trans he2⟩,hs1.trans hs2,hz2.trans hz1⟩
   · cases hc
end
end Go.E2
namespace Go.E2
def AOp.nd:AOp→Bool
 | .isnil _ _=>true
 | .appG _ _ _ _ _=>true
 | .appZ _ _ _ _ _=>true
 | .mkG _ _ _ _=>true
 | .gn _ _=>true
 | _=>false
def AOp.isNil:AOp→Bool
 | .isnil _ _=>true
 | _=>false
def AOp.isNewN:AOp→Bool
 | .gn k _=>k.new
 | _=>false
theorem zjk.set {G:Gh} {b:Nat} (h:G b=none) (v:Option (List D)):zjk G (G.set b v) :=
 ⟨fun i u e=>by
   rw [Gh.set_c];unfold upd;split
   · rename_i hi;subst hi;rw [h] at e;cases e
   · exact e,fun _ _ e=>e⟩
theorem zjk.setM {G:Gh} {b:Nat} (h:G.m b=none) (v:Option MO):zjk G (G.setM b v) :=
 ⟨fun _ _ e=>e,fun i u e=>by
   rw [Gh.setM_m];unfold upd;split
   · rename_i hi;subst hi;rw [h] at e;cases e
   · exact e⟩
def ndW (op:AOp) (ρ:Env) (G:Gh) (R:AV→Gh→Prop):Prop :=
 match op with
 | .appG sz by_ z x y =>
  match ev ρ x,(ev ρ y).data with
  | .d x,some y=>(match zsz G sz y with|some (m,ys)=>zvb sz by_ z x m ys G R|none=>False)
  | _,_=>False
 | .appZ sz by_ z x n =>
  match ev ρ x,ev ρ n with
  | .d x,.d (.int _ m)=>0≤m∧m.toNat * by_≤mostBytes∧zvb sz by_ z x m.toNat (rep m.toNat z) G R
  | _,_=>False
 | .mkG sz n z ps =>
  match zx ρ (ps.map (·.2)) with
  | some vs =>
   (vs.all (zb sz) && zb sz z && (ps.all fun p=>p.1<n))=true ∧
   ∀ b,G b=none→R (.d (.gs b 0 n n)) (G.set b (some (zag ((ps.zip vs).foldl (fun es (p,v)=>es.set p.1 v) (List.replicate n z)))))
  | none=>False
 | .isnil neg x =>
  match (ev ρ x).data with
  | some (.list [])=>∀ t,R (.d (.bool t)) G
  | _=>∃ v,evP ρ [] G (.isnil neg x)=some v∧R v G
 | .gn k args =>
  match zx ρ args with
  | some vs=>gnW k vs G R
  | none=>False
 | _=>False
theorem zqm {d:Option Nat} {op:AOp} (hn:op.nd=true) {ρ:Env} {L:Hp} {σ:List Hp} {G:Gh} {K:St→Prop}:zce d op ρ L σ G K↔ndW op ρ G fun r G'=>K (put ρ d r,L,σ,G'):=by
 cases op with
 | appG a b c x y=>exact Iff.rfl
 | appZ a b c x y=>exact Iff.rfl
 | mkG a b c e=>exact Iff.rfl
 | gn k as=>exact Iff.rfl
 | isnil n x =>
  have e:zm d (.isnil n x) ρ L σ G=(evP ρ [] G (.isnil n x)).map fun v=>((put ρ d v,L,σ,G):St):=rfl
  simp only [zce,ndW,e]
  generalize evP ρ [] G (.isnil n x)=o
  generalize (ev ρ x).data=y
  split<;>cases o<;>simp
 | _=>cases hn
theorem zlg {sz by_:Nat} {z olds ys:List D} {n m:Nat} {G:Gh} {R R':AV→Gh→Prop} (h:zx7 sz by_ z olds ys n m G R) (hr:∀ r G',R r G'→R' r G'):zx7 sz by_ z olds ys n m G R':=⟨h.1,fun b cap h1 h2=>hr _ _ (h.2 b cap h1 h2)⟩
theorem zlh {sz by_:Nat} {z:List D} {x:D} {m:Nat} {ys:List D} {G:Gh} {R R':AV→Gh→Prop} (h:zvb sz by_ z x m ys G R) (hr:∀ r G',R r G'→R' r G'):zvb sz by_ z x m ys G R':=by
 unfold zvb at h ⊢
 cases x with
 | nilS =>
  simp only at h ⊢
  split at h
  · rename_i e;rw [if_pos e];exact hr _ _ h
  · rename_i e;rw [if_neg e];exact zlg h hr
 | gs b off n cap =>
  simp only at h ⊢
  split at h
  · obtain ⟨h1,h2⟩:=h
    refine ⟨h1,?_⟩
    split at h2
    · rename_i e;rw [if_pos e];exact ⟨h2.1,hr _ _ h2.2⟩
    · rename_i e;rw [if_neg e];exact zlg h2 hr
  · exact h.elim
 | _=>exact h.elim
theorem zqn {op:AOp} {ρ:Env} {G:Gh} {R R':AV→Gh→Prop} (h:ndW op ρ G R) (hr:∀ r G',(op.isNil=true→G'=G)→(op.isNewN=true→zjk G G')→R r G'→R' r G'):ndW op ρ G R':=by
 cases op with
 | appG a b c x y =>
  simp only [ndW] at h ⊢
  split at h
  · split at h
    · exact zlh h fun r G'=>hr r G' (fun e=>by cases e) (fun e=>by cases e)
    · exact h.elim
  · exact h.elim
 | appZ a b c x y =>
  simp only [ndW] at h ⊢
  split at h
  · exact ⟨h.1,h.2.1,zlh h.2.2 fun r G'=>hr r G' (fun e=>by cases e) (fun e=>by cases e)⟩
  · exact h.elim
 | mkG a b c e =>
  simp only [ndW] at h ⊢
  split at h
  · exact ⟨h.1,fun b h0=>hr _ _ (fun e=>by cases e) (fun e=>by cases e) (h.2 b h0)⟩
  · exact h.elim
 | isnil n x =>
  simp only [ndW] at h ⊢
  split at h
  · exact fun t=>hr _ _ (fun _=>rfl) (fun e=>by cases e) (h t)
  · obtain ⟨v,h1,h2⟩:=h
    exact ⟨v,h1,hr _ _ (fun _=>rfl) (fun e=>by cases e) h2⟩
 | gn k as =>
  simp only [ndW] at h ⊢
  split at h
  · rename_i vs _
    cases k with
    | mkM =>
     cases vs with
     | nil=>exact fun r hr0=>hr _ _ (fun e=>by cases e) (fun _=>zjk.setM hr0 _) (h r hr0)
     | cons _ _=>exact h.elim
    | alloc z =>
     cases vs with
     | nil=>exact fun r hr0=>hr _ _ (fun e=>by cases e) (fun _=>zjk.set hr0 _) (h r hr0)
     | cons _ _=>exact h.elim
    | box n =>
     cases vs with
     | nil=>exact h.elim
     | cons x xs=>cases xs with
       | nil=>exact ⟨h.1,fun r hr0=>hr _ _ (fun e=>by cases e) (fun _=>zjk.set hr0 _) (h.2 r hr0)⟩
       | cons _ _=>exact h.elim
    | mkSl a b z =>
     cases vs with
     | nil=>exact h.elim
     | cons x xs =>
      cases xs with
      | nil=>cases x<;>exact h.elim
      | cons y ys =>
       cases ys with
       | cons _ _=>cases x<;>cases y<;>exact h.elim
       | nil =>
        cases x with
        | int k1 n1 =>
         cases y with
         | int k2 n2=>exact ⟨h.1,h.2.1,h.2.2.1,fun r hr0=>hr _ _ (fun e=>by cases e) (fun _=>zjk.set hr0 _) (h.2.2.2 r hr0)⟩
         | _=>exact h.elim
        | _=>cases y<;>exact h.elim
    | rng=>exact zl3 h fun r G'=>hr r G' (fun e=>by cases e) (fun e=>by cases e)
    | nxt=>exact zl3 h fun r G'=>hr r G' (fun e=>by cases e) (fun e=>by cases e)
  · exact h.elim
 | _=>exact h.elim
theorem zt2 {op:AOp} {ρ1 ρ2:Env} {G:Gh} (h:∀ t∈op.uses,ρ1 t=ρ2 t) (hn:op.nd=true) {R:AV→Gh→Prop}:ndW op ρ1 G R=ndW op ρ2 G R:=by
 cases op with
 | appG a b c x y =>
  simp only [AOp.uses,List.mem_append] at h
  simp only [ndW,zh (o:=x) fun t ht=>h t (.inl ht),zh (o:=y) fun t ht=>h t (.inr ht)]
 | appZ a b c x y =>
  simp only [AOp.uses,List.mem_append] at h
  simp only [ndW,zh (o:=x) fun t ht=>h t (.inl ht),zh (o:=y) fun t ht=>h t (.inr ht)]
 | mkG a b c e =>
  have:zx ρ1 (e.map (·.2))=zx ρ2 (e.map (·.2)):=za5 fun t ht=>h t (by simpa [AOp.uses,List.flatMap_map] using ht)
  simp only [ndW,this]
 | isnil n x =>
  have e1:ev ρ1 x=ev ρ2 x:=zh (o:=x) fun t ht=>h t (by simpa [AOp.uses] using ht)
  simp only [ndW,evP,e1]
 | gn k as =>
  have:zx ρ1 as=zx ρ2 as:=za5 h
  simp only [ndW,this]
 | _=>cases hn
theorem zay {P:Program} {o:AI} (hd:o.op.det=true) {ρ:Env} {L:Hp} {σ:List Hp} {G:Gh} {K:St→Prop}:zaf P o ρ L σ G K↔∃ st,zm4 o ρ L σ G=some st∧K st:=by
 have run:zax P o ρ L σ G K↔∃ st,zm o.dst o.op ρ L σ G=some st∧K st:=by
  obtain ⟨d,op,g⟩:=o
  cases op<;>first|(cases hd;done)|exact Iff.rfl
 unfold zaf zm4
 cases hg:o.guard with
 | none=>simp only;exact run
 | some g =>
  obtain ⟨t,want⟩:=g
  simp only
  constructor
  · rintro ⟨r,hr,h⟩
    rw [hr]
    cases r with
    | true=>simp only [if_true] at h;exact run.1 h
    | false=>simp only [if_false,Bool.false_eq_true] at h;exact ⟨_,rfl,h⟩
  · rintro ⟨st,h1,h2⟩
    split at h1
    · rename_i hr;exact ⟨true,hr,by simp only [if_true];exact run.2 ⟨st,h1,h2⟩⟩
    · rename_i hr;cases h1;exact ⟨false,hr,by simp only [if_false,Bool.false_eq_true];exact h2⟩
    · cases h1
theorem zli {o:AI} {E V:List Nat} (h:o.sites=some (E,V)):o.op.det=true∨(∃ f args q,o.op=.call f args q∧q≠0∧E=[]∧V=[])∨(o.op.nd=true∧E=[]∧V=[]):=by
 obtain ⟨d,op,g⟩:=o
 cases op with
 | call f args q =>
  by_cases hq:q=0
  · simp [AI.sites,hq] at h
  · simp [AI.sites,hq] at h;exact .inr (.inl ⟨f,args,q,rfl,hq,h.1,h.2⟩)
 | isnil n x=>simp [AI.sites] at h;exact .inr (.inr ⟨rfl,h.1,h.2⟩)
 | appG a b c x y=>simp [AI.sites] at h;exact .inr (.inr ⟨rfl,h.1,h.2⟩)
 | appZ a b c x y=>simp [AI.sites] at h;exact .inr (.inr ⟨rfl,h.1,h.2⟩)
 | mkG a b c e=>simp [AI.sites] at h;exact .inr (.inr ⟨rfl,h.1,h.2⟩)
 | gn k as=>simp [AI.sites] at h;exact .inr (.inr ⟨rfl,h.1,h.2⟩)
 | kp ls op=>simp [AI.sites] at h
 | _=>exact .inl rfl
section
variable {P:Program} {ρ:Env} {L:Hp} {σ:List Hp} {G:Gh}
theorem zza [DD] {F:Env→Hp→List Hp→Gh→Option St} {T W E V:List Nat} {u:GUse} (hF:Loc F T W E V u) (hWT:∀ t∈W,t∈T) {d:Option Nat} {f:AO} {args:List AO} {q:Nat} (hq:q≠0) (hV:3≤q→V=[]) (hu:u=.no∨(u=.rd∧(q=1∨q=3)))
 (h1:∀ t∈d.toList,t ∉ T) (h2:∀ t∈f.tmps++args.flatMap AO.tmps,t ∉ W) {K:St→Prop} {ρ1:Env} {L1:Hp} {σ1:List Hp} {G1:Gh} (ha:F ρ L σ G=some (ρ1,L1,σ1,G1))
 (h:zdl P d f args q ρ1 L1 σ1 G1 K) :
 zdl P d f args q ρ L σ G fun st1=>∃ st2,F st1.1 st1.2.1 st1.2.2.1 st1.2.2.2=some st2∧K st2:=by
 have hnw:u≠.wr:=by rcases hu with rfl|⟨rfl,_⟩<;>simp
 obtain ⟨rfl,c3,c5,c6,_⟩:=hF ρ L ρ L σ G G _ _ _ _ (fun _ _=>rfl) (fun _ _=>rfl) (zcm.refl _ _) ha
 have hG1:=c6 hnw
 subst hG1
 have pT:∀ r,∀ t∈T,ρ t=put ρ d r t:=fun r t ht=>(zac fun hd=>h1 t hd ht).symm
 have ef:ev ρ1 f=ev ρ f:=zh fun t ht=>c3 t (h2 t (List.mem_append.2 (.inl ht)))
 have ea:zx ρ1 args=zx ρ args:=za5 fun t ht=>c3 t (h2 t (List.mem_append.2 (.inr ht)))
 have em:args.map (ev ρ1)=args.map (ev ρ):=zni fun t ht=>c3 t (h2 t (List.mem_append.2 (.inr ht)))
 have back:∀ r (G':Gh),zcm u G1 G'→K (put ρ1 d r,L1,σ1,G')→∃ st2,F (put ρ d r) L σ1 G'=some st2∧K st2:=by
  intro r G' hag hk
  obtain ⟨_,_,_,_,ρ4,L4,G4,d1,d2,d3,d4,d5,d6,_⟩:=hF ρ L (put ρ d r) L σ1 G1 G' _ _ _ _ (pT r) (fun _ _=>rfl) hag ha
  have g1:ρ4=put ρ1 d r:=by
   funext t
   by_cases ht:t∈W
   · rw [d2 t ht,zac fun hd=>h1 t hd (hWT t ht)]
   · rw [d3 t ht]
     by_cases hd:t∈d.toList
     · rw [zb4 hd,zb4 hd]
     · rw [zac hd,zac hd,c3 t ht]
  have g2:L4=L1:=by
   funext s
   by_cases hs:s∈V
   · exact d4 s hs
   · rw [d5 s hs,c5 s hs]
  refine ⟨_,d1,?_⟩
  rw [g1,g2,d6 hnw]
  exact hk
 unfold zdl at h ⊢
 rw [ef] at h
 split at h
 · unfold zw0 at h ⊢
   split at h
   · rw [ea] at h
     split at h
     · exact h.elim
     · rw [if_neg hq] at h
       rw [if_neg hq]
       obtain ⟨h3,h⟩:=h
       have hVn:=hV h3
       have hL1:L1=L:=funext fun s=>c5 s (by rw [hVn];simp)
       rw [hL1] at h
       refine ⟨h3,h.mono fun r lv G' ⟨hl,hx,hk⟩=>⟨hl,hx,back r G' ?_ (by rw [hL1];exact hk)⟩⟩
       rcases hu with rfl|⟨rfl,hq1⟩
       · trivial
       · exact hx (by omega)
   · rw [ea] at h
     split at h
     · exact h.elim
     · rw [if_neg hq] at h
       rw [if_neg hq]
       refine h.mono fun r lv G' ⟨hl,hx,hk⟩=>⟨hl,hx,back r G' ?_ hk⟩
       rcases hu with rfl|⟨rfl,hq1⟩
       · trivial
       · exact hx (by omega)
   · exact h.elim
 · rw [if_neg hq] at h ⊢
   by_cases h3:3≤q
   · rw [if_pos h3] at h ⊢
     have hVn:=hV h3
     have hL1:L1=L:=funext fun s=>c5 s (by rw [hVn];simp)
     rw [em,hL1] at h
     refine h.mono fun r lv G' ⟨hl,hx,hk⟩=>⟨hl,hx,back r G' ?_ (by rw [hL1];exact hk)⟩
     rcases hu with rfl|⟨rfl,hq1⟩
     · trivial
     · exact hx (by omega)
   · rw [if_neg h3] at h ⊢
     obtain ⟨cs0,h0,h⟩:=h
     refine ⟨cs0,h0,?_⟩
     rw [ea] at h
     split at h
     · exact h.elim
     · refine h.mono fun r lv G' ⟨hl,hx,hk⟩=>⟨hl,hx,back r G' ?_ hk⟩
       rcases hu with rfl|⟨rfl,hq1⟩
       · trivial
       · exact hx (by omega)
end
theorem zzb [DD] {_P:Program} {ρ:Env} {L:Hp} {σ:List Hp} {G:Gh} {F:Env→Hp→List Hp→Gh→Option St} {T W E V:List Nat} {u:GUse} (hF:Loc F T W E V u) (hWT:∀ t∈W,t∈T) {d:Option Nat} {op:AOp} (hn:op.nd=true) (hu:u=.no∨(u=.rd∧(op.isNil=true∨op.isNewN=true)))
 (h1:∀ t∈d.toList,t ∉ T) (h2:∀ t∈op.uses,t ∉ W) {K:St→Prop} {ρ1:Env} {L1:Hp} {σ1:List Hp} {G1:Gh} (ha:F ρ L σ G=some (ρ1,L1,σ1,G1))
 (h:zce d op ρ1 L1 σ1 G1 K):zce d op ρ L σ G fun st1=>∃ st2,F st1.1 st1.2.1 st1.2.2.1 st1.2.2.2=some st2∧K st2:=by
 have hnw:u≠.wr:=by rcases hu with rfl|⟨rfl,_⟩<;>simp
 obtain ⟨rfl,c3,c5,c6,_⟩:=hF ρ L ρ L σ G G _ _ _ _ (fun _ _=>rfl) (fun _ _=>rfl) (zcm.refl _ _) ha
 have hG1:=c6 hnw
 subst hG1
 have pT:∀ r,∀ t∈T,ρ t=put ρ d r t:=fun r t ht=>(zac fun hd=>h1 t hd ht).symm
 rw [zqm hn] at h ⊢
 rw [zt2 (ρ2:=ρ) (fun t ht=>c3 t (h2 t ht)) hn] at h
 refine zqn h fun r G' hg hg2 hk=>?_
 have hag:zcm u G1 G':=by
  rcases hu with rfl|⟨rfl,hi⟩
  · trivial
  · rcases hi with hi|hi
    · rw [hg hi];exact zcm.refl _ _
    · exact hg2 hi
 obtain ⟨_,_,_,_,ρ4,L4,G4,d1,d2,d3,d4,d5,d6,_⟩:=hF ρ L (put ρ d r) L σ1 G1 G' _ _ _ _ (pT r) (fun _ _=>rfl) hag ha
 have g1:ρ4=put ρ1 d r:=by
  funext t
  by_cases ht:t∈W
  · rw [d2 t ht,zac fun hd=>h1 t hd (hWT t ht)]
  · rw [d3 t ht]
    by_cases hd:t∈d.toList
    · rw [zb4 hd,zb4 hd]
    · rw [zac hd,zac hd,c3 t ht]
 have g2:L4=L1:=by
  funext s
  by_cases hs:s∈V
  · exact d4 s hs
  · rw [d5 s hs,c5 s hs]
 refine ⟨_,d1,?_⟩
 rw [g1,g2,d6 hnw]
 exact hk
def zc4 (o:AI):AI:={ o with op:=.mv false (.c .nilS) }
theorem zfq {P:Program} {o:AI} {t:Nat} {want:Bool} (hg:o.guard=some (t,want)) {ρ:Env} (hb:zh4 (ρ t) want=some false) {L:Hp} {σ:List Hp} {G:Gh} {K:St→Prop}:zaf P o ρ L σ G K↔∃ st,zm4 (zc4 o) ρ L σ G=some st∧K st:=by
 unfold zaf zm4 zc4
 simp only [hg,hb]
 constructor
 · rintro ⟨r,e,h⟩
   cases e
   exact ⟨_,rfl,h⟩
 · rintro ⟨st,h1,h2⟩
   cases h1
   exact ⟨false,rfl,h2⟩
theorem zfr {P:Program} {o:AI} {ρ:Env} (h:o.guard=none∨∃ t want,o.guard=some (t,want)∧zh4 (ρ t) want=some true) {L:Hp} {σ:List Hp} {G:Gh} {K:St→Prop}:zaf P o ρ L σ G K↔zax P o ρ L σ G K:=by
 unfold zaf
 rcases h with h|⟨t,want,h,hb⟩
 · simp only [h]
 · simp only [h,hb]
   constructor
   · rintro ⟨r,e,h⟩
     cases e
     simpa using h
   · exact fun h=>⟨true,rfl,by simpa using h⟩
theorem zjn {P:Program} {o:AI} {ρ:Env} {L:Hp} {σ:List Hp} {G:Gh} {K:St→Prop} (h:zaf P o ρ L σ G K):(o.guard=none∨∃ t want,o.guard=some (t,want)∧zh4 (ρ t) want=some true)∨∃ t want,o.guard=some (t,want)∧zh4 (ρ t) want=some false:=by
 unfold zaf at h
 split at h
 · rename_i e;exact .inl (.inl e)
 · rename_i t want e
   obtain ⟨r,hr,h⟩:=h
   cases r with
   | true=>exact .inl (.inr ⟨t,want,e,hr⟩)
   | false=>exact .inr ⟨t,want,e,hr⟩
theorem zgd (o:AI):(∀ t∈(zc4 o).foot,t∈o.foot)∧(∀ t∈(zc4 o).writes,t∈o.writes)∧(zc4 o).sites=some ([],[])∧(zc4 o).op.det=true∧(zc4 o).gUse=.no:=by
 refine ⟨fun t ht=>?_,fun t ht=>?_,rfl,rfl,rfl⟩
 · simp only [zc4,AI.foot,AOp.uses,AO.tmps,List.append_nil,List.mem_append] at ht ⊢
   rcases ht with h|h
   · exact .inl (.inl h)
   · exact .inr h
 · simp only [zc4,AI.writes,AOp.takes,List.append_nil,List.mem_append] at ht ⊢
   exact .inl ht
theorem zc6 {x y x' y':List Nat} (h:zdx x y=true) (h1:∀ t∈x',t∈x) (h2:∀ t∈y',t∈y):zdx x' y'=true:=by
 simp only [zdx,List.all_eq_true] at h ⊢
 intro t ht
 have:=h t (h1 t ht)
 simp only [Bool.not_eq_true',List.contains_eq_mem,decide_eq_false_iff_not] at this ⊢
 exact fun hm=>this (h2 t hm)
theorem zt3 {c:Ctx} {a b:AI} (h:z26 a b=true) (hda:a.op.det=true) {st:St} {K:St→Prop}
 (hs:zaf c.P a st.1 st.2.1 st.2.2.1 st.2.2.2 fun st1=>zaf c.P b st1.1 st1.2.1 st1.2.2.1 st1.2.2.2 K) :
 zaf c.P b st.1 st.2.1 st.2.2.1 st.2.2.2 fun st3=>zaf c.P a st3.1 st3.2.1 st3.2.2.1 st3.2.2.2 K:=by
 obtain ⟨ρ,L,σ,G⟩:=st
 simp only [z26,Bool.and_eq_true] at h
 obtain ⟨⟨⟨⟨hq3,h1⟩,h2⟩,h5⟩,h3⟩:=h
 cases hsa:a.sites with
 | none=>simp [hsa] at h3
 | some p =>
  cases hsb:b.sites with
  | none=>simp [hsa,hsb] at h3
  | some q =>
   obtain ⟨ra,wa⟩:=p
   obtain ⟨rb,wb⟩:=q
   simp only [hsa,hsb,Bool.and_eq_true] at h3
   -- two steps of one outcome each
   have DD:∀ (a b:AI) (ra wa rb wb:List Nat),a.sites=some (ra,wa)→b.sites=some (rb,wb)→a.op.det=true→b.op.det=true→zdx a.writes b.foot=true→zdx b.writes a.foot=true→gOk a.gUse b.gUse=true→zdx wa rb=true→zdx wb ra=true →
    ∀ {st1 st2:St},zm4 a ρ L σ G=some st1→zm4 b st1.1 st1.2.1 st1.2.2.1 st1.2.2.2=some st2→∃ st3,zm4 b ρ L σ G=some st3∧zm4 a st3.1 st3.2.1 st3.2.2.1 st3.2.2.2=some st2:=by
    intro a b ra wa rb wb hsa hsb hda hdb h1 h2 h5 h3 h4 st1 st2 e1 e2
    obtain ⟨la,la1,la2⟩:=zc5 hsa hda
    obtain ⟨lb,lb1,lb2⟩:=zc5 hsb hdb
    obtain ⟨ρ1,L1,σ1,G1⟩:=st1
    obtain ⟨ρ2,L2,σ2,G2⟩:=st2
    obtain ⟨ρ3,L3,σ3,G3,q1,q2⟩:=la.swap lb h1 h2 h3 h4 h5 lb1 lb2 e1 e2
    exact ⟨_,q1,q2⟩
   · rcases zli hsb with hdb|⟨fb,ab,qb,hopb,hqb,rfl,rfl⟩|⟨hnd,rfl,rfl⟩
     · -- both
       rw [zay hda] at hs
       obtain ⟨st1,e1,hs⟩:=hs
       rw [zay hdb] at hs
       obtain ⟨st2,e2,hk⟩:=hs
       obtain ⟨st3,q1,q2⟩:=DD a b ra wa rb wb hsa hsb hda hdb h1 h2 h5 h3.1 h3.2 e1 e2
       rw [zay hdb]
       refine ⟨st3,q1,?_⟩
       rw [zay hda]
       exact ⟨st2,q2,hk⟩
     · -- the second is a call
       rw [zay hda] at hs
       obtain ⟨⟨ρ1,L1,σ1,G1⟩,e1,hs⟩:=hs
       obtain ⟨la,la1,la2⟩:=zc5 hsa hda
       obtain ⟨_,c1,_⟩:=la ρ L ρ L σ G G _ _ _ _ (fun _ _=>rfl) (fun _ _=>rfl) (zcm.refl _ _) e1
       have guardSame:∀ t want,b.guard=some (t,want)→ρ1 t=ρ t:=fun t want hg=>c1 t fun hw=>zae h1 hw (by simp [AI.foot,hg])
       rcases zjn hs with hrun|⟨t,want,hg,hb⟩
       · rw [zfr hrun] at hs
         have hrun':b.guard=none∨∃ t want,b.guard=some (t,want)∧zh4 (ρ t) want=some true:=by
          rcases hrun with h|⟨t,want,hg,hb⟩
          · exact .inl h
          · exact .inr ⟨t,want,hg,by rw [← guardSame t want hg];exact hb⟩
         rw [zfr hrun']
         unfold zax at hs ⊢
         rw [hopb] at hs ⊢
         simp only at hs ⊢
         have hub:b.gUse=if qb=1∨qb=3 then .ext else .wr:=by unfold AI.gUse;rw [hopb]
         have hu:a.gUse=.no∨(a.gUse=.rd∧(qb=1∨qb=3)):=by
          rw [hub] at h5
          by_cases hq1:qb=1∨qb=3
          · rw [if_pos hq1] at h5
            cases ha:a.gUse<;>rw [ha] at h5<;>simp [gOk] at h5 ⊢
            exact hq1
          · rw [if_neg hq1] at h5
            cases ha:a.gUse<;>rw [ha] at h5<;>simp [gOk] at h5 ⊢
         have hVe:3≤qb→wa=[]:=fun h=>by
          rw [hopb] at hq3
          simp only [hsa,Bool.or_eq_true,decide_eq_true_eq] at hq3
          rcases hq3 with h'|h'
          · omega
          · simpa using h'
         have:=zza la la1 hqb hVe hu (d:=b.dst) (f:=fb) (args:=ab) (fun t ht=>zae h2 (by simp only [AI.writes,List.mem_append];exact .inl ht)) (fun t ht hw=>zae h1 hw (by
          simp only [AI.foot,hopb,AOp.uses,List.mem_append]
          exact .inl (.inr (List.mem_append.1 ht)))) e1 hs
         exact zhs (fun st hst=>(zay hda).2 hst) this
       · rw [zfq hg hb] at hs
         obtain ⟨st2,e2,hk⟩:=hs
         obtain ⟨p1,p2,p3,p4,p5⟩:=zgd b
         obtain ⟨st3,q1,q2⟩:=DD a (zc4 b) ra wa [] [] hsa p3 hda p4 (zc6 h1 (fun _ h=>h) p1) (zc6 h2 p2 (fun _ h=>h)) (by rw [p5];cases a.gUse<;>rfl) (by simp [zdx]) (by simp [zdx]) e1 e2
         have hb':zh4 (ρ t) want=some false:=by rw [← guardSame t want hg];exact hb
         rw [zfq hg hb']
         exact ⟨st3,q1,(zay hda).2 ⟨st2,q2,hk⟩⟩
     · -- the second may come to several states
       rw [zay hda] at hs
       obtain ⟨⟨ρ1,L1,σ1,G1⟩,e1,hs⟩:=hs
       obtain ⟨la,la1,la2⟩:=zc5 hsa hda
       obtain ⟨_,c1,_⟩:=la ρ L ρ L σ G G _ _ _ _ (fun _ _=>rfl) (fun _ _=>rfl) (zcm.refl _ _) e1
       have guardSame:∀ t want,b.guard=some (t,want)→ρ1 t=ρ t:=fun t want hg=>c1 t fun hw=>zae h1 hw (by simp [AI.foot,hg])
       have hrunN:∀ ρ L σ G K,zax c.P b ρ L σ G K↔zce b.dst b.op ρ L σ G K:=fun ρ L σ G K=>by
        unfold zax
        split
        · rename_i hh;rw [hh] at hnd;cases hnd
        · rename_i hh;rw [hh] at hnd;cases hnd
        · exact Iff.rfl
       rcases zjn hs with hrun|⟨t,want,hg,hb⟩
       · rw [zfr hrun] at hs
         have hrun':b.guard=none∨∃ t want,b.guard=some (t,want)∧zh4 (ρ t) want=some true:=by
          rcases hrun with h|⟨t,want,hg,hb⟩
          · exact .inl h
          · exact .inr ⟨t,want,hg,by rw [← guardSame t want hg];exact hb⟩
         rw [zfr hrun']
         rw [hrunN] at hs ⊢
         have hu:a.gUse=.no∨(a.gUse=.rd∧(b.op.isNil=true∨b.op.isNewN=true)):=by
          obtain ⟨d,op,g⟩:=b
          cases op with
          | gn k as =>
           have e:AI.gUse ⟨d,.gn k as,g⟩=if k.new=true then .ext else .wr:=rfl
           rw [e] at h5
           by_cases hk:k.new=true
           · rw [if_pos hk] at h5
             cases ha:a.gUse<;>rw [ha] at h5<;>first|exact .inl rfl|exact .inr ⟨rfl,.inr hk⟩|exact absurd h5 Bool.false_ne_true
           · rw [if_neg hk] at h5
             cases ha:a.gUse<;>rw [ha] at h5<;>first|exact .inl rfl|exact absurd h5 Bool.false_ne_true
          | _=>first|(cases hnd;done)|(cases ha:a.gUse<;>rw [ha] at h5<;>first|exact .inl rfl|exact .inr ⟨rfl,.inl rfl⟩|exact absurd h5 Bool.false_ne_true)
         have:=zzb (_P:=c.P) la la1 hnd hu (d:=b.dst) (fun t ht=>zae h2 (by simp only [AI.writes,List.mem_append];exact .inl ht)) (fun t ht hw=>zae h1 hw (by
          simp only [AI.foot,List.mem_append]
          exact .inl (.inr ht))) e1 hs
         rw [zqm hnd] at this ⊢
         exact zqn this fun r G' _ _ hst=>(zay hda).2 hst
       · rw [zfq hg hb] at hs
         obtain ⟨st2,e2,hk⟩:=hs
         obtain ⟨p1,p2,p3,p4,p5⟩:=zgd b
         obtain ⟨st3,q1,q2⟩:=DD a (zc4 b) ra wa [] [] hsa p3 hda p4 (zc6 h1 (fun _ h=>h) p1) (zc6 h2 p2 (fun _ h=>h)) (by rw [p5];cases a.gUse<;>rfl) (by simp [zdx]) (by simp [zdx]) e1 e2
         have hb':zh4 (ρ t) want=some false:=by rw [← guardSame t want hg];exact hb
         rw [zfq hg hb']
         exact ⟨st3,q1,(zay hda).2 ⟨st2,q2,hk⟩⟩
end Go.E2
namespace Go.E2
theorem RL.val_congr {r:RL} {ρ1 ρ2:Env} (h:∀ t∈r.uses,ρ1 t=ρ2 t) (σ:List Hp) (G:Gh):r.val ρ1 σ G=r.val ρ2 σ G:=by
 cases r with
 | ld agg n x=>exact zgy (op:=.load agg n x .foreign) h fun g n x r e=>by cases e;exact .inr ⟨rfl,rfl⟩
 | mlook ks z ok m k =>
  have:zx ρ1 [m,k]=zx ρ2 [m,k]:=za5 fun t ht=>h t (by simpa [RL.uses] using ht)
  simp only [RL.val,this]
theorem zjo {ls:List RL} {ρ1 ρ2:Env} {σ:List Hp} {G:Gh} {st1 st2:St} (h:∀ t∈zfh ls,ρ1 t=ρ2 t) (h':∀ t∈zfh ls,st1.1 t=st2.1 t) (hσ:st1.2.2.1=st2.2.2.1) (hG:st1.2.2.2=st2.2.2.2) (hk:zjm ls ρ1 σ G st1):zjm ls ρ2 σ G st2:=by
 intro r hr
 have hu:∀ t∈r.uses,t∈zfh ls:=fun t ht=>List.mem_flatMap.2 ⟨r,hr,ht⟩
 rw [← RL.val_congr (fun t ht=>h' t (hu t ht)),← RL.val_congr (fun t ht=>h t (hu t ht)),← hσ,← hG]
 exact hk r hr
theorem zjp {ls ls':List RL} (hs:∀ r∈ls',r∈ls) {ρ:Env} {σ:List Hp} {G:Gh} {st:St} (h:zjm ls ρ σ G st):zjm ls' ρ σ G st:=fun r hr=>h r (hs r hr)
def AI.kp (b:AI) (ls:List RL):AI:={ b with op:=.kp ls b.op }
theorem zc7 {P:Program} {b:AI} (hb:∀ ls op,b.op≠.kp ls op) {ρ:Env} {L:Hp} {σ:List Hp} {G:Gh} {K:St→Prop}:zax P b ρ L σ G K↔zbm P b.dst b.op ρ L σ G K:=by
 unfold zax zbm
 split
 · rename_i e;exact absurd e (hb _ _)
 · rename_i e;rw [e]
 · rename_i h1 h2
   split
   · rename_i h3;exact absurd h3 (h2 _ _ _)
   · exact Iff.rfl
theorem zik {P:Program} {b:AI} {ls ls':List RL} (hs:∀ r∈ls',r∈ls) {ρ:Env} {L:Hp} {σ:List Hp} {G:Gh} {K:St→Prop} (h:zaf P (b.kp ls) ρ L σ G K):zaf P (b.kp ls') ρ L σ G K:=by
 unfold zaf at h ⊢
 simp only [AI.kp] at h ⊢
 split at h
 · exact zar (fun st hst=>⟨zjp hs hst.1,hst.2⟩) h
 · obtain ⟨r,hr,h⟩:=h
   refine ⟨r,hr,?_⟩
   split at h
   · rename_i e;rw [if_pos e];exact zar (fun st hst=>⟨zjp hs hst.1,hst.2⟩) h
   · rename_i e;rw [if_neg e];exact h
theorem ze4 {P:Program} {b:AI} (hb:∀ ls op,b.op≠.kp ls op) {ls:List RL} {ρ:Env} {L:Hp} {σ:List Hp} {G:Gh} {K:St→Prop} (h:zaf P (b.kp ls) ρ L σ G K):zaf P b ρ L σ G K:=by
 unfold zaf at h ⊢
 simp only [AI.kp] at h
 split at h
 · rename_i e
   try simp only [e]
   exact (zc7 hb).2 (zar (fun st hst=>hst.2) h)
 · rename_i t want e
   try simp only [e]
   obtain ⟨r,hr,h⟩:=h
   refine ⟨r,hr,?_⟩
   split at h
   · rename_i e2;rw [if_pos e2];exact (zc7 hb).2 (zar (fun st hst=>hst.2) h)
   · rename_i e2;rw [if_neg e2];exact h
theorem ze5 {P:Program} {b:AI} (hb:∀ ls op,b.op≠.kp ls op) {ρ:Env} {L:Hp} {σ:List Hp} {G:Gh} {K:St→Prop} (h:zaf P b ρ L σ G K):zaf P (b.kp []) ρ L σ G K:=by
 have kn:∀ st,zjm [] ρ σ G st:=fun st r hr=>by simp at hr
 unfold zaf at h ⊢
 simp only [AI.kp]
 split at h
 · rename_i e
   try simp only [e]
   exact zar (fun st hst=>⟨kn st,hst⟩) ((zc7 hb).1 h)
 · rename_i t want e
   try simp only [e]
   obtain ⟨r,hr,h⟩:=h
   refine ⟨r,hr,?_⟩
   split at h
   · rename_i e2;rw [if_pos e2];exact zar (fun st hst=>⟨kn st,hst⟩) ((zc7 hb).1 h)
   · rename_i e2;rw [if_neg e2];exact h
theorem z3h [DD] {P:Program} {b:AI} {rb wb:List Nat} (hsb:b.sites=some (rb,wb)) {F:Env→Hp→List Hp→Gh→Option St} {T W E V:List Nat} (hF:Loc F T W E V .no) (hWT:∀ t∈W,t∈T)
 (h1:zdx W b.foot=true) (h2:zdx b.writes T=true) (h3:zdx V rb=true) (h4:zdx wb E=true) (hq3:∀ f args q,b.op=.call f args q→3≤q→V=[])
 {ρ:Env} {L:Hp} {σ:List Hp} {G:Gh} {K:St→Prop} {ρ1:Env} {L1:Hp} {σ1:List Hp} {G1:Gh} (ha:F ρ L σ G=some (ρ1,L1,σ1,G1)) (hs:zbm P b.dst b.op ρ1 L1 σ1 G1 K) :
 zbm P b.dst b.op ρ L σ G fun st3=>∃ st2,F st3.1 st3.2.1 st3.2.2.1 st3.2.2.2=some st2∧K st2:=by
 rcases zli hsb with hdb|⟨fb,ab,qb,hopb,hqb,rfl,rfl⟩|⟨hnd,rfl,rfl⟩
 · have run:∀ ρ L σ G K,zbm P b.dst b.op ρ L σ G K↔∃ st,zm b.dst b.op ρ L σ G=some st∧K st:=by
    intro ρ L σ G K
    obtain ⟨d,op,g⟩:=b
    cases op<;>first|(cases hdb;done)|exact Iff.rfl
   rw [run] at hs ⊢
   obtain ⟨⟨ρ2,L2,σ2,G2⟩,e2,hk⟩:=hs
   obtain ⟨lb,lv⟩:=ztx (a:=b) hsb hdb
   have f1:∀ t∈b.dst.toList++b.op.uses,t∈b.foot:=fun t ht=>by simp only [AI.foot,List.mem_append] at ht ⊢;exact .inl ht
   obtain ⟨ρ3,L3,σ3,G3,q1,q2⟩:=hF.swap lb (zc6 h1 (fun _ h=>h) f1) h2 h3 h4 (by rfl) (fun t ht=>by
    obtain ⟨_,hw,_⟩:=zc5 (a:={ b with guard:=none }) (by simpa [AI.sites] using hsb) hdb
    have:=hw t (by simpa [AI.writes] using ht)
    simpa [AI.foot] using this) lv ha e2
   exact ⟨_,q1,_,q2,hk⟩
 · unfold zbm at hs ⊢
   rw [hopb] at hs ⊢
   exact zza hF hWT hqb (fun h=>hq3 _ _ _ hopb h) (.inl rfl) (d:=b.dst) (fun t ht=>zae h2 (by simp only [AI.writes,List.mem_append];exact .inl ht)) (fun t ht hw=>zae h1 hw (by
    simp only [AI.foot,hopb,AOp.uses,List.mem_append]
    exact .inl (.inr (List.mem_append.1 ht)))) ha hs
 · have run:∀ ρ L σ G K,zbm P b.dst b.op ρ L σ G K↔zce b.dst b.op ρ L σ G K:=fun ρ L σ G K=>by
    unfold zbm
    split
    · rename_i hh;rw [hh] at hnd;cases hnd
    · exact Iff.rfl
   rw [run] at hs ⊢
   exact zzb (_P:=P) hF hWT hnd (.inl rfl) (d:=b.dst) (fun t ht=>zae h2 (by simp only [AI.writes,List.mem_append];exact .inl ht)) (fun t ht hw=>zae h1 hw (by
    simp only [AI.foot,List.mem_append]
    exact .inl (.inr ht))) ha hs
theorem znm {P:Program} {a b:AI} {ra wa:List Nat} (hsa:a.sites=some (ra,wa)) (hda:a.op.det=true) (h1:zdx a.writes b.foot=true) (h2:zdx b.writes a.foot=true) {t:Nat} {want:Bool} (hg:b.guard=some (t,want)) {ρ:Env} {L:Hp} {σ:List Hp} {G:Gh} {st1:St} (e1:zm4 a ρ L σ G=some st1) (hb:zh4 (st1.1 t) want=some false) {K:St→Prop}
 (hk:K (put st1.1 b.dst .skp,st1.2)) (b':AI) (hg':b'.guard=b.guard) (hd':b'.dst=b.dst):zaf P b' ρ L σ G fun st3=>zaf P a st3.1 st3.2.1 st3.2.2.1 st3.2.2.2 K:=by
 obtain ⟨la,la1,la2⟩:=zc5 hsa hda
 obtain ⟨ρ1,L1,σ1,G1⟩:=st1
 obtain ⟨_,c1,_⟩:=la ρ L ρ L σ G G _ _ _ _ (fun _ _=>rfl) (fun _ _=>rfl) (zcm.refl _ _) e1
 have same:ρ1 t=ρ t:=c1 t fun hw=>zae h1 hw (by simp [AI.foot,hg])
 obtain ⟨p1,p2,p3,p4,p5⟩:=zgd b
 obtain ⟨lb,lb1,lb2⟩:=zc5 p3 p4
 have hb0:zh4 (ρ t) want=some false:=by rw [← same];exact hb
 have e2:zm4 (zc4 b) ρ1 L1 σ1 G1=some (put ρ1 b.dst .skp,L1,σ1,G1):=by
  simp only [zm4,zc4,hg]
  simp only at hb
  rw [hb]
 obtain ⟨ρ3,L3,σ3,G3,q1,q2⟩:=la.swap lb (zc6 h1 (fun _ h=>h) p1) (zc6 h2 p2 (fun _ h=>h)) (by simp [zdx]) (by simp [zdx]) (by rw [p5];cases a.gUse<;>rfl) lb1 lb2 e1 e2
 have e3:zm4 (zc4 b) ρ L σ G=some (put ρ b.dst .skp,L,σ,G):=by
  simp only [zm4,zc4,hg,hb0]
 rw [e3] at q1
 cases q1
 unfold zaf
 rw [hg',hg,hd']
 refine ⟨false,hb0,?_⟩
 rw [if_neg (by simp)]
 exact (zay hda).2 ⟨_,q2,hk⟩
theorem zqo {P:Program} {b:AI} {ls:List RL} {ρ:Env} {L:Hp} {σ:List Hp} {G:Gh} {K:St→Prop} (h:zaf P (b.kp ls) ρ L σ G K) :
 ((b.guard=none∨∃ t want,b.guard=some (t,want)∧zh4 (ρ t) want=some true)∧zbm P b.dst b.op ρ L σ G fun st=>zjm ls ρ σ G st∧K st)∨∃ t want,b.guard=some (t,want)∧zh4 (ρ t) want=some false∧K (put ρ b.dst .skp,L,σ,G):=by
 unfold zaf at h
 simp only [AI.kp] at h
 split at h
 · rename_i e;exact .inl ⟨.inl e,h⟩
 · rename_i t want e
   obtain ⟨r,hr,h⟩:=h
   cases r with
   | true=>exact .inl ⟨.inr ⟨t,want,e,hr⟩,h⟩
   | false=>exact .inr ⟨t,want,e,hr,h⟩
theorem zt4 {P:Program} {b:AI} {ls:List RL} {ρ:Env} {L:Hp} {σ:List Hp} {G:Gh} {K:St→Prop} (hg:b.guard=none∨∃ t want,b.guard=some (t,want)∧zh4 (ρ t) want=some true) (h:zbm P b.dst b.op ρ L σ G fun st=>zjm ls ρ σ G st∧K st):zaf P (b.kp ls) ρ L σ G K:=by
 unfold zaf
 simp only [AI.kp]
 rcases hg with e|⟨t,want,e,hr⟩
 · simp only [e];exact h
 · simp only [e];exact ⟨true,hr,h⟩
theorem zt5 {P:Program} {a b:AI} {ls:List RL} (h:z26 a b=true) (hda:a.op.det=true) (hu:a.gUse=.no) (hl:zdx a.writes (zfh ls)=true) {st:St} {K:St→Prop}
 (hs:zaf P a st.1 st.2.1 st.2.2.1 st.2.2.2 fun st1=>zaf P (b.kp ls) st1.1 st1.2.1 st1.2.2.1 st1.2.2.2 K) :
 zaf P (b.kp ls) st.1 st.2.1 st.2.2.1 st.2.2.2 fun st3=>zaf P a st3.1 st3.2.1 st3.2.2.1 st3.2.2.2 K:=by
 obtain ⟨ρ,L,σ,G⟩:=st
 simp only [z26,Bool.and_eq_true] at h
 obtain ⟨⟨⟨⟨hq3,h1⟩,h2⟩,h5⟩,h3⟩:=h
 cases hsa:a.sites with
 | none=>simp [hsa] at h3
 | some p =>
  cases hsb:b.sites with
  | none=>simp [hsa,hsb] at h3
  | some q =>
   obtain ⟨ra,wa⟩:=p
   obtain ⟨rb,wb⟩:=q
   simp only [hsa,hsb,Bool.and_eq_true] at h3
   rw [zay hda] at hs
   obtain ⟨⟨ρ1,L1,σ1,G1⟩,e1,hs⟩:=hs
   obtain ⟨la,la1,la2⟩:=zc5 hsa hda
   rw [hu] at la
   obtain ⟨rfl,c1,_,c2,_⟩:=la ρ L ρ L σ G G _ _ _ _ (fun _ _=>rfl) (fun _ _=>rfl) trivial e1
   have hG1:G1=G:=c2 (by simp)
   subst hG1
   rcases zqo hs with ⟨hrun,hs⟩|⟨t,want,hg,hb,hk⟩
   · have hrun':b.guard=none∨∃ t want,b.guard=some (t,want)∧zh4 (ρ t) want=some true:=by
      rcases hrun with h|⟨t,want,hg,hb⟩
      · exact .inl h
      · exact .inr ⟨t,want,hg,by rw [← c1 t fun hw=>zae h1 hw (by simp [AI.foot,hg])];exact hb⟩
     refine zt4 hrun' ?_
     have:=z3h (P:=P) hsb la la1 h1 h2 h3.1 (show zdx wb ra=true from h3.2) (fun f args q he h3q=>by
      rw [he] at hq3
      simp only [hsa,Bool.or_eq_true,decide_eq_true_eq] at hq3
      rcases hq3 with h'|h'
      · omega
      · simpa using h') e1 hs
     refine zar (fun st3 ⟨st2,e2,hkp,hk⟩=>⟨?_,(zay hda).2 ⟨st2,e2,hk⟩⟩) this
     obtain ⟨ρ3,L3,σ3,G3⟩:=st3
     obtain ⟨ρ2,L2,σ2,G2⟩:=st2
     obtain ⟨d0,d1,_,d2,_⟩:=la ρ3 L3 ρ3 L3 σ3 G3 G3 _ _ _ _ (fun _ _=>rfl) (fun _ _=>rfl) trivial e2
     exact zjo (fun t ht=>c1 t fun hw=>zae hl hw ht) (fun t ht=>d1 t fun hw=>zae hl hw ht) d0 (d2 (by simp)) hkp
   · exact znm hsa hda h1 h2 hg e1 hb hk (b.kp ls) rfl rfl
def zlj (d:Option Nat) (g:Option (Nat×Bool)) (v:AV) (ρ:Env) (L:Hp) (σ:List Hp) (G:Gh):Option St :=
 match g with
 | none=>some (put ρ d v,L,σ,G)
 | some (t,want)=>(match zh4 (ρ t) want with|some true=>some (put ρ d v,L,σ,G)|some false=>some (put ρ d .skp,L,σ,G)|none=>none)
theorem zsf (d:Option Nat) (g:Option (Nat×Bool)) (v:AV):Loc (zlj d g v) (d.toList++(match g with|some (t,_)=>[t]|none=>[])) d.toList [] [] .no:=by
 intro ρ1 L1 ρ2 L2 σ G1 G2 ρ1' L1' σ' G1' h1 h2 h3 h
 have key:∀ v,(put ρ1 d v,L1,σ,G1)=(ρ1',L1',σ',G1')→σ'=σ∧(∀ t,t ∉ d.toList→ρ1' t=ρ1 t)∧(∀ s,s ∉ ([]:List Nat)→L1' s=L1 s)∧(GUse.no≠.wr→G1'=G1) ∧
  (∀ t∈d.toList,put ρ2 d v t=ρ1' t):=by
  intro v e
  cases e
  exact ⟨rfl,fun t ht=>zac ht,fun _ _=>rfl,fun _=>rfl,fun t ht=>by rw [zb4 ht,zb4 ht]⟩
 cases g with
 | none =>
  simp only [zlj,Option.some.injEq] at h
  obtain ⟨k1,k2,k3,k4,k5⟩:=key v h
  exact ⟨k1,k2,k3,k4,_,_,_,rfl,k5,fun t ht=>zac ht,fun s hs=>by simp at hs,fun _ _=>rfl,fun _=>rfl,fun e=>by cases e⟩
 | some p =>
  obtain ⟨t0,want⟩:=p
  have ht0:ρ1 t0=ρ2 t0:=h1 t0 (by simp)
  simp only [zlj] at h ⊢
  rw [← ht0]
  split at h
  · rename_i hr
    simp only [Option.some.injEq] at h
    obtain ⟨k1,k2,k3,k4,k5⟩:=key v h
    exact ⟨k1,k2,k3,k4,_,_,_,rfl,k5,fun t ht=>zac ht,fun s hs=>by simp at hs,fun _ _=>rfl,fun _=>rfl,fun e=>by cases e⟩
  · rename_i hr
    simp only [Option.some.injEq] at h
    obtain ⟨k1,k2,k3,k4,k5⟩:=key .skp h
    exact ⟨k1,k2,k3,k4,_,_,_,rfl,k5,fun t ht=>zac ht,fun s hs=>by simp at hs,fun _ _=>rfl,fun _=>rfl,fun e=>by cases e⟩
  · cases h
theorem zsg {ks:List Kd} {z:D} {ok:Bool} {vs:List D} {G:Gh} {p:AV×Gh} (h:gdD (.mlook ks z ok) vs G=some p):p.2=G:=by
 obtain ⟨v,G'⟩:=p
 cases vs with
 | nil=>simp [gdD] at h
 | cons m vs=>cases vs with
   | nil=>simp [gdD] at h
   | cons k vs=>cases vs with
     | cons _ _=>simp [gdD] at h
     | nil =>
      simp only [gdD] at h
      split at h
      · split at h
        · split at h<;>(cases h;rfl)
        · split at h
          · split at h
            · split at h<;>(cases h;rfl)
            · split at h<;>(cases h;rfl)
            · cases h
          · cases h
      · cases h
theorem zt6 {a:AI} {r:RL} (h:z27 a=some r):a.op.det=true∧a.sites=some ([],[])∧a.writes=a.dst.toList∧∀ ρ L σ G,zm a.dst a.op ρ L σ G=(r.val ρ σ G).map fun v=>((put ρ a.dst v,L,σ,G):St):=by
 obtain ⟨d,op,g⟩:=a
 unfold z27 at h
 simp only at h
 split at h
 · rename_i agg n x
   cases h
   refine ⟨rfl,rfl,by simp [AI.writes,AOp.takes],fun ρ L σ G=>?_⟩
   have:evP ρ (L::σ) G (.load agg n x .foreign)=evP ρ (zm5::σ) G (.load agg n x .foreign):=zgy (fun _ _=>rfl) fun g n x r e=>by cases e;exact .inr ⟨rfl,rfl⟩
   simp only [zm,RL.val,this]
 · rename_i ks z ok m k
   cases h
   refine ⟨rfl,rfl,by simp [AI.writes,AOp.takes],fun ρ L σ G=>?_⟩
   simp only [zm,RL.val]
   cases zx ρ [m,k] with
   | none=>rfl
   | some vs =>
    simp only [Option.map_map]
    cases hg:gdD (.mlook ks z ok) vs G with
    | none=>rfl
    | some p=>simp only [Option.map_some,Function.comp,zsg hg]
 · cases h
theorem zgz {ρ:Env} {d:Option Nat} {v:AV} {ts:List Nat} (h:zdx d.toList ts=true):∀ t∈ts,put ρ d v t=ρ t:=fun _ ht=>zac fun hd=>zae h hd ht
theorem zt7 {P:Program} {a b:AI} {r:RL} (hr:z27 a=some r) (hgd:a.guard=none∨a.guard=b.guard) (hsb:b.sites=some ([],[])) (h1:zdx a.writes b.foot=true) (h2:zdx b.writes a.foot=true) (h3:zdx a.writes (zfh [r])=true)
 {ls ls':List RL} (hin:r∈ls) (hsub:∀ r∈ls',r∈ls) (hl:zdx a.writes (zfh ls')=true) {st:St} {K:St→Prop}
 (hs:zaf P a st.1 st.2.1 st.2.2.1 st.2.2.2 fun st1=>zaf P (b.kp ls) st1.1 st1.2.1 st1.2.2.1 st1.2.2.2 K) :
 zaf P (b.kp ls') st.1 st.2.1 st.2.2.1 st.2.2.2 fun st3=>zaf P a st3.1 st3.2.1 st3.2.2.1 st3.2.2.2 K:=by
 obtain ⟨ρ,L,σ,G⟩:=st
 obtain ⟨hda,hsa,hw,hstep⟩:=zt6 hr
 rw [zay hda] at hs
 obtain ⟨⟨ρ1,L1,σ1,G1⟩,e1,hs⟩:=hs
 have hu:zfh [r]=r.uses:=by simp [zfh]
 rw [hu] at h3
 rcases zqo hs with ⟨hrun,hs⟩|⟨t,want,hg,hb,hk⟩
 · obtain ⟨la,_,_⟩:=zc5 hsa hda
   obtain ⟨_,c1,_⟩:=la ρ L ρ L σ G G _ _ _ _ (fun _ _=>rfl) (fun _ _=>rfl) (zcm.refl _ _) e1
   have hrun':b.guard=none∨∃ t want,b.guard=some (t,want)∧zh4 (ρ t) want=some true:=by
    rcases hrun with h|⟨t,want,hg,hb⟩
    · exact .inl h
    · exact .inr ⟨t,want,hg,by rw [← c1 t fun hw=>zae h1 hw (by simp [AI.foot,hg])];exact hb⟩
   have hrunA:a.guard=none∨∃ t want,a.guard=some (t,want)∧zh4 (ρ t) want=some true:=by
    rcases hgd with h|h
    · exact .inl h
    · rw [h];exact hrun'
   have e2:zm a.dst a.op ρ L σ G=some (ρ1,L1,σ1,G1):=by
    unfold zm4 at e1
    rcases hrunA with h|⟨t,want,hg,hb⟩
    · rw [h] at e1;exact e1
    · rw [hg] at e1;simp only [hb] at e1;exact e1
   rw [hstep,Option.map_eq_some_iff] at e2
   obtain ⟨v,hv,e2⟩:=e2
   cases e2
   have ha:zlj a.dst a.guard v ρ L σ G=some (put ρ a.dst v,L,σ,G):=by
    unfold zlj
    rcases hrunA with h|⟨t,want,hg,hb⟩
    · rw [h]
    · rw [hg];simp only [hb]
   refine zt4 hrun' ?_
   rw [hw] at h1 h3 hl
   have:=z3h (P:=P) hsb (zsf a.dst a.guard v) (fun t ht=>List.mem_append_left _ ht) h1 (zc6 h2 (fun _ h=>h) (fun t ht=>by
    simp only [AI.foot,List.mem_append] at ht ⊢
    rcases ht with ht|ht
    · exact .inl (.inl ht)
    · exact .inr ht)) (by simp [zdx]) (by simp [zdx]) (fun _ _ _ _ _=>rfl) ha hs
   refine zar (fun st3 ⟨st2,ef,hkp,hk⟩=>?_) this
   obtain ⟨ρ3,L3,σ3,G3⟩:=st3
   obtain ⟨v',ev',e3⟩:∃ v',st2=(put ρ3 a.dst v',L3,σ3,G3)∧zm4 a ρ3 L3 σ3 G3=some (put ρ3 a.dst v',L3,σ3,G3):=by
    have hval:∀ v',st2=(put ρ3 a.dst v',L3,σ3,G3)→r.val ρ3 σ3 G3=some v:=by
     intro v' e
     have:=hkp r hin
     rw [e] at this
     simp only at this
     rw [RL.val_congr (ρ2:=ρ3) (zgz h3),RL.val_congr (ρ1:=put ρ a.dst v) (ρ2:=ρ) (zgz h3),hv] at this
     exact this
    unfold zlj at ef
    unfold zm4
    cases hgA:a.guard with
    | none =>
     rw [hgA] at ef
     simp only [Option.some.injEq] at ef
     refine ⟨v,ef.symm,?_⟩
     simp only [hstep,hval v ef.symm,Option.map_some]
    | some p =>
     obtain ⟨t,want⟩:=p
     rw [hgA] at ef
     simp only at ef ⊢
     split at ef
     · rename_i hr'
       simp only [Option.some.injEq] at ef
       refine ⟨v,ef.symm,?_⟩
       simp only [hr',hstep,hval v ef.symm,Option.map_some]
     · rename_i hr'
       simp only [Option.some.injEq] at ef
       exact ⟨.skp,ef.symm,by rw [hr']⟩
     · cases ef
   subst ev'
   refine ⟨zjo (zgz hl) (st1:=(put ρ3 a.dst v',L3,σ3,G3)) (st2:=(ρ3,L3,σ3,G3)) (zgz hl) rfl rfl (zjp hsub hkp),?_⟩
   exact (zay hda).2 ⟨_,e3,hk⟩
 · exact znm hsa hda h1 h2 hg e1 hb hk (b.kp ls') rfl rfl
def nfW (isM:Bool) (C:Prop) (f:Nat→D) (cs:List D) (o:MO) (G:Gh) (R:AV→Gh→Prop):Prop :=
 C∧∀ b,(if isM=true then G.m b=none else G.c b=none)→R (.d (f b)) (if isM=true then G.setM b (some o) else G.set b (some cs))
theorem zzc (k:GN) (hk:k.new=true) (vs:List D):∃ isM C f cs o,∀ G R,gnW k vs G R↔nfW isM C f cs o G R:=by
 have no:(∀ G R,gnW k vs G R↔False)→∃ isM C f cs o,∀ G R,gnW k vs G R↔nfW isM C f cs o G R:=fun h =>
  ⟨true,False,fun _=>.nilP,[],.map [] 0,fun G R=>(h G R).trans ⟨fun e=>e.elim,fun e=>e.1⟩⟩
 cases k with
 | mkM =>
  cases vs with
  | nil=>exact ⟨true,True,fun r=>.mref r,[],.map [] 0,fun G R=>⟨fun h=>⟨trivial,h⟩,fun h=>h.2⟩⟩
  | cons _ _=>exact no fun G R=>Iff.rfl
 | alloc z =>
  cases vs with
  | nil=>exact ⟨false,True,fun b=>.gp b 0,z,.map [] 0,fun G R=>⟨fun h=>⟨trivial,h⟩,fun h=>h.2⟩⟩
  | cons _ _=>exact no fun G R=>Iff.rfl
 | box n =>
  cases vs with
  | nil=>exact no fun G R=>Iff.rfl
  | cons x xs=>cases xs with
    | nil=>exact ⟨false,zb n x=true,fun b=>.gp b 0,x.cells,.map [] 0,fun G R=>Iff.rfl⟩
    | cons _ _=>exact no fun G R=>Iff.rfl
 | mkSl a b z =>
  cases vs with
  | nil=>exact no fun G R=>Iff.rfl
  | cons x xs =>
   cases xs with
   | nil=>exact no fun G R=>by cases x<;>exact Iff.rfl
   | cons y ys =>
    cases ys with
    | cons _ _=>exact no fun G R=>by cases x<;>cases y<;>exact Iff.rfl
    | nil =>
     cases x with
     | int k1 n1 =>
      cases y with
      | int k2 n2=>exact ⟨false,0≤n1∧n1≤n2∧n2.toNat * b≤mostBytes,fun b=>.gs b 0 n1.toNat n2.toNat,rep n2.toNat z,.map [] 0,fun G R=>⟨fun h=>⟨⟨h.1,h.2.1,h.2.2.1⟩,h.2.2.2⟩,fun h=>⟨h.1.1,h.1.2.1,h.1.2.2,h.2⟩⟩⟩
      | _=>exact no fun G R=>Iff.rfl
     | _=>exact no fun G R=>by cases y<;>exact Iff.rfl
 | rng=>cases hk
 | nxt=>cases hk
theorem zl4 {α:Type} {f:Nat→α} {i j:Nat} (h:i≠j) (u v:α):upd (upd f i u) j v=upd (upd f j v) i u:=by
 funext k
 simp only [upd]
 by_cases h1:k=j
 · subst h1;rw [if_pos rfl,if_neg (fun e=>h e.symm),if_pos rfl]
 · rw [if_neg h1]
   by_cases h2:k=i
   · rw [if_pos h2,if_pos h2]
   · rw [if_neg h2,if_neg h2,if_neg h1]
theorem zxa {P:Program} {a b:AI} (h:z07 a b=true) {st:St} {K:St→Prop}
 (hs:zaf P a st.1 st.2.1 st.2.2.1 st.2.2.2 fun st1=>zaf P b st1.1 st1.2.1 st1.2.2.1 st1.2.2.2 K) :
 zaf P b st.1 st.2.1 st.2.2.1 st.2.2.2 fun st3=>zaf P a st3.1 st3.2.1 st3.2.2.1 st3.2.2.2 K:=by
 obtain ⟨ρ,L,σ,G⟩:=st
 obtain ⟨da,opa,ga⟩:=a
 obtain ⟨db,opb,gb⟩:=b
 simp only [z07,Bool.and_eq_true] at h
 obtain ⟨⟨⟨⟨⟨hga,hgb⟩,hna⟩,hnb⟩,h1⟩,h2⟩:=h
 cases ga with
 | some _=>cases hga
 | none =>
 cases gb with
 | some _=>cases hgb
 | none =>
 cases opa with
 | gn ka asa =>
  cases opb with
  | gn kb asb =>
   simp only [zvg] at hna hnb
   simp only [zaf,zax,zce] at hs ⊢
   have fb:∀ (v:AV),zx (put ρ db v) asa=zx ρ asa:=fun v=>za5 fun t ht=>zac fun hd=>zae h2 (by simp only [AI.writes,AOp.takes,List.append_nil];exact hd) (by simp only [AI.foot,AOp.uses,List.append_nil,List.mem_append];exact .inr ht)
   have fa:∀ (v:AV),zx (put ρ da v) asb=zx ρ asb:=fun v=>za5 fun t ht=>zac fun hd=>zae h1 (by simp only [AI.writes,AOp.takes,List.append_nil];exact hd) (by simp only [AI.foot,AOp.uses,List.append_nil,List.mem_append];exact .inr ht)
   have pc:∀ (u v:AV),put (put ρ da u) db v=put (put ρ db v) da u:=by
    intro u v
    cases da with
    | none=>rfl
    | some i =>
     cases db with
     | none=>rfl
     | some j =>
      have:i≠j:=by
       rintro rfl
       exact zae h1 (t:=i) (by simp [AI.writes]) (by simp [AI.foot])
      exact zl4 this u v
   cases hda:zx ρ asa with
   | none=>rw [hda] at hs;exact hs.elim
   | some vsa =>
    rw [hda] at hs
    simp only at hs
    obtain ⟨ma,Ca,f,ca,oa,ea⟩:=zzc ka hna vsa
    rw [ea] at hs
    obtain ⟨hCa,hs⟩:=hs
    obtain ⟨N,hN⟩:=G.fin
    have hfr:=hs N (by cases ma<;>simp [(hN N (Nat.le_refl _)).1,(hN N (Nat.le_refl _)).2])
    simp only [fa] at hfr
    cases hdb:zx ρ asb with
    | none=>rw [hdb] at hfr;exact hfr.elim
    | some vsb =>
     rw [hdb] at hfr
     simp only at hfr
     obtain ⟨mb,Cb,g,cb,ob,eb⟩:=zzc kb hnb vsb
     rw [eb] at hfr
     have hCb:=hfr.1
     simp only
     rw [eb]
     refine ⟨hCb,fun y hy=>?_⟩
     simp only [fb,hda]
     rw [ea]
     refine ⟨hCa,fun x hx=>?_⟩
     have hx0:(if ma=true then G.m x=none else G.c x=none)∧(ma=mb→x≠y):=by
      cases ma<;>cases mb<;>simp only [if_true,if_false,Bool.false_eq_true,Gh.set_c,Gh.set_m,Gh.setM_c,Gh.setM_m,upd] at hx ⊢
      · split at hx
        · cases hx
        · rename_i hne;exact ⟨hx,fun _=>hne⟩
      · exact ⟨hx,fun e=>by cases e⟩
      · exact ⟨hx,fun e=>by cases e⟩
      · split at hx
        · cases hx
        · rename_i hne;exact ⟨hx,fun _=>hne⟩
     have h3:=hs x hx0.1
     simp only [fa,hdb] at h3
     rw [eb] at h3
     have h4:=h3.2 y (by
      have hne:=hx0.2
      cases ma<;>cases mb<;>simp only [if_true,if_false,Bool.false_eq_true,Gh.set_c,Gh.set_m,Gh.setM_c,Gh.setM_m,upd] at hy hne ⊢
      · rw [if_neg (fun (e:y=x)=>hne trivial e.symm)];exact hy
      · exact hy
      · exact hy
      · rw [if_neg (fun (e:y=x)=>hne trivial e.symm)];exact hy)
     simp only at h4
     rw [pc] at h4
     have eG:(if mb=true then (if ma=true then G.setM x (some oa) else G.set x (some ca)).setM y (some ob) else (if ma=true then G.setM x (some oa) else G.set x (some ca)).set y (some cb)) =
      (if ma=true then (if mb=true then G.setM y (some ob) else G.set y (some cb)).setM x (some oa) else (if mb=true then G.setM y (some ob) else G.set y (some cb)).set x (some ca)):=by
      have hne:=hx0.2
      cases ma<;>cases mb<;>simp only [if_true,if_false,Bool.false_eq_true]<;>refine Gh.ext ?_ ?_<;>simp only [Gh.set_c,Gh.set_m,Gh.setM_c,Gh.setM_m]
      · rw [zl4 (hne rfl)]
      · rw [zl4 (hne rfl)]
     rw [eG] at h4
     exact h4
  | _=>cases hnb
 | _=>cases hna
end Go.E2
