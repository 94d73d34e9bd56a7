/-
 The evaluator's code is made of a loaded program's code by the function 'compile'.
 Conditions: none;this text states definitions alone.
-/
import Derived.Test.YtailhmffljoojaaEA
namespace Go.E2
def ofV:Value→Option D
 | .bool b=>some (.bool b)
 | .int k n=>some (.int k n)
 | .string s=>some (.str s.data.toList)
 | .slice none 0 0=>some .nilS
 | .pointer none=>some .nilP
 | .nilFunc=>some .nilF
 | .map none=>some .nilM
 | _=>none
def zxr:List Value→Option (List D)
 | []=>some []
 | v::vs=>match ofV v,zxr vs with|some x,some xs=>some (x::xs)|_,_=>none
def zc6 (P:Program) (t:TypeId):Option (List D) :=
 match P.info? t with
 | some i=>(match i.zero with|some z=>zxr z.cells.toList|none=>none)
 | none=>none
def tsz (P:Program) (t:TypeId):Option Nat:=(P.info? t).map (·.size)
def tby (P:Program) (t:TypeId):Option Nat:=(P.info? t).map (·.bytes)
def zi7:TypeDesc→Bool
 | .struct _=>true
 | .array _ _=>true
 | _=>false
def zfu (P:Program) (t:TypeId):Option Bool:=(P.underlying t).map zi7
def zdp (P:Program) (t:TypeId):Option TypeId:=match P.underlying t with|some (.slice e)=>some e|_=>none
def cO:Operand→Option AO
 | .tmp t=>some (.t t)
 | .const v=>(ofV v).map .c
 | .func f=>some (.c (.fn f))
 | .global g=>if (z39 g).isSome then some (.g g) else none
def cOs:List Operand→Option (List AO)
 | []=>some []
 | o::os=>match cO o,cOs os with|some x,some xs=>some (x::xs)|_,_=>none
def zh2 (place:Nat→Option (Nat×Nat)):List (Nat×Operand)→Option (List (Nat×Nat×AO))
 | []=>some []
 | (i,o)::ps=>match place i,cO o,zh2 place ps with|some (off,size),some x,some xs=>some ((off,size,x)::xs)|_,_,_=>none
def zeg:List (Nat×Operand)→Option (List (Nat×AO))
 | []=>some []
 | (i,o)::ps=>match cO o,zeg ps with|some x,some xs=>some ((i,x)::xs)|_,_=>none
def zb8 (P:Program) (fields:Array Field) (i:Nat):Option (Nat×Nat) :=
 match fields[i]? with
 | some f=>(match tsz P f.type with|some n=>some (f.offset,n)|none=>none)
 | none=>none
def zeh (P:Program) (rec:TypeId→Option (List Kd)):List Field→Nat→Option (List Kd)
 | [],_=>some []
 | f::fs,off =>
  if f.name ≠ "_" ∧ f.offset = off then
   match rec f.type with
   | some ks =>
    if tsz P f.type=some ks.length then
     (match zeh P rec fs (off+ks.length) with
     | some r=>some (ks++r)
     | none=>none)
    else none
   | none=>none
  else none
def zb0 (P:Program):Nat→TypeId→Option (List Kd)
 | 0,_=>none
 | d+1,t =>
  match P.underlying t with
  | some .bool=>some [.b]
  | some (.int _)=>some [.i]
  | some .string=>some [.s]
  | some (.struct fs)=>if P.stoodInHeld t then none else zeh P (zb0 P d) fs.toList 0
  | some (.array n e) =>
   (match zb0 P d e with
   | some ks=>if tsz P e=some ks.length then some (List.replicate n ks).flatten else none
   | none=>none)
  | _=>none
structure Ctx where
 P:Program
 nt:Nat
 defs:List Oper
 draw:Bool
 takes:List Nat
 /-- At these slots 'append' and 'buildSlice' give slices zbe blocks that may change. -/
 gs:List Nat
 /-- A region that draws its order reads a block that may change. -/
 reads:Bool
def znj (P:Program) (gs:List Nat) (defs:List Oper):Nat→Operand→Root
 | 0,_=>.foreign
 | n+1,.tmp t =>
  match defs.filter (·.dst == some t) with
  | [o]=>(match o.op with
    | .alloc _=>if gs.contains t then .foreign else .site t
    | .box _ _=>if gs.contains t then .foreign else .site t
    | .fieldAddr _ y _=>znj P gs defs n y
    | .indexAddr ty y _=>(match P.underlying ty with|some (.array _ _)=>znj P gs defs n y|_=>.foreign)
    | _=>.foreign)
  | _=>.foreign
 | _+1,_=>.foreign
def Ctx.root (c:Ctx) (x:Operand):Root:=if c.draw then znj c.P c.gs c.defs 20 x else .any
def Ctx.rootS (c:Ctx) (x:Operand):Root:=match c.root x with|.foreign=>.gp|r=>r
def zgk:Option Operand→Option (Option AO)
 | none=>some none
 | some o=>(cO o).map some
def zuh (P:Program) (e:TypeId):Bool:=match P.underlying e with|some (.int .u8)=>true|_=>false
def zoo (o:Option Operand):Bool :=
 match o with
 | some (.const (.int .i64 0))=>true
 | _=>false
def zpo (P:Program) (t:TypeId) (x:AO) (lo hi mx:Option Operand):Option AOp :=
 match P.underlying t with
 | some .string=>if mx.isSome then none else (match zgk lo,zgk hi with|some l,some h=>some (.slS x l h)|_,_=>none)
 | some (.slice e) =>
  match tsz P e with
  | none=>none
  | some sz =>
   match mx with
   | some mx'=>if lo.isNone && zoo hi && zoo mx then some (.sl0 sz x) else
     (match zgk lo,hi.bind cO,cO mx' with|some none,some h,some m=>some (.sl3L sz x h m)|some (some l),some h,some m=>some (.sl3 sz x (some l) h m)|_,_,_=>none)
   | none=>match zgk lo,zgk hi with|some l,some h=>some (.sl sz x l h)|_,_=>none
 | _=>none
def zj8 (h:Bool) (P:Program) (src dst:TypeId) (x:AO):Option AOp :=
 match P.underlying src,P.underlying dst with
 | some _,some (.int k)=>some (.conv k x)
 | some .string,some .string=>some (.slS x none none)
 | some (.slice e),some .string=>if zuh P e then some (.b2s x) else none
 | some .string,some (.slice e)=>if zuh P e && tsz P e == some 1 then some (if h then .append 1 0 (.c (.str [])) x else .s2b x) else none
 | _,_=>none
def zui (P:Program) (op:BinOp) (t:TypeId) (x y:AO):Option AOp :=
 match P.underlying t with
 | some (.int _)=>some (.bin op x y)
 | some .string=>some (.bin op x y)
 | some (.slice _)=>(match y,op with|.c .nilS,.eql=>some (.isnil false x)|.c .nilS,.neq=>some (.isnil true x)|_,_=>none)
 | some .bool=>(match op with|.eql=>some (.eqb false x y)|.neq=>some (.eqb true x y)|_=>none)
 | some (.struct _) =>
  (match zb0 P 8 t with
  | some ks=>if P.eqGuardType P.depth t then none else (match op with|.eql=>some (.eqs false ks x y)|.neq=>some (.eqs true ks x y)|_=>none)
  | none=>none)
 | some (.array _ _) =>
  (match zb0 P 8 t with
  | some ks=>if P.eqGuardType P.depth t then none else (match op with|.eql=>some (.eqs false ks x y)|.neq=>some (.eqs true ks x y)|_=>none)
  | none=>none)
 | _=>none
def zja (c:Ctx):Option Nat→Bool
 | some d=>c.gs.contains d
 | none=>false
def z6x:Operand→Bool
 | .func _=>true
 | _=>false
def zuj (P:Program):List Operand→List TypeId→Bool
 | o::os,t::ts=>(z6x o || (match P.underlying t with|some (.func _ _ _)=>false|_=>true)) && zuj P os ts
 | _,_=>true
def z1y (sz b:Nat) (z:List D):Bool:=match sz,b,z with|1,1,[.int .u8 0]=>true|_,_,_=>false
theorem zvj {sz b:Nat} {z:List D} (h:z1y sz b z=true):sz=1∧b=1∧z=[.int .u8 0]:=by
 unfold z1y at h
 split at h
 · exact ⟨rfl,rfl,rfl⟩
 · cases h
def zbr (c:Ctx) (dst:Option Nat) (cl:Call) (ty:TypeId):Option AOp :=
 match cl.callee with
 | .value f=>match cO f,cOs cl.args.toList with|some f',some as=>some (.call f' as (if c.draw then (if c.reads && !zja c dst then 1 else 2)+(if z6x f && zuj c.P cl.args.toList cl.argTypes.toList then 0 else 2) else 0))|_,_=>none
 | .builtin .len =>
  match cl.args.toList,cl.argTypes.toList with
  | [x],[t]=>(match cO x,c.P.underlying t with
    | some x,some .string=>some (.len true x)
    | some x,some (.slice _)=>some (.len false x)
    | _,_=>none)
  | _,_=>none
 | .builtin .append =>
  match cl.args.toList,cl.argTypes.toList with
  | [x,y],[t,u]=>(match cO x,cO y,zdp c.P t,zdp c.P u with
    | some x,some y,some e,some e'=>(match tsz c.P e,tby c.P e,zc6 c.P e with
      | some sz,some b,some z=>if e=e'∧0<sz∧0<b∧z.length=sz then some (if zja c dst then .appG sz b z x y else .append sz b x y) else none
      | _,_,_=>none)
    | some x,some y,some e,none=>(match tsz c.P e,tby c.P e,zc6 c.P e,c.P.underlying u with
      | some sz,some b,some z,some (.int _)=>if 0<sz∧0<b∧z.length=sz then some (if zja c dst && z1y sz b z then .append 0 0 x y else .appZ sz b z x y) else none
      | some sz,some b,some z,some .string=>if 0<sz∧0<b∧z.length=sz then some (if zja c dst then .appG sz b z x y else .append sz b x y) else none
      | _,_,_,_=>none)
    | _,_,_,_=>none)
  | _,_=>none
 | .builtin .cap =>
  match cl.args.toList,cl.argTypes.toList with
  | [x],[t]=>(match cO x,c.P.underlying t with
    | some x,some (.slice _)=>some (.cap x)
    | _,_=>none)
  | _,_=>none
 | .builtin .copy =>
  match cl.args.toList,cl.argTypes.toList with
  | [x,y],[t,u]=>(match cO x,cO y,zdp c.P t,zdp c.P u with
    | some x,some y,some e,some e'=>(match tsz c.P e with
      | some sz=>if e=e' then some (.copy sz x y) else none
      | none=>none)
    | _,_,_,_=>none)
  | _,_=>none
 | .builtin .max=>match cl.args.toList with|[x,y]=>(match cO x,cO y with|some x,some y=>some (.mx x y)|_,_=>none)|_=>none
 | .builtin .min=>match cl.args.toList with|[x,y]=>(match cO x,cO y with|some x,some y=>some (.mn x y)|_,_=>none)|_=>none
 | _=>let _:=ty;none
def cOp (c:Ctx) (dst:Option Nat) (ty:TypeId):Op→Option AOp
 | .move x=>(cO x).map (.mv (match dst with|some d=>c.takes.contains d|none=>false))
 | .assign x=>(cO x).map (.mv true)
 | .pick a b d=>match cO a,cO b,cO d with|some a,some b,some d=>some (.pick a b d)|_,_,_=>none
 | .alloc e=>(zc6 c.P e).map .alloc
 | .box e x=>match tsz c.P e,cO x with|some n,some x=>some (.box n x)|_,_=>none
 | .build t ps =>
  match zc6 c.P t,c.P.underlying t with
  | some z,some (.struct fs)=>if fs.all (fun f=>(c.P.info? f.type).isSome) then (zh2 (zb8 c.P fs) ps.toList).map (.build z) else none
  | some z,some (.array _ e)=>(match tsz c.P e with
    | some sz=>(zh2 (fun i=>some (i * sz,sz)) ps.toList).map (.build z)
    | none=>none)
  | _,_=>none
 | .buildSlice t n ps =>
  match zdp c.P t with
  | none=>none
  | some e=>match tsz c.P e,zc6 c.P e,zfu c.P e,zeg ps.toList with
    | some sz,some z,some a,some ps =>
     if 0<sz∧z.length=sz∧n * sz≤2 ^ 24 then
      (if a then some (if zja c dst then .mkG sz n (.agg z) ps else .mkslice sz n (.agg z) ps) else (match z with|[z]=>some (if zja c dst then .mkG sz n z ps else .mkslice sz n z ps)|_=>none)) else none
    | _,_,_,_=>none
 | .load t x=>match zfu c.P t,tsz c.P t,cO x with
   | some a,some n,some y=>if a || n == 1 then some (.load a n y (c.root x)) else none
   | _,_,_=>none
 | .store t a v=>match tsz c.P t,cO a,cO v with|some n,some a',some v=>some (.store n a' v (c.rootS a))|_,_,_=>none
 | .nilCheck x=>(cO x).map .nilck
 | .binOp op t x y _=>match cO x,cO y with|some x,some y=>zui c.P op t x y|_,_=>none
 | .unOp .not _ x=>(cO x).map .not
 | .unOp .neg _ x=>(cO x).map .neg
 | .unOp .xor t x=>match c.P.underlying t,cO x with|some (.int k),some x=>some (.bin .xor (.c (.int k (if k.signed then -1 else k.max))) x)|_,_=>none
 | .convert s d x=>match cO x with|some x=>zj8 (zja c dst) c.P s d x|none=>none
 | .makeFunc (.func f) first caps=>if first.isEmpty then (cOs caps.toList).map (.mkfunc f) else none
 | .slice t x lo hi mx=>match cO x with|some x=>zpo c.P t x lo hi mx|none=>none
 | .fieldAddr t x i =>
  match c.P.underlying t,cO x with
  | some (.struct fs),some x=>(match fs[i]? with
    | some f=>(match tsz c.P f.type with|some n=>if n=0 then none else some (.faddr f.offset x)|none=>none)
    | none=>none)
  | _,_=>none
 | .field t x i =>
  match c.P.underlying t,cO x with
  | some (.struct fs),some x=>(match fs[i]? with
    | some f=>(match tsz c.P f.type,zfu c.P f.type with|some n,some a=>if a || n == 1 then some (.field a f.offset n x) else none|_,_=>none)
    | none=>none)
  | _,_=>none
 | .indexAddr t x i =>
  match c.P.underlying t,cO x,cO i with
  | some (.slice e),some x,some i=>(match tsz c.P e with|some sz=>some (.iaddr sz x i)|none=>none)
  | some (.array n e),some x,some i=>(match tsz c.P e with|some sz=>some (.iaddrA n sz x i)|none=>none)
  | _,_,_=>none
 | .index t x i =>
  match c.P.underlying t,cO x,cO i with
  | some .string,some x,some i=>some (.idxS x i)
  | some (.array n e),some x,some i=>(match tsz c.P e,zfu c.P e with|some sz,some a=>if a || sz == 1 then some (.idxA a n sz x i) else none|_,_=>none)
  | _,_,_=>none
 | .extract x i=>(cO x).map (.ext · i)
 | .call cl=>zbr c dst cl ty
 | _=>none
def zD (P:Program) (e:TypeId):Option D :=
 match P.info? e with
 | some i =>
  (match i.zero with
  | some (.agg cs)=>(zxr cs.toList).map .agg
  | some v=>ofV v
  | none=>none)
 | none=>none
def zme (P:Program) (t:TypeId):Option (TypeId×TypeId):=match P.underlying t with|some (.map k e)=>some (k,e)|_=>none
def zvk:List (Option Operand)→Option (List AO)
 | []=>some []
 | none::os=>zvk os
 | some o::os=>match cO o,zvk os with|some x,some xs=>some (x::xs)|_,_=>none
def zj9:TypeDesc→Operand→Option Nat
 | .pointer _,.const (.pointer none)=>some 0
 | .map _ _,.const (.map none)=>some 1
 | .func _ _ _,.const .nilFunc=>some 2
 | _,_=>none
def z6y (P:Program) (t:TypeId):Option (Nat×TypeId) :=
 match P.underlying t with
 | some (.array n e)=>some (n,e)
 | some (.pointer a)=>(match P.underlying a with|some (.array n e)=>some (n,e)|_=>none)
 | _=>none
def zk2 (P:Program) (t:TypeId):Bool :=
 match P.underlying t with
 | some .bool=>true
 | some (.int _)=>true
 | some .string=>true
 | _=>false
def zph (P:Program) (t:TypeId):Option (List Kd) :=
 match P.underlying t with
 | some .bool=>some [.b]
 | some (.int _)=>some [.i]
 | some .string=>some [.s]
 | some (.struct fs)=>(match zb0 P 8 t with
   | some ks=>if (fs.toList.all fun f=>zk2 P f.type) && ks.length != 1 then some ks else none
   | none=>none)
 | _=>none
def zb4 (c:Ctx) (dst:Option Nat):Op→Option AOp
 | .alloc e=>if zja c dst then (match tsz c.P e,zc6 c.P e with|some n,some z=>if z.length=n then some (.gn (.alloc z) []) else none|_,_=>none) else none
 | .box e x=>if zja c dst then (match tsz c.P e,cO x with|some n,some x=>some (.gn (.box n) [x])|_,_=>none) else none
 | .makeMap t none=>(zme c.P t).map fun _=>.gn .mkM []
 | .makeSlice t l k =>
  (match zdp c.P t with
  | some e=>(match tsz c.P e,tby c.P e,zc6 c.P e,cO l,cO k with
    | some sz,some b,some z,some l,some k=>if 0<sz∧0<b∧z.length=sz then some (.gn (.mkSl sz b z) [l,k]) else none
    | _,_,_,_,_=>none)
  | none=>none)
 | .lookup t m k ok =>
  (match zme c.P t with
  | some (kt,e)=>(match zph c.P kt,zD c.P e,cO m,cO k with
    | some ks,some z,some m,some k=>some (.gd (.mlook ks z ok) [m,k])
    | _,_,_,_=>none)
  | none=>none)
 | .mapUpdate t m k v =>
  (match zme c.P t with
  | some (kt,_)=>(match zph c.P kt,cO m,cO k,cO v with
    | some ks,some m,some k,some v=>some (.gd (.mset ks) [m,k,v])
    | _,_,_,_=>none)
  | none=>none)
 | .insert t m k v =>
  (match zme c.P t with
  | some (kt,_)=>(match zph c.P kt,cO m,cO k,cO v with
    | some ks,some m,some k,some v=>some (.gd (.mset ks) [m,k,v])
    | _,_,_,_=>none)
  | none=>none)
 | .mapEntry t m k =>
  (match zme c.P t with
  | some (kt,e)=>(match zph c.P kt,zD c.P e,cO m,cO k with
    | some ks,some z,some m,some k=>some (.gd (.ment ks z) [m,k])
    | _,_,_,_=>none)
  | none=>none)
 | .entryStore t m s v =>
  (match zme c.P t with
  | some _=>(match cO m,cO s,cO v with
    | some m,some s,some v=>some (.gd .msto [m,s,v])
    | _,_,_=>none)
  | none=>none)
 | .range t m=>(match zme c.P t,cO m with|some _,some m=>some (.gn .rng [m])|_,_=>none)
 | .next it false=>(cO it).map fun it=>.gn .nxt [it]
 | .entry it=>(cO it).map fun it=>.gd .entry [it]
 | .binOp op t x y _ =>
  (match c.P.underlying t with
  | some d =>
   (match zj9 d y,cO x,op with
   | some k,some x',.eql=>some (.gd (.pnil k false) [x'])
   | some k,some x',.neq=>some (.gd (.pnil k true) [x'])
   | _,_,_=>none)
  | none=>none)
 | .makeFunc (.func f) first caps=>if first.isEmpty && zja c dst then (cOs caps.toList).map (.gd (.clo f)) else if caps.isEmpty && zja c dst then (cOs first.toList).map (.gd (.bnd f)) else none
 | .slice t x lo hi mx =>
  (match z6y c.P t with
  | some (n,e)=>(match tsz c.P e,cO x,zvk [lo,hi,mx] with
    | some sz,some x,some xs=>if mx.isSome && hi.isNone then none else some (.gd (.arrS sz n lo.isSome hi.isSome mx.isSome) (x::xs))
    | _,_,_=>none)
  | none=>none)
 | .sliceToArrayPointer arr x=>(match c.P.underlying arr,cO x with
   | some (.array n _),some x=>some (.gd (.s2a n) [x])
   | _,_=>none)
 | .convert s d x =>
  if zja c dst then (match c.P.underlying s,c.P.underlying d with
  | some (.slice e),some .string=>if zuh c.P e then (match tsz c.P e with|some 1=>(cO x).map fun x=>.gd .b2s [x]|_=>none) else none
  | _,_=>none) else none
 | .call cl =>
  (match cl.callee,cl.args.toList,cl.argTypes.toList with
  | .builtin .len,[x],[t]=>(match cO x,zme c.P t with|some x,some _=>some (.gd .mlen [x])|_,_=>none)
  | .builtin .delete,[m,k],t::_ =>
   (match zme c.P t with
   | some (kt,_)=>(match zph c.P kt,cO m,cO k with
     | some ks,some m,some k=>some (.gd (.mdel ks) [m,k])
     | _,_,_=>none)
   | none=>none)
  | .builtin .clear,[x],[t] =>
   (match zdp c.P t,cO x with
   | some e,some x=>(match tsz c.P e,zc6 c.P e with
     | some sz,some z=>if 0<sz∧z.length=sz then some (.gd (.clr sz z) [x]) else none
     | _,_=>none)
   | _,_=>none)
  | .builtin .copy,[x,y],[t,u] =>
   (match c.P.underlying u,zdp c.P t,cO x,cO y with
   | some .string,some e,some x,some y=>if zuh c.P e && tsz c.P e == some 1 then some (.gd .copyS [x,y]) else none
   | _,_,_,_=>none)
  | _,_,_=>none)
 | _=>none
def AOp.old:AOp→Bool
 | .gd _ _=>false
 | .gn _ _=>false
 | .kp _ _=>false
 | _=>true
def zy4 (c:Ctx) (dst:Option Nat) (ty:TypeId) (op:Op):Option AOp :=
 match zb4 c dst op with
 | some a=>some a
 | none=>match cOp c dst ty op with
   | some a=>if a.old then some a else none
   | none=>(match op with|.defer _=>none|_=>some (.gd .never []))
def zy5 (nt:Nat):Option Nat→Bool
 | some d=>decide (d<nt)
 | none=>true
def zmf (ops:Array Oper):Option (Nat×Bool)→Option (Option (Nat×Bool))
 | none=>some none
 | some (j,want)=>((ops[j]?).bind (·.dst)).map fun t=>some (t,want)
def zmg (c:Ctx) (ops:Array Oper) (o:Oper):Option AI :=
 match zy4 c o.dst o.type o.op,zmf ops o.guard with
 | some op,some g=>if zy5 c.nt o.dst then some { dst:=o.dst,op,guard:=g } else none
 | _,_=>none
def zfa (c:Ctx) (ops:Array Oper):List Oper→Option (List AI)
 | []=>some []
 | o::os=>match zmg c ops o,zfa c ops os with|some x,some xs=>some (x::xs)|_,_=>none
def AO.tmps:AO→List Nat
 | .t i=>[i]
 | .c _=>[]
 | .g _=>[]
def zop:Option AO→List Nat
 | some o=>o.tmps
 | none=>[]
def AOp.uses:AOp→List Nat
 | .mv _ x=>x.tmps
 | .pick a b c=>a.tmps++b.tmps++c.tmps
 | .alloc _=>[]
 | .box _ x=>x.tmps
 | .build _ ps=>ps.flatMap fun p=>p.2.2.tmps
 | .mkslice _ _ _ ps=>ps.flatMap fun p=>p.2.tmps
 | .load _ _ x _=>x.tmps
 | .store _ a v _=>a.tmps++v.tmps
 | .nilck x=>x.tmps
 | .bin _ x y=>x.tmps++y.tmps
 | .eqs _ _ x y=>x.tmps++y.tmps
 | .eqb _ x y=>x.tmps++y.tmps
 | .isnil _ x=>x.tmps
 | .not x=>x.tmps
 | .neg x=>x.tmps
 | .conv _ x=>x.tmps
 | .mkfunc _ cs=>cs.flatMap AO.tmps
 | .sl0 _ x=>x.tmps
 | .sl3L _ x h m=>x.tmps++h.tmps++m.tmps
 | .sl _ x l h=>x.tmps++zop l++zop h
 | .slS x l h=>x.tmps++zop l++zop h
 | .faddr _ x=>x.tmps
 | .field _ _ _ x=>x.tmps
 | .iaddr _ x i=>x.tmps++i.tmps
 | .iaddrA _ _ x i=>x.tmps++i.tmps
 | .idxS x i=>x.tmps++i.tmps
 | .idxA _ _ _ x i=>x.tmps++i.tmps
 | .ext x _=>x.tmps
 | .call f as _=>f.tmps++as.flatMap AO.tmps
 | .len _ x=>x.tmps
 | .append _ _ x y=>x.tmps++y.tmps
 | .mx x y=>x.tmps++y.tmps
 | .mn x y=>x.tmps++y.tmps
 | .b2s x=>x.tmps
 | .s2b x=>x.tmps
 | .cap x=>x.tmps
 | .sl3 _ x l h m=>x.tmps++zop l++h.tmps++m.tmps
 | .copy _ x y=>x.tmps++y.tmps
 | .appG _ _ _ x y=>x.tmps++y.tmps
 | .appZ _ _ _ x n=>x.tmps++n.tmps
 | .mkG _ _ _ ps=>ps.flatMap fun p=>p.2.tmps
 | .gd _ as=>as.flatMap AO.tmps
 | .gn _ as=>as.flatMap AO.tmps
 | .kp _ _=>[]
def AOp.takes:AOp→List Nat
 | .mv true x=>x.tmps
 | .append _ _ x _=>x.tmps
 | _=>[]
def AI.foot (a:AI):List Nat:=a.dst.toList++a.op.uses++(match a.guard with|some (t,_)=>[t]|none=>[])
def AI.writes (a:AI):List Nat:=a.dst.toList++a.op.takes
def AI.sites (a:AI):Option (List Nat×List Nat) :=
 match a.op with
 | .load _ _ _ (.site s)=>some ([s],[])
 | .load _ _ _ .foreign=>some ([],[])
 | .load _ _ _ .any=>none
 | .store _ _ _ (.site s)=>some ([s],[s])
 | .store _ _ _ .gp=>some ([],[])
 | .load _ _ _ .gp=>none
 | .store _ _ _ _=>none
 | .alloc _=>some (a.dst.toList,a.dst.toList)
 | .box _ _=>some (a.dst.toList,a.dst.toList)
 | .call _ _ q=>if q=0 then none else some ([],[])
 | .kp _ _=>none
 | _=>some ([],[])
def GN.new:GN→Bool
 | .mkM=>true
 | .box _=>true
 | .alloc _=>true
 | .mkSl _ _ _=>true
 | _=>false
inductive GUse where
 | no
 | rd
 | ext
 | wr
 deriving DecidableEq
def AI.gUse (a:AI):GUse :=
 match a.op with
 | .load _ _ _ (.site _)=>.no
 | .load _ _ _ _=>.rd
 | .store _ _ _ .gp=>.wr
 | .call _ _ q=>if q=1∨q=3 then .ext else .wr
 | .copy _ _ _=>.wr
 | .appG _ _ _ _ _=>.wr
 | .appZ _ _ _ _ _=>.wr
 | .mkG _ _ _ _=>.wr
 | .isnil _ _=>.rd
 | .gd k _=>if k.use=0 then .no else if k.use=1 then .rd else .wr
 | .gn k _=>if k.new then .ext else .wr
 | .kp _ _=>.wr
 | _=>.no
def gOk:GUse→GUse→Bool
 | .no,_=>true
 | _,.no=>true
 | .rd,.rd=>true
 | .rd,.ext=>true
 | _,_=>false
def zdd (x y:List Nat):Bool:=x.all fun t=>!y.contains t
def zxs (a b:AI):Bool :=
 (match b.op with|.call _ _ q=>decide (q<3) || (match a.sites with|some (_,wa)=>wa.isEmpty|none=>false)|_=>true) && zdd a.writes b.foot && zdd b.writes a.foot && gOk a.gUse b.gUse &&
 (match a.sites,b.sites with
 | some (ra,wa),some (rb,wb)=>zdd wa rb && zdd wb ra
 | _,_=>false)
def zk3:List Oper→List Nat→List Nat
 | [],acc=>acc
 | o::os,acc=>zk3 os (acc++[o.after.toList.foldl (fun s e=>if Region.binds .any e then s ||| 2 ^ e.on ||| acc.getD e.on 0 else s) 0])
def zpp (as:List AI) (i:Nat):Bool:=match as[i]? with|some a=>!a.op.det|none=>true
def zxt (a:AI):Option RL :=
 match a.op with
 | .load agg n x .foreign=>some (.ld agg n x)
 | .gd (.mlook ks z ok) [m,k]=>some (.mlook ks z ok m k)
 | _=>none
def RL.uses:RL→List Nat
 | .ld _ _ x=>x.tmps
 | .mlook _ _ _ m k=>m.tmps++k.tmps
def zfh (as:List AI) (l:List Nat):List RL:=l.filterMap fun i=>(as[i]?).bind zxt
def zei (ls:List RL):List Nat:=ls.flatMap RL.uses
def zoq (as:List AI) (l:List Nat) (a:AI):AI:=if l.isEmpty then a else { a with op:=.kp (zfh as l) a.op }
def zkv (ks:List (Nat×List Nat)) (j:Nat):List Nat:=match ks.find? (fun p=>p.1 == j) with|some p=>p.2|none=>[]
def zk4 (b:AI):Bool:=match b.sites with|some ([],[])=>true|_=>false
def zpq (a b:AI):Bool:=(zxt a).isSome && (a.guard.isNone || a.guard == b.guard) && zk4 b && zdd a.writes b.foot && zdd b.writes a.foot && zdd a.writes (zei (zxt a).toList)
def zpr (a:AI):Bool:=match a.op with|.gn k _=>k.new|_=>false
def zvl (a b:AI):Bool:=a.guard.isNone && b.guard.isNone && zpr a && zpr b && zdd a.writes b.foot && zdd b.writes a.foot
def zk5 (ms:List Nat) (as:List AI) (ks:List (Nat×List Nat)) (pre:List Nat) (i j:Nat):Bool :=
 (ms.getD j 0).testBit i || ((zkv ks i).isEmpty && (match as[i]?,as[j]? with
   | some a,some b =>
    (a.op.det && zdd a.writes (zei (zfh as ((zkv ks j).filter fun x=>pre.contains x))) &&
      ((zxs a b && (((zkv ks j).filter fun x=>pre.contains x).isEmpty || a.gUse == .no)) || ((zkv ks j).contains i && zpq a b))) ||
    ((zkv ks j).isEmpty && zvl a b)
   | _,_=>false))
def z4b (as:List AI) (i:Nat):Bool:=match as[i]? with|some a=>a.gUse == .wr|none=>true
def zcp (ms:List Nat) (as:List AI) (ks:List (Nat×List Nat)) (pre:List Nat):List Nat→Bool
 | []=>true
 | i::R=>(R.all fun j=>zk5 ms as ks pre i j) && zcp ms as ks (i::pre) R
def zps (ms:List Nat) (as:List AI) (pre:List Nat):List Nat→List (Nat×List Nat)
 | []=>[]
 | j::R=>(j,pre.reverse.filter fun i=>!(ms.getD j 0).testBit i && (match as[i]?,as[j]? with|some a,some b=>!zxs a b && zpq a b|_,_=>false))::zps ms as (j::pre) R
def zej (ops:Array Oper):List Nat→Bool
 | []=>true
 | i::R=>(match ops[i]? with|some o=>o.after.all fun e=>!Region.binds .any e || (e.on<ops.size && !((i::R).contains e.on))|none=>false) && zej ops R
def zmh (ops:Array Oper) (R:List Nat) (i:Nat):Bool:=match ops[i]? with|some o=>o.after.all fun e=>!Region.binds .any e || !(R.contains e.on)|none=>false
def zh3 (ops:Array Oper) (as:List AI):Nat→List Nat→List Nat
 | 0,R=>R
 | f+1,R =>
  match (R.filter (zmh ops R)).filter (fun i=>!zpp as i && !z4b as i) with
  | i::_=>i::zh3 ops as f (R.erase i)
  | []=>match (R.filter (zmh ops R)).filter (fun i=>!zpp as i) with
    | i::_=>i::zh3 ops as f (R.erase i)
    | []=>match R.filter (zmh ops R) with
      | i::_=>i::zh3 ops as f (R.erase i)
      | []=>R
def zy6 (ops:Array Oper) (as:List AI) (ks:List (Nat×List Nat)) (R:List Nat):Bool :=
 R.length == ops.size && decide R.Nodup && ((List.range ops.size).all fun j=>R.contains j) && (R.all fun i=>i<ops.size) && (as.all fun a=>a.sites.isSome) && zej ops R && zcp (zk3 ops.toList []) as ks [] R
def zpt (as:List AI) (ks:List (Nat×List Nat)):List Nat→Option (List AI)
 | []=>some []
 | i::R=>match as[i]?,zpt as ks R with|some a,some l=>some (zoq as (zkv ks i) a::l)|_,_=>none
def zvm (ops:List Oper):List Nat :=
 ops.filterMap fun o=>match o.op with
  | .call { callee:=.builtin .append,args,.. }=>(match (args[0]?:Option Operand) with|some (.tmp t)=>some t|_=>Option.none)
  | _=>none
def zmi (P:Program) (gs:List Nat) (defs:List Oper) (o:Oper):Bool :=
 match o.op with
 | .load _ x=>(match znj P gs defs 20 x with|.site _=>false|_=>true)
 | .lookup _ _ _ _=>true
 | .entry _=>true
 | .convert _ _ _=>(match o.dst with|some d=>gs.contains d|none=>false)
 | _=>false
def zb5:Code→List Oper
 | .region _ ops _=>ops.toList
 | .seq a b=>zb5 a++zb5 b
 | .cond _ a b=>zb5 a++zb5 b
 | .block _ b=>zb5 b
 | .scope b=>zb5 b
 | .loop b=>zb5 b
 | _=>[]
def zae (P:Program) (gs:List Nat) (nt:Nat) (defs:List Oper):Code→Option ACode
 | .skip=>some .skip
 | .region _ ops draw =>
  match zfa { P,nt,defs,draw,takes:=zvm ops.toList,gs,reads:=ops.toList.any (zmi P gs defs) } ops ops.toList with
  | some as =>
   if draw then
    let R:=zh3 ops as ops.size (List.range ops.size)
    let ks:=zps (zk3 ops.toList []) as [] R
    if zy6 ops as ks R then (zpt as ks R).map (.reg true) else none
   else some (.reg false as)
  | none=>none
 | .seq a b=>match zae P gs nt defs a,zae P gs nt defs b with|some a,some b=>some (.seq a b)|_,_=>none
 | .cond c a b=>match cO c,zae P gs nt defs a,zae P gs nt defs b with|some c,some a,some b=>some (.cond c a b)|_,_,_=>none
 | .block id b=>(zae P gs nt defs b).map (.block id)
 | .loop b=>(zae P gs nt defs b).map .loop
 | .scope b=>(zae P gs nt defs b).map .scope
 | .label _=>some .skip
 | .exit id=>some (.exit id)
 | .ret=>some .ret
 | .rangeFunc f ps a b=>match cO f,zae P gs nt (zb5 a++zb5 b) a,zae P gs nt (zb5 a++zb5 b) b with|some f,some x,some y=>if ps.all (·<nt) then some (.rangeF f ps.toList x y) else none|_,_,_=>none
 | _=>none
def zka (P:Program):List ResultVar→Option (List zft)
 | []=>some []
 | .tmp t::rs=>(zka P rs).map (.tmp t::·)
 | .cell a t::rs=>match zfu P t,tsz P t,zka P rs with
   | some g,some n,some rs=>if g || n == 1 then some (.cell a g n::rs) else none
   | _,_,_=>none
def zi (P:Program) (gs:List Nat) (f:FuncId):Option AFunc :=
 match P.funcs[f]? with
 | none=>none
 | some fn =>
  match fn.body with
  | none=>none
  | some c =>
   if fn.name == "runtime.NumGoroutine" then none else
   match zka P fn.results.toList,zae P gs fn.ntmps (zb5 c) c with
   | some res,some body=>some { nt:=fn.ntmps,res,body }
   | _,_=>none
end Go.E2
