/-
 Plain data,and what the package-level tables hold that the program reads and never writes.
 Conditions: none;this text states definitions alone.
-/
import Derived.Calls
import Derived.Still
namespace Go.E2
inductive D where
 | bool (b:Bool)
 | int (k:IntKind) (n:Int)
 | str (s:List UInt8)
 | agg (cs:List D)
 /-- A row of values that do not change any more; an empty one may be nil. -/
 | list (es:List D)
 /-- nil, as a slice. -/
 | nilS
 | nilP
 | nilF
 | fn (f:FuncId)
 /-- A slice zbv a block that may change, by its number. -/
 | gs (b off len cap:Nat)
 | gp (b off:Nat)
 /-- A function with what it has captured. -/
 | clo (f:FuncId) (ds:List D)
 /-- A function with its first arguments. -/
 | bnd (f:FuncId) (ds:List D)
 /-- A map that may change, by its number; none. -/
 | mref (r:Nat)
 | nilM
 /-- What a range zbv a function hands to this function. -/
 | yld (l:Nat)
 /-- A pointer as a value of an interface type, with its type's number; none. -/
 | ifc (t b off:Nat)
 | nilI
 deriving Inhabited
def z72 (_:Nat):Option (List D):=none
end Go.E2
namespace Go.E2
def D.cells:D→List D
 | .agg cs=>cs
 | x=>[x]
def D.one:D→Bool
 | .agg _=>false
 | _=>true
def zag (es:List D):List D:=es.flatMap D.cells
inductive AV where
 | d (x:D)
 | ptr (k s g off:Nat)
 | cptr (cs:List D)
 | func (f:FuncId) (caps:List (Nat×Nat×Nat))
 | own (sz:Nat) (es:List D)
 | tup (vs:List D)
 /-- Nothing was put there: the operation was zc4 zbv. -/
 | skp
 | undef
 deriving Inhabited
abbrev Env:=Nat→AV
def upd {α:Type} (f:Nat→α) (i:Nat) (v:α):Nat→α:=fun j=>if j=i then v else f j
inductive AO where
 | t (i:Nat)
 | c (x:D)
 /-- A table, by the number of its variable. -/
 | g (i:Nat)
 /-- A method of the interface value in a slot, by its type. -/
 | m (i:Nat) (tab:List (Nat×FuncId))
 deriving Inhabited
def ev (ρ:Env):AO→AV
 | .t i=>ρ i
 | .c x=>.d x
 | .g i=>(match z72 i with|some cs=>.cptr cs|none=>.undef)
 | .m i tab=>(match ρ i with|.d (.ifc t b off)=>(match tab.lookup t with|some f=>.d (.bnd f [.gp b off])|none=>.undef)|_=>.undef)
inductive Kd where
 | b
 | i
 | s
 deriving DecidableEq,Inhabited
inductive Root where
 | any
 | site (s:Nat)
 | foreign
 /-- A block that may change, by its number. -/
 | gp
 deriving DecidableEq,Inhabited
inductive GD where
 | mlook (ks:List Kd) (z:D) (ok:Bool)
 | mlen
 | mset (ks:List Kd)
 | mdel (ks:List Kd)
 | ment (ks:List Kd) (z:D)
 | msto
 | pnil (k:Nat) (neg:Bool)
 | arrS (sz n:Nat) (lo hi mx:Bool)
 /-- The pointer to the array that a slice begins with. -/
 | s2a (n:Nat)
 | clo (f:FuncId)
 | bnd (f:FuncId)
 | mkI (t:Nat)
 | b2s
 | clr (sz:Nat) (z:List D)
 | copyS
 | entry
 /-- What is not covered: it must not be reached. -/
 | never
 deriving Inhabited
inductive GN where
 | mkM
 | box (n:Nat)
 | alloc (z:List D)
 | mkSl (sz by_:Nat) (z:List D)
 | rng
 | nxt
 deriving Inhabited
inductive RL where
 | ld (agg:Bool) (n:Nat) (x:AO)
 | mlook (ks:List Kd) (z:D) (ok:Bool) (m k:AO)
 deriving Inhabited
inductive AOp where
 | mv (take:Bool) (x:AO)
 | pick (c a b:AO)
 | alloc (z:List D)
 | box (n:Nat) (x:AO)
 | build (z:List D) (ps:List (Nat×Nat×AO))
 | mkslice (sz n:Nat) (z:D) (ps:List (Nat×AO))
 | load (agg:Bool) (n:Nat) (x:AO) (r:Root)
 | store (n:Nat) (a v:AO) (r:Root)
 | nilck (x:AO)
 | bin (op:BinOp) (x y:AO)
 | eqs (neg:Bool) (ks:List Kd) (x y:AO)
 | eqb (neg:Bool) (x y:AO)
 | isnil (neg:Bool) (x:AO)
 | not (x:AO)
 | neg (x:AO)
 | conv (k:IntKind) (x:AO)
 | mkfunc (f:FuncId) (caps:List AO)
 | sl0 (sz:Nat) (x:AO)
 | sl3L (sz:Nat) (x hi mx:AO)
 | sl (sz:Nat) (x:AO) (lo hi:Option AO)
 | slS (x:AO) (lo hi:Option AO)
 | faddr (off:Nat) (x:AO)
 | field (agg:Bool) (off n:Nat) (x:AO)
 | iaddr (sz:Nat) (x i:AO)
 | iaddrA (len sz:Nat) (x i:AO)
 | idxS (x i:AO)
 | idxA (agg:Bool) (len sz:Nat) (x i:AO)
 | ext (x:AO) (i:Nat)
 /-- 'q': 0: it sees the boxes; 1: it sees none, and leaves what there is of blocks as it is; 2: it sees none; 3, 4: the same, but it sees the boxes and leaves them as they are. -/
 | call (f:AO) (args:List AO) (q:Nat)
 | len (str:Bool) (x:AO)
 | append (sz by_:Nat) (x y:AO)
 | mx (x y:AO)
 | mn (x y:AO)
 | b2s (x:AO)
 | s2b (x:AO)
 | cap (x:AO)
 | sl3 (sz:Nat) (x:AO) (lo:Option AO) (hi mx:AO)
 | copy (sz:Nat) (x y:AO)
 | appG (sz by_:Nat) (z:List D) (x y:AO)
 | appZ (sz by_:Nat) (z:List D) (x n:AO)
 | mkG (sz n:Nat) (z:D) (ps:List (Nat×AO))
 | gd (k:GD) (args:List AO)
 | gn (k:GN) (args:List AO)
 /-- An operation that must leave as it is what is read beside it. -/
 | kp (ls:List RL) (op:AOp)
 deriving Inhabited
def AOp.det:AOp→Bool
 | .call _ _ _=>false
 | .isnil _ _=>false
 | .appG _ _ _ _ _=>false
 | .appZ _ _ _ _ _=>false
 | .mkG _ _ _ _=>false
 | .gn _ _=>false
 | .kp _ _=>false
 | _=>true
structure AI where
 dst:Option Nat
 op:AOp
 guard:Option (Nat×Bool)
 deriving Inhabited
inductive ACode where
 | skip
 | reg (draw:Bool) (ops:List AI)
 | seq (a b:ACode)
 | cond (c:AO) (a b:ACode)
 | block (id:Nat) (b:ACode)
 | loop (b:ACode)
 | scope (b:ACode)
 | exit (id:Nat)
 | ret
 /-- A range zbv a function: the function, the slots of what it hands zbv, and the code of a round in two parts. -/
 | rangeF (f:AO) (ps:List Nat) (c1 c2:ACode)
 deriving Inhabited
inductive zaz where
 | normal
 | exit (id:Nat)
 | ret
 deriving Inhabited
structure Blk where
 g:Nat
 c:Option (List D)
 deriving Inhabited
abbrev Hp:=Nat→Blk
def zm5:Hp:=fun _=>⟨0,none⟩
structure ME where
 k:D
 v:D
 b:Nat
 deriving Inhabited
inductive MO where
 | map (es:List ME) (clock:Nat)
 | iter (m:Option Nat) (since:Nat) (seen:List Nat) (last:Nat)
 | loop (P:Program) (ρ:Env) (ps:List Nat) (c1 c2:ACode)
 | done (e:zaz)
structure Gh where
 c:Nat→Option (List D)
 m:Nat→Option MO
 /-- They are not infinitely many. -/
 fin:∃ N,∀ b,N≤b→c b=none∧m b=none
instance:CoeFun Gh (fun _=>Nat→Option (List D)):=⟨Gh.c⟩
def Gh.set (G:Gh) (b:Nat) (v:Option (List D)):Gh:=⟨upd G.c b v,G.m,by
 obtain ⟨N,h⟩:=G.fin
 exact ⟨N+b+1,fun i hi=>⟨by simp only [upd];rw [if_neg (by omega)];exact (h i (by omega)).1,(h i (by omega)).2⟩⟩⟩
def Gh.setM (G:Gh) (b:Nat) (v:Option MO):Gh:=⟨G.c,upd G.m b v,by
 obtain ⟨N,h⟩:=G.fin
 exact ⟨N+b+1,fun i hi=>⟨(h i (by omega)).1,by simp only [upd];rw [if_neg (by omega)];exact (h i (by omega)).2⟩⟩⟩
def zdi:Gh:=⟨fun _=>none,fun _=>none,0,fun _ _=>⟨rfl,rfl⟩⟩
theorem Gh.ext {G G':Gh} (hc:G.c=G'.c) (hm:G.m=G'.m):G=G':=by
 obtain ⟨c,m,h⟩:=G
 obtain ⟨c',m',h'⟩:=G'
 simp only at hc hm
 subst hc hm
 rfl
@[simp] theorem Gh.set_c (G:Gh) (b:Nat) (v:Option (List D)):(G.set b v).c=upd G.c b v:=rfl
@[simp] theorem Gh.set_m (G:Gh) (b:Nat) (v:Option (List D)):(G.set b v).m=G.m:=rfl
@[simp] theorem Gh.setM_c (G:Gh) (b:Nat) (v:Option MO):(G.setM b v).c=G.c:=rfl
@[simp] theorem Gh.setM_m (G:Gh) (b:Nat) (v:Option MO):(G.setM b v).m=upd G.m b v:=rfl
inductive zgl where
 | tmp (t:Nat)
 | cell (t:Nat) (agg:Bool) (n:Nat)
 deriving Inhabited
structure AFunc where
 nt:Nat
 res:List zgl
 body:ACode
 deriving Inhabited
def AV.cp:AV→AV
 | .own _ es=>.d (.list es)
 | v=>v
def AV.data:AV→Option D
 | .d x=>some x
 | .own _ es=>some (.list es)
 | _=>none
def put (ρ:Env) (d:Option Nat) (v:AV):Env :=
 match d with
 | some d=>upd ρ d v
 | none=>ρ
def zbv (cells vs:List D) (off:Nat):List D:=cells.take off++vs++cells.drop (off+vs.length)
def ziz (cells:List D):List (Nat×Nat×D)→Option (List D)
 | []=>some cells
 | (off,size,v)::ps=>if v.cells.length=size∧off+size≤cells.length then ziz (zbv cells v.cells off) ps else none
def zb (sz:Nat) (x:D):Bool:=x.cells.length == sz && x.cells.all D.one
def zcj (agg:Bool) (n:Nat) (cs:List D):Option D :=
 if agg then (if n≤cs.length then some (.agg (cs.take n)) else none)
 else cs.head?
def zb6 (op:BinOp):D→D→Option D
 | .int k a,.int k' b =>
  match op with
  | .shl=>if b<0 then none else some (.int k (k.wrap (a * 2 ^ (min b.toNat k.bits))))
  | .shr=>if b<0 then none else some (.int k (a.fdiv (2 ^ (min b.toNat k.bits))))
  | .add=>if k=k' then some (.int k (k.wrap (a+b))) else none
  | .sub=>if k=k' then some (.int k (k.wrap (a - b))) else none
  | .mul=>if k=k' then some (.int k (k.wrap (a * b))) else none
  | .quo=>if k=k'∧b≠0 then some (.int k (k.wrap (a.tdiv b))) else none
  | .rem=>if k=k'∧b≠0 then some (.int k (a.tmod b)) else none
  | .and=>if k=k' then some (.int k (k.wrap (BitVec.ofInt k.bits a &&& BitVec.ofInt k.bits b).toNat)) else none
  | .or=>if k=k' then some (.int k (k.wrap (BitVec.ofInt k.bits a ||| BitVec.ofInt k.bits b).toNat)) else none
  | .xor=>if k=k' then some (.int k (k.wrap (BitVec.ofInt k.bits a ^^^ BitVec.ofInt k.bits b).toNat)) else none
  | .andNot=>if k=k' then some (.int k (k.wrap (BitVec.ofInt k.bits a &&& ~~~ BitVec.ofInt k.bits b).toNat)) else none
  | .eql=>if k=k' then some (.bool (a == b)) else none
  | .neq=>if k=k' then some (.bool (a != b)) else none
  | .lss=>if k=k' then some (.bool (a<b)) else none
  | .leq=>if k=k' then some (.bool (a≤b)) else none
  | .gtr=>if k=k' then some (.bool (a > b)) else none
  | .geq=>if k=k' then some (.bool (a≥b)) else none
 | .str a,.str b =>
  match op with
  | .add=>if (a.length+b.length:Nat)<4611686018427387904 then some (.str (a++b)) else none
  | .eql=>some (.bool (a == b))
  | .neq=>some (.bool (!(a == b)))
  | .lss=>some (.bool (Op.bytesLess a b))
  | .leq=>some (.bool (Op.bytesLess a b || a == b))
  | .gtr=>some (.bool (!(Op.bytesLess a b || a == b)))
  | .geq=>some (.bool (!(Op.bytesLess a b)))
  | _=>none
 | _,_=>none
def zb0:Kd→D→D→Option Bool
 | .b,.bool a,.bool b=>some (a == b)
 | .i,.int k a,.int k' b=>if k=k' then some (a == b) else none
 | .s,.str a,.str b=>some (a == b)
 | _,_,_=>none
def zk:List Kd→List D→List D→Option Bool
 | [],[],[]=>some true
 | k::ks,x::xs,y::ys =>
  match zb0 k x y with
  | some b=>(match zk ks xs ys with|some c=>some (b && c)|none=>none)
  | none=>none
 | _,_,_=>none
def z73 (str:Bool):D→Option Int
 | .list es=>if str then none else some es.length
 | .str s=>if str then some s.length else none
 | .nilS=>if str then none else some 0
 | .gs _ _ len _=>if str then none else some len
 | _=>none
def zb2 (G:Gh) (sz:Nat):D→Option (Nat×List D)
 | .nilS=>some (0,[])
 | .list es=>if es.all (zb sz) then some (es.length,zag es) else none
 | .gs b off n _=>match G b with|some cs=>if off+n * sz≤cs.length then some (n,(cs.drop off).take (n * sz)) else none|none=>none
 | _=>none
def u8s (s:List UInt8):List D:=s.map fun b=>.int .u8 b.toNat
def zsz (G:Gh) (sz:Nat):D→Option (Nat×List D)
 | .str s=>if sz=1 then some (s.length,u8s s) else none
 | y=>zb2 G sz y
theorem zx5 {G:Gh} {sz:Nat} {y:D} {p:Nat×List D} (h:zb2 G sz y=some p):zsz G sz y=some p:=by
 cases y<;>first|exact h|(simp [zb2] at h)
def zbh:List D→Option (List UInt8)
 | []=>some []
 | .int .u8 n::xs=>(match zbh xs with|some l=>some (UInt8.ofNat n.toNat::l)|none=>none)
 | _=>none
def zx6 (sz:Nat):D→Option (List D)
 | .nilS=>some []
 | .list es=>if es.all (zb sz) then some es else none
 | .str s=>if sz=1 then some (u8s s) else none
 | _=>none
def mostBytes:Nat:=140737488355328
def zu9 (sz:Nat) (x:AV) (y:D):Option AV :=
 match x,y with
 | .d (.str []),.str s=>if sz=1∧s.length≤mostBytes then some (.own 1 (u8s s)) else none
 | .own s es,.int _ m=>if s=1∧sz=0∧0≤m∧es.length+m.toNat≤mostBytes then some (.own 1 (es++List.replicate m.toNat (.int .u8 0))) else none
 | _,_=>none
def zbc (sz by_:Nat) (x:AV) (y:D):Option AV :=
 if by_=0 then zu9 sz x y else
 match zx6 sz y with
 | none=>none
 | some ys =>
  match x with
  | .d .nilS=>if ys.length * by_≤mostBytes then (if ys.isEmpty then some (.d .nilS) else some (.own sz ys)) else none
  | .own sz' es=>if sz'=sz∧(es.length+ys.length) * by_≤mostBytes then some (.own sz (es++ys)) else none
  | _=>none
def bnd (ρ:Env) (dflt:Nat):Option AO→Option Int
 | none=>some dflt
 | some o=>match ev ρ o with|.d (.int _ n)=>some n|_=>none
def blk (lv:List Hp) (k s g:Nat):Option (List D) :=
 match lv[k]? with
 | some h=>if (h s).g=g then (h s).c else none
 | none=>none
def Root.foreignOk:Root→Bool
 | .site _=>false
 | _=>true
def zbw (r:Root) (k s:Nat):Bool :=
 match r with
 | .any=>true
 | .site r=>k == 0 && s == r
 | .foreign=>k != 0
 | .gp=>false
def zx (ρ:Env):List AO→Option (List D)
 | []=>some []
 | o::os=>match (ev ρ o).data,zx ρ os with|some x,some xs=>some (x::xs)|_,_=>none
def zpv:AV→Option (Nat×Nat×Nat)
 | .ptr k s g 0=>some (k,s,g)
 | _=>none
def evP (ρ:Env) (lv:List Hp) (G:Gh):AOp→Option AV
 | .mv _ x=>some (ev ρ x).cp
 | .pick c a b=>match ev ρ c with|.d (.bool t)=>some (if t then (ev ρ a).cp else (ev ρ b).cp)|_=>none
 | .build z ps =>
  match zx ρ (ps.map (·.2.2)) with
  | some vs=>(ziz z ((ps.zip vs).map fun (p,v)=>(p.1,p.2.1,v))).bind fun cs=>if cs.all D.one then some (.d (.agg cs)) else none
  | none=>none
 | .mkslice sz n z ps =>
  match zx ρ (ps.map (·.2)) with
  | some vs =>
   let es:=(ps.zip vs).foldl (fun es (p,v)=>es.set p.1 v) (List.replicate n z)
   if vs.all (zb sz) && zb sz z && (ps.all fun p=>p.1<n) then some (.own sz es) else none
  | none=>none
 | .load agg n x r =>
  match ev ρ x with
  | .ptr k s g off=>if zbw r k s then (match blk lv k s g with|some cs=>(zcj agg n (cs.drop off)).map .d|none=>none) else none
  | .cptr cs=>(zcj agg n cs).map .d
  | .d (.gp b off)=>if r.foreignOk then (match G b with|some cs=>(zcj agg n (cs.drop off)).map .d|none=>none) else none
  | _=>none
 | .nilck x=>match ev ρ x with|.ptr k s g off=>some (.ptr k s g off)|.cptr cs=>some (.cptr cs)|.func f c=>some (.func f c)|.d (.fn f)=>some (.d (.fn f))|.d (.gp b off)=>some (.d (.gp b off))|.d (.clo f ds)=>some (.d (.clo f ds))|.d (.yld l)=>some (.d (.yld l))|.d (.ifc t b off)=>some (.d (.ifc t b off))|_=>none
 | .bin op x y=>match ev ρ x,ev ρ y with|.d a,.d b=>(zb6 op a b).map .d|_,_=>none
 | .eqs neg ks x y=>match ev ρ x,ev ρ y with|.d (.agg a),.d (.agg b)=>(zk ks a b).map fun t=>.d (.bool (if neg then !t else t))|_,_=>none
 | .eqb neg x y=>match ev ρ x,ev ρ y with|.d (.bool a),.d (.bool b)=>some (.d (.bool (if neg then !(a == b) else a == b)))|_,_=>none
 | .isnil neg x=>match (ev ρ x).data with|some .nilS=>some (.d (.bool (!neg)))|some (.list (_::_))=>some (.d (.bool neg))|some (.gs _ _ _ _)=>some (.d (.bool neg))|_=>none
 | .not x=>match ev ρ x with|.d (.bool b)=>some (.d (.bool (!b)))|_=>none
 | .neg x=>match ev ρ x with|.d (.int k n)=>some (.d (.int k (k.wrap (0 - n))))|_=>none
 | .conv k x=>match ev ρ x with|.d (.int _ n)=>some (.d (.int k (k.wrap n)))|_=>none
 | .mkfunc f caps =>
  (caps.mapM fun o=>zpv (ev ρ o)).map (.func f)
 | .sl0 sz x=>match (ev ρ x).data with|some .nilS=>some (.d .nilS)|some (.list _)=>some (.own sz [])|_=>none
 | .sl3L sz x hi mx=>match (ev ρ x).data,ev ρ hi,ev ρ mx with|some (.list es),.d (.int .i64 a),.d (.int .i64 b)=>if es.all (zb sz)=true∧a=es.length∧b=es.length then some (.own sz es) else none|_,_,_=>none
 | .sl sz x lo hi =>
  match (ev ρ x).data with
  | some (.list es) =>
   if es.all (zb sz) then (match bnd ρ 0 lo,bnd ρ es.length hi with
    | some l,some h=>if 0≤l∧l≤h∧h≤es.length then some (.d (.list ((es.take h.toNat).drop l.toNat))) else none
    | _,_=>none) else none
  | some .nilS =>
   (match bnd ρ 0 lo,bnd ρ 0 hi with
     | some l,some h=>if l=0∧h=0 then some (.d .nilS) else none
     | _,_=>none)
  | some (.gs b off len cap) =>
   (match bnd ρ 0 lo,bnd ρ len hi with
     | some l,some h=>if 0≤l∧l≤h∧h≤cap then some (.d (.gs b (if cap=l.toNat then off else off+l.toNat * sz) (h.toNat - l.toNat) (cap - l.toNat))) else none
     | _,_=>none)
  | _=>none
 | .slS x lo hi =>
  match ev ρ x with
  | .d (.str s)=>(match bnd ρ 0 lo,bnd ρ s.length hi with
     | some l,some h=>if 0≤l∧l≤h∧h≤s.length then some (.d (.str ((s.take h.toNat).drop l.toNat))) else none
     | _,_=>none)
  | _=>none
 | .faddr off x=>match ev ρ x with|.ptr k s g o=>some (.ptr k s g (o+off))|.cptr cs=>some (.cptr (cs.drop off))|.d (.gp b o)=>some (.d (.gp b (o+off)))|_=>none
 | .field agg off n x=>match ev ρ x with|.d (.agg cs)=>(zcj agg n (cs.drop off)).map .d|_=>none
 | .iaddr sz x i =>
  match (ev ρ x).data,ev ρ i with
  | some (.list es),.d (.int _ n)=>if es.all (zb sz)∧0≤n then (es[n.toNat]?).map fun e=>.cptr e.cells else none
  | some (.gs b off len _),.d (.int _ n)=>if 0≤n∧n<len then some (.d (.gp b (off+n.toNat * sz))) else none
  | _,_=>none
 | .iaddrA len sz x i =>
  match ev ρ x,ev ρ i with
  | .ptr k s g o,.d (.int _ n)=>if 0≤n∧n<len then some (.ptr k s g (o+n.toNat * sz)) else none
  | .cptr cs,.d (.int _ n)=>if 0≤n∧n<len then some (.cptr (cs.drop (n.toNat * sz))) else none
  | .d (.gp b o),.d (.int _ n)=>if 0≤n∧n<len then some (.d (.gp b (o+n.toNat * sz))) else none
  | _,_=>none
 | .idxS x i =>
  match ev ρ x,ev ρ i with
  | .d (.str s),.d (.int _ n)=>if 0≤n then (s[n.toNat]?).map fun b=>.d (.int .u8 b.toNat) else none
  | _,_=>none
 | .idxA agg len sz x i =>
  match ev ρ x,ev ρ i with
  | .d (.agg cs),.d (.int _ n)=>if 0≤n∧n<len then (zcj agg sz (cs.drop (n.toNat * sz))).map .d else none
  | _,_=>none
 | .ext x i=>match ev ρ x with|.tup vs=>(vs[i]?).map .d|_=>none
 | .len str x=>match (ev ρ x).data with|some y=>(z73 str y).map fun n=>.d (.int .i64 n)|none=>none
 | .mx x y=>match ev ρ x,ev ρ y with|.d (.int k a),.d (.int _ b)=>some (.d (.int k (if b > a then b else a)))|_,_=>none
 | .mn x y=>match ev ρ x,ev ρ y with|.d (.int k a),.d (.int _ b)=>some (.d (.int k (if b<a then b else a)))|_,_=>none
 | .b2s x =>
  match (ev ρ x).data with
  | some .nilS=>some (.d (.str []))
  | some (.list es)=>(zbh es).map fun l=>.d (.str l)
  | _=>none
 | .s2b x=>match ev ρ x with|.d (.str s)=>some (.d (.list (s.map fun b=>.int .u8 b.toNat)))|_=>none
 | .cap x=>match (ev ρ x).data with|some .nilS=>some (.d (.int .i64 0))|some (.gs _ _ _ cap)=>some (.d (.int .i64 cap))|_=>none
 | .sl3 sz x lo hi mx =>
  match (ev ρ x).data with
  | some (.gs b off len cap) =>
   (match bnd ρ 0 lo,bnd ρ len (some hi),bnd ρ cap (some mx) with
     | some l,some h,some m=>if 0≤l∧l≤h∧h≤m∧m≤cap then some (.d (.gs b (if m.toNat=l.toNat then off else off+l.toNat * sz) (h.toNat - l.toNat) (m.toNat - l.toNat))) else none
     | _,_,_=>none)
  | _=>none
 | _=>none
def zh4 (v:AV) (want:Bool):Option Bool :=
 match v with
 | .d (.bool b)=>some (b == want)
 | .skp=>some false
 | _=>none
def zdb (ρ:Env):AO→Env
 | .t i=>upd ρ i (ρ i).cp
 | .c _=>ρ
 | .g _=>ρ
 | .m _ _=>ρ
abbrev St:=Env×Hp×List Hp×Gh
def zeq (ks:List Kd) (k:D):List ME→Nat→Option (Option (Nat×D))
 | [],_=>some none
 | e::es,i =>
  match (if k.one=e.k.one then zk ks k.cells e.k.cells else none) with
  | some true=>some (some (i,e.v))
  | some false=>zeq ks k es (i+1)
  | none=>none
def keyOk (ks:List Kd) (k:D):Bool:=(k.one || ks.length != 1) && (zk ks k.cells k.cells).isSome
def zfd (G:Gh):D→Option (List ME×Nat)
 | .mref r=>match G.m r with|some (.map es clock)=>some (es,clock)|_=>none
 | _=>none
def zva (f:Bool) (dflt:Nat):List D→Option (Int×List D)
 | .int k n::xs=>if f then some (n,xs) else some (dflt,.int k n::xs)
 | xs=>if f then none else some (dflt,xs)
def gdD (k:GD) (vs:List D) (G:Gh):Option (AV×Gh) :=
 match k,vs with
 | .mlook ks z ok,[m,key] =>
  if keyOk ks key then
   (match m with
   | .nilM=>some ((if ok then .tup [z,.bool false] else .d z:AV),G)
   | m=>match zfd G m with
     | some (es,_)=>(match zeq ks key es 0 with
       | some (some (_,v))=>some ((if ok then .tup [v,.bool true] else .d v:AV),G)
       | some none=>some ((if ok then .tup [z,.bool false] else .d z:AV),G)
       | none=>none)
     | none=>none)
  else none
 | .mlen,[m] =>
  match m with
  | .nilM=>some (.d (.int .i64 0),G)
  | m=>(zfd G m).map fun (es,_)=>(.d (.int .i64 es.length),G)
 | .mset ks,[.mref r,key,v] =>
  match zfd G (.mref r) with
  | some (es,clock)=>(match keyOk ks key,zeq ks key es 0 with
    | true,some (some (i,_))=>some (.undef,G.setM r (some (.map (es.modify i fun e=>⟨key,v,e.b⟩) clock)))
    | true,some none=>some (.undef,G.setM r (some (.map (es++[⟨key,v,clock⟩]) (clock+1))))
    | _,_=>none)
  | none=>none
 | .mdel ks,[m,key] =>
  match m with
  | .nilM=>if keyOk ks key then some (.tup [],G) else none
  | .mref r=>(match zfd G (.mref r) with
    | some (es,clock)=>(match keyOk ks key,zeq ks key es 0 with
      | true,some (some (i,_))=>some (.tup [],G.setM r (some (.map (es.eraseIdx i) clock)))
      | true,some none=>some (.tup [],G.setM r (some (.map es clock)))
      | _,_=>none)
    | none=>none)
  | _=>none
 | .ment ks z,[.mref r,key] =>
  match zfd G (.mref r) with
  | some (es,clock)=>(match keyOk ks key,zeq ks key es 0 with
    | true,some (some (i,v))=>some (.tup [v,.int .i64 (((es[i]?).map (·.b)).getD 0:Nat)],G.setM r (some (.map (es.modify i fun e=>⟨key,e.v,e.b⟩) clock)))
    | true,some none=>some (.tup [z,.int .i64 (clock:Nat)],G.setM r (some (.map (es++[⟨key,z,clock⟩]) (clock+1))))
    | _,_=>none)
  | none=>none
 | .msto,[.mref r,.int _ n,v] =>
  match zfd G (.mref r) with
  | some (es,clock)=>(match es.findIdx? (fun e=>decide ((e.b:Int)=n)) with
    | some i=>some (.undef,G.setM r (some (.map (es.modify i fun e=>⟨e.k,v,e.b⟩) clock)))
    | none=>none)
  | none=>none
 | .pnil 0 neg,[p] =>
  (match p with
  | .nilP=>some (.d (.bool (!neg)),G)
  | .gp _ _=>some (.d (.bool neg),G)
  | _=>none)
 | .pnil 1 neg,[p] =>
  (match p with
  | .nilM=>some (.d (.bool (!neg)),G)
  | .mref _=>some (.d (.bool neg),G)
  | _=>none)
 | .pnil 2 neg,[p] =>
  (match p with
  | .nilF=>some (.d (.bool (!neg)),G)
  | .fn _=>some (.d (.bool neg),G)
  | .clo _ _=>some (.d (.bool neg),G)
  | .bnd _ _=>some (.d (.bool neg),G)
  | .yld _=>some (.d (.bool neg),G)
  | _=>none)
 | .arrS sz n flo fhi fmx,.gp b off::xs =>
  match zva flo 0 xs with
  | some (l,xs)=>(match zva fhi n xs with
    | some (h,xs)=>(match zva fmx n xs with
      | some (m,[])=>if 0≤l∧l≤h∧h≤m∧m≤n then some (.d (.gs b (if m.toNat=l.toNat then off else off+l.toNat * sz) (h.toNat - l.toNat) (m.toNat - l.toNat)),G) else none
      | _=>none)
    | none=>none)
  | none=>none
 | .s2a n,[.gs b off len _]=>if n≤len then some (.d (.gp b off),G) else none
 | .clo f,ds=>if ds.all D.one then some (.d (.clo f ds),G) else none
 | .bnd f,ds=>if ds.all D.one then some (.d (.bnd f ds),G) else none
 | .mkI t,[.gp b off]=>some (.d (.ifc t b off),G)
 | .b2s,[x] =>
  match zb2 G 1 x with
  | some (_,cs)=>(zbh cs).map fun l=>(.d (.str l),G)
  | none=>none
 | .clr sz z,[x] =>
  match x with
  | .nilS=>some (.tup [],G)
  | .gs b off n _=>if n=0 then some (.tup [],G) else (match G b with
    | some cs=>if off+n * sz≤cs.length then some (.tup [],G.set b (some (zbv cs (List.replicate n z).flatten off))) else none
    | none=>none)
  | _=>none
 | .copyS,[.gs b off n _,.str s] =>
  match G b with
  | some cs=>if off+n≤cs.length then some (.d (.int .i64 (min n s.length:Nat)),G.set b (some (zbv cs ((s.take n).map fun u=>.int .u8 u.toNat) off))) else none
  | none=>none
 | .entry,[.gp r 0] =>
  match G.m r with
  | some (.iter (some q) _ seen last)=>(match seen.getLast?,G.m q with
    | some s,some (.map es clock)=>if clock=last then (es.find? (fun e=>e.b == s)).map fun e=>(.tup [e.k,e.v],G) else none
    | _,_=>none)
  | _=>none
 | _,_=>none
def RL.val (r:RL) (ρ:Env) (σ:List Hp) (G:Gh):Option AV :=
 match r with
 | .ld agg n x=>evP ρ (zm5::σ) G (.load agg n x .foreign)
 | .mlook ks z ok m k=>(match zx ρ [m,k] with|some vs=>(gdD (.mlook ks z ok) vs G).map (·.1)|none=>none)
def GD.use:GD→Nat
 | .mlook _ _ _=>1
 | .mlen=>1
 | .b2s=>1
 | .entry=>1
 | .pnil _ _=>0
 | .arrS _ _ _ _ _=>0
 | .s2a _=>0
 | .clo _=>0
 | .bnd _=>0
 | .mkI _=>0
 | _=>2
def zm (d:Option Nat) (op:AOp) (ρ:Env) (L:Hp) (σ:List Hp) (G:Gh):Option St :=
 match op with
 | .mv true x=>some (put (zdb ρ x) d (ev ρ x),L,σ,G)
 | .append sz by_ x y =>
  match d,(ev ρ y).data with
  | some d,some y=>(zbc sz by_ (ev ρ x) y).map fun v=>(upd (zdb ρ x) d v,L,σ,G)
  | _,_=>none
 | .alloc z =>
  match d with
  | some s=>some (upd ρ s (.ptr 0 s ((L s).g+1) 0),upd L s ⟨(L s).g+1,some z⟩,σ,G)
  | none=>none
 | .box n x =>
  match d,(ev ρ x).data with
  | some s,some y=>if zb n y then some (upd ρ s (.ptr 0 s ((L s).g+1) 0),upd L s ⟨(L s).g+1,some y.cells⟩,σ,G) else none
  | _,_=>none
 | .store n a v r =>
  match ev ρ a,(ev ρ v).data with
  | .ptr k s g off,some y =>
   if zbw r k s && zb n y then
    (match blk (L::σ) k s g with
    | some cs =>
     if off+n≤cs.length then
      (match k with
      | 0=>some (put ρ d .undef,upd L s ⟨g,some (zbv cs y.cells off)⟩,σ,G)
      | k+1=>match σ[k]? with
        | some h=>some (put ρ d .undef,L,σ.set k (upd h s ⟨g,some (zbv cs y.cells off)⟩),G)
        | none=>none)
     else none
    | none=>none)
   else none
  | .d (.gp b off),some y =>
   if r.foreignOk && zb n y then
    (match G b with
    | some cs=>if off+n≤cs.length then some (put ρ d .undef,L,σ,G.set b (some (zbv cs y.cells off))) else none
    | none=>none)
   else none
  | _,_=>none
 | .copy sz x y =>
  match ev ρ x,(ev ρ y).data with
  | .d (.gs b off len _),some y =>
   (match G b,zb2 G sz y with
   | some cs,some (m,ys)=>if off+len * sz≤cs.length then some (put ρ d (.d (.int .i64 (min len m))),L,σ,G.set b (some (zbv cs (ys.take (min len m * sz)) off))) else none
   | _,_=>none)
  | _,_=>none
 | .gd k args =>
  match zx ρ args with
  | some vs=>(gdD k vs G).map fun p=>(put ρ d p.1,L,σ,p.2)
  | none=>none
 | op=>(evP ρ (L::σ) G op).map fun v=>(put ρ d v,L,σ,G)
def rep (n:Nat) (z:List D):List D:=(List.replicate n z).flatten
def zs0 (d:Option Nat) (_sz by_:Nat) (z olds ys:List D) (n m:Nat) (ρ:Env) (L:Hp) (σ:List Hp) (G:Gh) (K:St→Prop):Prop :=
 (n+m) * by_≤mostBytes∧∀ b cap,G b=none→n+m≤cap→K (put ρ d (.d (.gs b 0 (n+m) cap)),L,σ,G.set b (some (olds++ys++rep (cap - (n+m)) z)))
def zs1 (d:Option Nat) (sz by_:Nat) (z:List D) (x:D) (m:Nat) (ys:List D) (ρ:Env) (L:Hp) (σ:List Hp) (G:Gh) (K:St→Prop):Prop :=
 match x with
 | .nilS=>if m=0 then K (put ρ d (.d .nilS),L,σ,G) else zs0 d sz by_ z [] ys 0 m ρ L σ G K
 | .gs b off n cap =>
  match G b with
  | some cs =>
   off+n * sz≤cs.length ∧
   if n+m≤cap then off+(n+m) * sz≤cs.length∧K (put ρ d (.d (.gs b off (n+m) cap)),L,σ,G.set b (some (zbv cs ys (off+n * sz))))
   else zs0 d sz by_ z ((cs.drop off).take (n * sz)) ys n m ρ L σ G K
  | none=>False
 | _=>False
def zx7 (_sz by_:Nat) (z olds ys:List D) (n m:Nat) (G:Gh) (R:AV→Gh→Prop):Prop :=
 (n+m) * by_≤mostBytes∧∀ b cap,G b=none→n+m≤cap→R (.d (.gs b 0 (n+m) cap)) (G.set b (some (olds++ys++rep (cap - (n+m)) z)))
def zvb (sz by_:Nat) (z:List D) (x:D) (m:Nat) (ys:List D) (G:Gh) (R:AV→Gh→Prop):Prop :=
 match x with
 | .nilS=>if m=0 then R (.d .nilS) G else zx7 sz by_ z [] ys 0 m G R
 | .gs b off n cap =>
  match G b with
  | some cs =>
   off+n * sz≤cs.length ∧
   if n+m≤cap then off+(n+m) * sz≤cs.length∧R (.d (.gs b off (n+m) cap)) (G.set b (some (zbv cs ys (off+n * sz))))
   else zx7 sz by_ z ((cs.drop off).take (n * sz)) ys n m G R
  | none=>False
 | _=>False
def gnW (k:GN) (vs:List D) (G:Gh) (R:AV→Gh→Prop):Prop :=
 match k,vs with
 | .mkM,[]=>∀ r,G.m r=none→R (.d (.mref r)) (G.setM r (some (.map [] 0)))
 | .box n,[x]=>zb n x=true∧∀ b,G b=none→R (.d (.gp b 0)) (G.set b (some x.cells))
 | .alloc z,[]=>∀ b,G b=none→R (.d (.gp b 0)) (G.set b (some z))
 | .mkSl _ by_ z,[.int _ l,.int _ c]=>0≤l∧l≤c∧c.toNat * by_≤mostBytes∧∀ b,G b=none→R (.d (.gs b 0 l.toNat c.toNat)) (G.set b (some (rep c.toNat z)))
 | .rng,[m] =>
  match m with
  | .nilM=>∀ r,G.m r=none→R (.d (.gp r 0)) (G.setM r (some (.iter none 0 [] 0)))
  | .mref q=>(match G.m q with
    | some (.map _ clock)=>∀ r,G.m r=none→R (.d (.gp r 0)) (G.setM r (some (.iter (some q) clock [] clock)))
    | _=>False)
  | _=>False
 | .nxt,[.gp r 0] =>
  match G.m r with
  | some (.iter none _ _ _)=>R (.tup [.bool false]) G
  | some (.iter (some q) since seen last) =>
   (match G.m q with
   | some (.map es clock) =>
    ((∀ e∈es,e.b<since)∧since≤last) ∧
    ((∀ e∈es,e.b∈seen)→R (.tup [.bool false]) G) ∧
    ∀ e∈es,e.b ∉ seen→R (.tup [.bool true,e.k,e.v]) (G.setM r (some (.iter (some q) since (seen++[e.b]) clock)))
   | _=>False)
  | _=>False
 | _,_=>False
def zce (d:Option Nat) (op:AOp) (ρ:Env) (L:Hp) (σ:List Hp) (G:Gh) (K:St→Prop):Prop :=
 match op with
 | .appG sz by_ z x y =>
  match ev ρ x,(ev ρ y).data with
  | .d x,some y=>(match zsz G sz y with|some (m,ys)=>zs1 d sz by_ z x m ys ρ L σ G K|none=>False)
  | _,_=>False
 | .appZ sz by_ z x n =>
  match ev ρ x,ev ρ n with
  | .d x,.d (.int _ m)=>0≤m∧m.toNat * by_≤mostBytes∧zs1 d sz by_ z x m.toNat (rep m.toNat z) ρ L σ G K
  | _,_=>False
 | .mkG sz n z ps =>
  match zx ρ (ps.map (·.2)) with
  | some vs =>
   (vs.all (zb sz) && zb sz z && (ps.all fun p=>p.1<n))=true ∧
   ∀ b,G b=none→K (put ρ d (.d (.gs b 0 n n)),L,σ,G.set b (some (zag ((ps.zip vs).foldl (fun es (p,v)=>es.set p.1 v) (List.replicate n z)))))
  | none=>False
 | .isnil neg x =>
  match (ev ρ x).data with
  | some (.list [])=>∀ t,K (put ρ d (.d (.bool t)),L,σ,G)
  | _=>∃ st,zm d (.isnil neg x) ρ L σ G=some st∧K st
 | .gn k args =>
  match zx ρ args with
  | some vs=>gnW k vs G fun r G'=>K (put ρ d r,L,σ,G')
  | none=>False
 | op=>∃ st,zm d op ρ L σ G=some st∧K st
def sh:AV→AV
 | .d x=>.d x
 | .own _ es=>.d (.list es)
 | .ptr k s g off=>.ptr (k+1) s g off
 | .cptr cs=>.cptr cs
 | .func f caps=>.func f (caps.map fun (k,s,g)=>(k+1,s,g))
 | .tup _=>.undef
 | .skp=>.undef
 | .undef=>.undef
def ofL (vs:List AV):Env:=fun i=>vs.getD i .undef
def target:AV→Option (FuncId×List AV)
 | .d (.fn f)=>some (f,[])
 | .d (.clo f ds)=>some (f,ds.map .d)
 | .func f caps=>some (f,caps.map fun (k,s,g)=>.ptr k s g 0)
 | _=>none
def zfe (ρ:Env) (lv:List Hp) (G:Gh):zgl→Option AV
 | .tmp t=>match ρ t with|.d x=>some (.d x)|.own sz es=>some (.own sz es)|_=>none
 | .cell t agg n=>match ρ t with
   | .ptr k s g off=>(match blk lv k s g with|some cs=>(zcj agg n (cs.drop off)).map .d|none=>none)
   | .d (.gp b off)=>(match G b with|some cs=>(zcj agg n (cs.drop off)).map .d|none=>none)
   | _=>none
def zev (ρ:Env) (lv:List Hp) (G:Gh):List zgl→Option (List D)
 | []=>some []
 | r::rs=>match zfe ρ lv G r,zev ρ lv G rs with
   | some v,some vs=>(match v.data with|some x=>some (x::vs)|none=>none)
   | _,_=>none
def fin (res:List zgl) (ρ:Env) (lv:List Hp) (G:Gh):Option AV :=
 match res with
 | [r]=>zfe ρ lv G r
 | rs=>(zev ρ lv G rs).map .tup
end Go.E2
namespace Go.E2
def ofV:Value→Option D
 | .bool b=>some (.bool b)
 | .int k n=>some (.int k n)
 | .string s=>some (.str s.data.toList)
 | .slice none 0 0=>some .nilS
 | .pointer none=>some .nilP
 | .nilFunc=>some .nilF
 | .map none=>some .nilM
 | .nilIface=>some .nilI
 | _=>none
def z25:List Value→Option (List D)
 | []=>some []
 | v::vs=>match ofV v,z25 vs with|some x,some xs=>some (x::xs)|_,_=>none
def zdo (P:Program) (t:TypeId):Option (List D) :=
 match P.info? t with
 | some i=>(match i.zero with|some z=>z25 z.cells.toList|none=>none)
 | none=>none
def tsz (P:Program) (t:TypeId):Option Nat:=(P.info? t).map (·.size)
def tby (P:Program) (t:TypeId):Option Nat:=(P.info? t).map (·.bytes)
def zky:TypeDesc→Bool
 | .struct _=>true
 | .array _ _=>true
 | _=>false
def zgu (P:Program) (t:TypeId):Option Bool:=(P.underlying t).map zky
def zea (P:Program) (t:TypeId):Option TypeId:=match P.underlying t with|some (.slice e)=>some e|_=>none
def cO:Operand→Option AO
 | .tmp t=>some (.t t)
 | .const v=>(ofV v).map .c
 | .func f=>some (.c (.fn f))
 | .global g=>if (z72 g).isSome then some (.g g) else none
def cOs:List Operand→Option (List AO)
 | []=>some []
 | o::os=>match cO o,cOs os with|some x,some xs=>some (x::xs)|_,_=>none
def zj8 (place:Nat→Option (Nat×Nat)):List (Nat×Operand)→Option (List (Nat×Nat×AO))
 | []=>some []
 | (i,o)::ps=>match place i,cO o,zj8 place ps with|some (off,size),some x,some xs=>some ((off,size,x)::xs)|_,_,_=>none
def zff:List (Nat×Operand)→Option (List (Nat×AO))
 | []=>some []
 | (i,o)::ps=>match cO o,zff ps with|some x,some xs=>some ((i,x)::xs)|_,_=>none
def zcu (P:Program) (fields:Array Field) (i:Nat):Option (Nat×Nat) :=
 match fields[i]? with
 | some f=>(match tsz P f.type with|some n=>some (f.offset,n)|none=>none)
 | none=>none
def zfg (P:Program) (rec:TypeId→Option (List Kd)):List Field→Nat→Option (List Kd)
 | [],_=>some []
 | f::fs,off =>
  if f.name ≠ "_" ∧ f.offset = off then
   match rec f.type with
   | some ks =>
    if tsz P f.type=some ks.length then
     (match zfg P rec fs (off+ks.length) with
     | some r=>some (ks++r)
     | none=>none)
    else none
   | none=>none
  else none
def zcf (P:Program):Nat→TypeId→Option (List Kd)
 | 0,_=>none
 | d+1,t =>
  match P.underlying t with
  | some .bool=>some [.b]
  | some (.int _)=>some [.i]
  | some .string=>some [.s]
  | some (.struct fs)=>if P.stoodInHeld t then none else zfg P (zcf P d) fs.toList 0
  | some (.array n e) =>
   (match zcf P d e with
   | some ks=>if tsz P e=some ks.length then some (List.replicate n ks).flatten else none
   | none=>none)
  | _=>none
structure Ctx where
 P:Program
 nt:Nat
 defs:List Oper
 draw:Bool
 takes:List Nat
 /-- At these slots 'append' and 'buildSlice' give slices zbv blocks that may change. -/
 gs:List Nat
 /-- A region that draws its order reads a block that may change. -/
 reads:Bool
def zra (P:Program) (gs:List Nat) (defs:List Oper):Nat→Operand→Root
 | 0,_=>.foreign
 | n+1,.tmp t =>
  match defs.filter (·.dst == some t) with
  | [o]=>(match o.op with
    | .alloc _=>if gs.contains t then .foreign else .site t
    | .box _ _=>if gs.contains t then .foreign else .site t
    | .fieldAddr _ y _=>zra P gs defs n y
    | .indexAddr ty y _=>(match P.underlying ty with|some (.array _ _)=>zra P gs defs n y|_=>.foreign)
    | _=>.foreign)
  | _=>.foreign
 | _+1,_=>.foreign
def Ctx.root (c:Ctx) (x:Operand):Root:=if c.draw then zra c.P c.gs c.defs 20 x else .any
def Ctx.rootS (c:Ctx) (x:Operand):Root:=match c.root x with|.foreign=>.gp|r=>r
def zh5:Option Operand→Option (Option AO)
 | none=>some none
 | some o=>(cO o).map some
def zzp (P:Program) (e:TypeId):Bool:=match P.underlying e with|some (.int .u8)=>true|_=>false
def zs2 (o:Option Operand):Bool :=
 match o with
 | some (.const (.int .i64 0))=>true
 | _=>false
def zvc (P:Program) (t:TypeId) (x:AO) (lo hi mx:Option Operand):Option AOp :=
 match P.underlying t with
 | some .string=>if mx.isSome then none else (match zh5 lo,zh5 hi with|some l,some h=>some (.slS x l h)|_,_=>none)
 | some (.slice e) =>
  match tsz P e with
  | none=>none
  | some sz =>
   match mx with
   | some mx'=>if lo.isNone && zs2 hi && zs2 mx then some (.sl0 sz x) else
     (match zh5 lo,hi.bind cO,cO mx' with|some none,some h,some m=>some (.sl3L sz x h m)|some (some l),some h,some m=>some (.sl3 sz x (some l) h m)|_,_,_=>none)
   | none=>match zh5 lo,zh5 hi with|some l,some h=>some (.sl sz x l h)|_,_=>none
 | _=>none
def zmj (h:Bool) (P:Program) (src dst:TypeId) (x:AO):Option AOp :=
 match P.underlying src,P.underlying dst with
 | some _,some (.int k)=>some (.conv k x)
 | some .string,some .string=>some (.slS x none none)
 | some (.slice e),some .string=>if zzp P e then some (.b2s x) else none
 | some .string,some (.slice e)=>if zzp P e && tsz P e == some 1 then some (if h then .append 1 0 (.c (.str [])) x else .s2b x) else none
 | _,_=>none
def zzq (P:Program) (op:BinOp) (t:TypeId) (x y:AO):Option AOp :=
 match P.underlying t with
 | some (.int _)=>some (.bin op x y)
 | some .string=>some (.bin op x y)
 | some (.slice _)=>(match y,op with|.c .nilS,.eql=>some (.isnil false x)|.c .nilS,.neq=>some (.isnil true x)|_,_=>none)
 | some .bool=>(match op with|.eql=>some (.eqb false x y)|.neq=>some (.eqb true x y)|_=>none)
 | some (.struct _) =>
  (match zcf P 8 t with
  | some ks=>if P.eqGuardType P.depth t then none else (match op with|.eql=>some (.eqs false ks x y)|.neq=>some (.eqs true ks x y)|_=>none)
  | none=>none)
 | some (.array _ _) =>
  (match zcf P 8 t with
  | some ks=>if P.eqGuardType P.depth t then none else (match op with|.eql=>some (.eqs false ks x y)|.neq=>some (.eqs true ks x y)|_=>none)
  | none=>none)
 | _=>none
def zkz (c:Ctx):Option Nat→Bool
 | some d=>c.gs.contains d
 | none=>false
def isFn:Operand→Bool
 | .func _=>true
 | _=>false
def zvd (P:Program):List Operand→List TypeId→Bool
 | o::os,t::ts=>(isFn o || (match P.underlying t with|some (.func _ _ _)=>false|_=>true)) && zvd P os ts
 | _,_=>true
def z74 (sz b:Nat) (z:List D):Bool:=match sz,b,z with|1,1,[.int .u8 0]=>true|_,_,_=>false
theorem z05 {sz b:Nat} {z:List D} (h:z74 sz b z=true):sz=1∧b=1∧z=[.int .u8 0]:=by
 unfold z74 at h
 split at h
 · exact ⟨rfl,rfl,rfl⟩
 · cases h
def zlo (P:Program) (name:String) (t:TypeId):Option FuncId :=
 match P.info? t with
 | some i =>
  (match i.methods.find? (·.name == name) with
  | some m=>if m.path.isEmpty then (match m.func,P.underlying t with|some (f,true),some (.pointer _)=>some f|_,_=>none) else none
  | none=>none)
 | none=>none
def zw3 (P:Program) (name:String):List (Nat×FuncId):=(List.range P.types.size).filterMap fun t=>(zlo P name t).map fun f=>(t,f)
def zck (c:Ctx) (dst:Option Nat) (cl:Call) (ty:TypeId):Option AOp :=
 match cl.callee with
 | .value f=>match cO f,cOs cl.args.toList with|some f',some as=>some (.call f' as (if c.draw then (if c.reads && !zkz c dst then 1 else 2)+(if isFn f && zvd c.P cl.args.toList cl.argTypes.toList then 0 else 2) else 0))|_,_=>none
 | .invoke (.tmp i) m=>(match cOs cl.args.toList with|some as=>some (.call (.m i (zw3 c.P m)) as (if c.draw then (if c.reads && !zkz c dst then 1 else 2)+(if zvd c.P cl.args.toList cl.argTypes.toList then 0 else 2) else 0))|none=>none)
 | .builtin .len =>
  match cl.args.toList,cl.argTypes.toList with
  | [x],[t]=>(match cO x,c.P.underlying t with
    | some x,some .string=>some (.len true x)
    | some x,some (.slice _)=>some (.len false x)
    | _,_=>none)
  | _,_=>none
 | .builtin .append =>
  match cl.args.toList,cl.argTypes.toList with
  | [x,y],[t,u]=>(match cO x,cO y,zea c.P t,zea c.P u with
    | some x,some y,some e,some e'=>(match tsz c.P e,tby c.P e,zdo c.P e with
      | some sz,some b,some z=>if e=e'∧0<sz∧0<b∧z.length=sz then some (if zkz c dst then .appG sz b z x y else .append sz b x y) else none
      | _,_,_=>none)
    | some x,some y,some e,none=>(match tsz c.P e,tby c.P e,zdo c.P e,c.P.underlying u with
      | some sz,some b,some z,some (.int _)=>if 0<sz∧0<b∧z.length=sz then some (if zkz c dst && z74 sz b z then .append 0 0 x y else .appZ sz b z x y) else none
      | some sz,some b,some z,some .string=>if 0<sz∧0<b∧z.length=sz then some (if zkz c dst then .appG sz b z x y else .append sz b x y) else none
      | _,_,_,_=>none)
    | _,_,_,_=>none)
  | _,_=>none
 | .builtin .cap =>
  match cl.args.toList,cl.argTypes.toList with
  | [x],[t]=>(match cO x,c.P.underlying t with
    | some x,some (.slice _)=>some (.cap x)
    | _,_=>none)
  | _,_=>none
 | .builtin .copy =>
  match cl.args.toList,cl.argTypes.toList with
  | [x,y],[t,u]=>(match cO x,cO y,zea c.P t,zea c.P u with
    | some x,some y,some e,some e'=>(match tsz c.P e with
      | some sz=>if e=e' then some (.copy sz x y) else none
      | none=>none)
    | _,_,_,_=>none)
  | _,_=>none
 | .builtin .max=>match cl.args.toList with|[x,y]=>(match cO x,cO y with|some x,some y=>some (.mx x y)|_,_=>none)|_=>none
 | .builtin .min=>match cl.args.toList with|[x,y]=>(match cO x,cO y with|some x,some y=>some (.mn x y)|_,_=>none)|_=>none
 | _=>let _:=ty;none
theorem zb5 {c:Ctx} {dst:Option Nat} {r:Operand} {m:String} {args:Array Operand} {ats:Array TypeId} {ty:TypeId} {aop:AOp} (h:zck c dst { callee:=.invoke r m,args,argTypes:=ats } ty=some aop) :
 ∃ i as q,r=.tmp i∧cOs args.toList=some as∧aop=.call (.m i (zw3 c.P m)) as q:=by
 cases r with
 | tmp i =>
  simp only [zck] at h
  split at h
  · rename_i as e;cases h;exact ⟨i,as,_,rfl,e,rfl⟩
  · cases h
 | _=>simp [zck] at h
def cOp (c:Ctx) (dst:Option Nat) (ty:TypeId):Op→Option AOp
 | .move x=>(cO x).map (.mv (match dst with|some d=>c.takes.contains d|none=>false))
 | .assign x=>(cO x).map (.mv true)
 | .pick a b d=>match cO a,cO b,cO d with|some a,some b,some d=>some (.pick a b d)|_,_,_=>none
 | .alloc e=>(zdo c.P e).map .alloc
 | .box e x=>match tsz c.P e,cO x with|some n,some x=>some (.box n x)|_,_=>none
 | .build t ps =>
  match zdo c.P t,c.P.underlying t with
  | some z,some (.struct fs)=>if fs.all (fun f=>(c.P.info? f.type).isSome) then (zj8 (zcu c.P fs) ps.toList).map (.build z) else none
  | some z,some (.array _ e)=>(match tsz c.P e with
    | some sz=>(zj8 (fun i=>some (i * sz,sz)) ps.toList).map (.build z)
    | none=>none)
  | _,_=>none
 | .buildSlice t n ps =>
  match zea c.P t with
  | none=>none
  | some e=>match tsz c.P e,zdo c.P e,zgu c.P e,zff ps.toList with
    | some sz,some z,some a,some ps =>
     if 0<sz∧z.length=sz∧n * sz≤2 ^ 24 then
      (if a then some (if zkz c dst then .mkG sz n (.agg z) ps else .mkslice sz n (.agg z) ps) else (match z with|[z]=>some (if zkz c dst then .mkG sz n z ps else .mkslice sz n z ps)|_=>none)) else none
    | _,_,_,_=>none
 | .load t x=>match zgu c.P t,tsz c.P t,cO x with
   | some a,some n,some y=>if a || n == 1 then some (.load a n y (c.root x)) else none
   | _,_,_=>none
 | .store t a v=>match tsz c.P t,cO a,cO v with|some n,some a',some v=>some (.store n a' v (c.rootS a))|_,_,_=>none
 | .nilCheck x=>(cO x).map .nilck
 | .binOp op t x y _=>match cO x,cO y with|some x,some y=>zzq c.P op t x y|_,_=>none
 | .unOp .not _ x=>(cO x).map .not
 | .unOp .neg _ x=>(cO x).map .neg
 | .unOp .xor t x=>match c.P.underlying t,cO x with|some (.int k),some x=>some (.bin .xor (.c (.int k (if k.signed then -1 else k.max))) x)|_,_=>none
 | .convert s d x=>match cO x with|some x=>zmj (zkz c dst) c.P s d x|none=>none
 | .makeFunc (.func f) first caps=>if first.isEmpty then (cOs caps.toList).map (.mkfunc f) else none
 | .slice t x lo hi mx=>match cO x with|some x=>zvc c.P t x lo hi mx|none=>none
 | .fieldAddr t x i =>
  match c.P.underlying t,cO x with
  | some (.struct fs),some x=>(match fs[i]? with
    | some f=>(match tsz c.P f.type with|some n=>if n=0 then none else some (.faddr f.offset x)|none=>none)
    | none=>none)
  | _,_=>none
 | .field t x i =>
  match c.P.underlying t,cO x with
  | some (.struct fs),some x=>(match fs[i]? with
    | some f=>(match tsz c.P f.type,zgu c.P f.type with|some n,some a=>if a || n == 1 then some (.field a f.offset n x) else none|_,_=>none)
    | none=>none)
  | _,_=>none
 | .indexAddr t x i =>
  match c.P.underlying t,cO x,cO i with
  | some (.slice e),some x,some i=>(match tsz c.P e with|some sz=>some (.iaddr sz x i)|none=>none)
  | some (.array n e),some x,some i=>(match tsz c.P e with|some sz=>some (.iaddrA n sz x i)|none=>none)
  | _,_,_=>none
 | .index t x i =>
  match c.P.underlying t,cO x,cO i with
  | some .string,some x,some i=>some (.idxS x i)
  | some (.array n e),some x,some i=>(match tsz c.P e,zgu c.P e with|some sz,some a=>if a || sz == 1 then some (.idxA a n sz x i) else none|_,_=>none)
  | _,_,_=>none
 | .extract x i=>(cO x).map (.ext · i)
 | .call cl=>zck c dst cl ty
 | _=>none
def zD (P:Program) (e:TypeId):Option D :=
 match P.info? e with
 | some i =>
  (match i.zero with
  | some (.agg cs)=>(z25 cs.toList).map .agg
  | some v=>ofV v
  | none=>none)
 | none=>none
def zpw (P:Program) (t:TypeId):Option (TypeId×TypeId):=match P.underlying t with|some (.map k e)=>some (k,e)|_=>none
def z06:List (Option Operand)→Option (List AO)
 | []=>some []
 | none::os=>z06 os
 | some o::os=>match cO o,z06 os with|some x,some xs=>some (x::xs)|_,_=>none
def zmk:TypeDesc→Operand→Option Nat
 | .pointer _,.const (.pointer none)=>some 0
 | .map _ _,.const (.map none)=>some 1
 | .func _ _ _,.const .nilFunc=>some 2
 | _,_=>none
def arrD (P:Program) (t:TypeId):Option (Nat×TypeId) :=
 match P.underlying t with
 | some (.array n e)=>some (n,e)
 | some (.pointer a)=>(match P.underlying a with|some (.array n e)=>some (n,e)|_=>none)
 | _=>none
def zn9 (P:Program) (t:TypeId):Bool :=
 match P.underlying t with
 | some .bool=>true
 | some (.int _)=>true
 | some .string=>true
 | _=>false
def ztl (P:Program) (t:TypeId):Option (List Kd) :=
 match P.underlying t with
 | some .bool=>some [.b]
 | some (.int _)=>some [.i]
 | some .string=>some [.s]
 | some (.struct fs)=>(match zcf P 8 t with
   | some ks=>if (fs.toList.all fun f=>zn9 P f.type) && ks.length != 1 then some ks else none
   | none=>none)
 | _=>none
def zcg (c:Ctx) (dst:Option Nat):Op→Option AOp
 | .alloc e=>if zkz c dst then (match tsz c.P e,zdo c.P e with|some n,some z=>if z.length=n then some (.gn (.alloc z) []) else none|_,_=>none) else none
 | .box e x=>if zkz c dst then (match tsz c.P e,cO x with|some n,some x=>some (.gn (.box n) [x])|_,_=>none) else none
 | .makeMap t none=>(zpw c.P t).map fun _=>.gn .mkM []
 | .makeSlice t l k =>
  (match zea c.P t with
  | some e=>(match tsz c.P e,tby c.P e,zdo c.P e,cO l,cO k with
    | some sz,some b,some z,some l,some k=>if 0<sz∧0<b∧z.length=sz then some (.gn (.mkSl sz b z) [l,k]) else none
    | _,_,_,_,_=>none)
  | none=>none)
 | .lookup t m k ok =>
  (match zpw c.P t with
  | some (kt,e)=>(match ztl c.P kt,zD c.P e,cO m,cO k with
    | some ks,some z,some m,some k=>some (.gd (.mlook ks z ok) [m,k])
    | _,_,_,_=>none)
  | none=>none)
 | .mapUpdate t m k v =>
  (match zpw c.P t with
  | some (kt,_)=>(match ztl c.P kt,cO m,cO k,cO v with
    | some ks,some m,some k,some v=>some (.gd (.mset ks) [m,k,v])
    | _,_,_,_=>none)
  | none=>none)
 | .insert t m k v =>
  (match zpw c.P t with
  | some (kt,_)=>(match ztl c.P kt,cO m,cO k,cO v with
    | some ks,some m,some k,some v=>some (.gd (.mset ks) [m,k,v])
    | _,_,_,_=>none)
  | none=>none)
 | .mapEntry t m k =>
  (match zpw c.P t with
  | some (kt,e)=>(match ztl c.P kt,zD c.P e,cO m,cO k with
    | some ks,some z,some m,some k=>some (.gd (.ment ks z) [m,k])
    | _,_,_,_=>none)
  | none=>none)
 | .entryStore t m s v =>
  (match zpw c.P t with
  | some _=>(match cO m,cO s,cO v with
    | some m,some s,some v=>some (.gd .msto [m,s,v])
    | _,_,_=>none)
  | none=>none)
 | .range t m=>(match zpw c.P t,cO m with|some _,some m=>some (.gn .rng [m])|_,_=>none)
 | .next it false=>(cO it).map fun it=>.gn .nxt [it]
 | .entry it=>(cO it).map fun it=>.gd .entry [it]
 | .binOp op t x y _ =>
  (match c.P.underlying t with
  | some d =>
   (match zmk d y,cO x,op with
   | some k,some x',.eql=>some (.gd (.pnil k false) [x'])
   | some k,some x',.neq=>some (.gd (.pnil k true) [x'])
   | _,_,_=>none)
  | none=>none)
 | .makeInterface t x=>(match c.P.underlying t,cO x with|some (.pointer _),some x=>some (.gd (.mkI t) [x])|_,_=>none)
 | .makeFunc (.func f) first caps=>if first.isEmpty && zkz c dst then (cOs caps.toList).map (.gd (.clo f)) else if caps.isEmpty && zkz c dst then (cOs first.toList).map (.gd (.bnd f)) else none
 | .slice t x lo hi mx =>
  (match arrD c.P t with
  | some (n,e)=>(match tsz c.P e,cO x,z06 [lo,hi,mx] with
    | some sz,some x,some xs=>if mx.isSome && hi.isNone then none else some (.gd (.arrS sz n lo.isSome hi.isSome mx.isSome) (x::xs))
    | _,_,_=>none)
  | none=>none)
 | .sliceToArrayPointer arr x=>(match c.P.underlying arr,cO x with
   | some (.array n _),some x=>some (.gd (.s2a n) [x])
   | _,_=>none)
 | .convert s d x =>
  if zkz c dst then (match c.P.underlying s,c.P.underlying d with
  | some (.slice e),some .string=>if zzp c.P e then (match tsz c.P e with|some 1=>(cO x).map fun x=>.gd .b2s [x]|_=>none) else none
  | _,_=>none) else none
 | .call cl =>
  (match cl.callee,cl.args.toList,cl.argTypes.toList with
  | .builtin .len,[x],[t]=>(match cO x,zpw c.P t with|some x,some _=>some (.gd .mlen [x])|_,_=>none)
  | .builtin .delete,[m,k],t::_ =>
   (match zpw c.P t with
   | some (kt,_)=>(match ztl c.P kt,cO m,cO k with
     | some ks,some m,some k=>some (.gd (.mdel ks) [m,k])
     | _,_,_=>none)
   | none=>none)
  | .builtin .clear,[x],[t] =>
   (match zea c.P t,cO x with
   | some e,some x=>(match tsz c.P e,zdo c.P e with
     | some sz,some z=>if 0<sz∧z.length=sz then some (.gd (.clr sz z) [x]) else none
     | _,_=>none)
   | _,_=>none)
  | .builtin .copy,[x,y],[t,u] =>
   (match c.P.underlying u,zea c.P t,cO x,cO y with
   | some .string,some e,some x,some y=>if zzp c.P e && tsz c.P e == some 1 then some (.gd .copyS [x,y]) else none
   | _,_,_,_=>none)
  | _,_,_=>none)
 | _=>none
def AOp.old:AOp→Bool
 | .gd _ _=>false
 | .gn _ _=>false
 | .kp _ _=>false
 | _=>true
def z5i (c:Ctx) (dst:Option Nat) (ty:TypeId) (op:Op):Option AOp :=
 match zcg c dst op with
 | some a=>some a
 | none=>match cOp c dst ty op with
   | some a=>if a.old then some a else none
   | none=>(match op with|.defer _=>none|_=>some (.gd .never []))
def z5j (nt:Nat):Option Nat→Bool
 | some d=>decide (d<nt)
 | none=>true
def zpx (ops:Array Oper):Option (Nat×Bool)→Option (Option (Nat×Bool))
 | none=>some none
 | some (j,want)=>((ops[j]?).bind (·.dst)).map fun t=>some (t,want)
def zpy (c:Ctx) (ops:Array Oper) (o:Oper):Option AI :=
 match z5i c o.dst o.type o.op,zpx ops o.guard with
 | some op,some g=>if z5j c.nt o.dst then some { dst:=o.dst,op,guard:=g } else none
 | _,_=>none
def zf8 (c:Ctx) (ops:Array Oper):List Oper→Option (List AI)
 | []=>some []
 | o::os=>match zpy c ops o,zf8 c ops os with|some x,some xs=>some (x::xs)|_,_=>none
def AO.tmps:AO→List Nat
 | .t i=>[i]
 | .c _=>[]
 | .g _=>[]
 | .m i _=>[i]
def zs3:Option AO→List Nat
 | some o=>o.tmps
 | none=>[]
def AOp.uses:AOp→List Nat
 | .mv _ x=>x.tmps
 | .pick a b c=>a.tmps++b.tmps++c.tmps
 | .alloc _=>[]
 | .box _ x=>x.tmps
 | .build _ ps=>ps.flatMap fun p=>p.2.2.tmps
 | .mkslice _ _ _ ps=>ps.flatMap fun p=>p.2.tmps
 | .load _ _ x _=>x.tmps
 | .store _ a v _=>a.tmps++v.tmps
 | .nilck x=>x.tmps
 | .bin _ x y=>x.tmps++y.tmps
 | .eqs _ _ x y=>x.tmps++y.tmps
 | .eqb _ x y=>x.tmps++y.tmps
 | .isnil _ x=>x.tmps
 | .not x=>x.tmps
 | .neg x=>x.tmps
 | .conv _ x=>x.tmps
 | .mkfunc _ cs=>cs.flatMap AO.tmps
 | .sl0 _ x=>x.tmps
 | .sl3L _ x h m=>x.tmps++h.tmps++m.tmps
 | .sl _ x l h=>x.tmps++zs3 l++zs3 h
 | .slS x l h=>x.tmps++zs3 l++zs3 h
 | .faddr _ x=>x.tmps
 | .field _ _ _ x=>x.tmps
 | .iaddr _ x i=>x.tmps++i.tmps
 | .iaddrA _ _ x i=>x.tmps++i.tmps
 | .idxS x i=>x.tmps++i.tmps
 | .idxA _ _ _ x i=>x.tmps++i.tmps
 | .ext x _=>x.tmps
 | .call f as _=>f.tmps++as.flatMap AO.tmps
 | .len _ x=>x.tmps
 | .append _ _ x y=>x.tmps++y.tmps
 | .mx x y=>x.tmps++y.tmps
 | .mn x y=>x.tmps++y.tmps
 | .b2s x=>x.tmps
 | .s2b x=>x.tmps
 | .cap x=>x.tmps
 | .sl3 _ x l h m=>x.tmps++zs3 l++h.tmps++m.tmps
 | .copy _ x y=>x.tmps++y.tmps
 | .appG _ _ _ x y=>x.tmps++y.tmps
 | .appZ _ _ _ x n=>x.tmps++n.tmps
 | .mkG _ _ _ ps=>ps.flatMap fun p=>p.2.tmps
 | .gd _ as=>as.flatMap AO.tmps
 | .gn _ as=>as.flatMap AO.tmps
 | .kp _ _=>[]
def AOp.takes:AOp→List Nat
 | .mv true x=>x.tmps
 | .append _ _ x _=>x.tmps
 | _=>[]
def AI.foot (a:AI):List Nat:=a.dst.toList++a.op.uses++(match a.guard with|some (t,_)=>[t]|none=>[])
def AI.writes (a:AI):List Nat:=a.dst.toList++a.op.takes
def AI.sites (a:AI):Option (List Nat×List Nat) :=
 match a.op with
 | .load _ _ _ (.site s)=>some ([s],[])
 | .load _ _ _ .foreign=>some ([],[])
 | .load _ _ _ .any=>none
 | .store _ _ _ (.site s)=>some ([s],[s])
 | .store _ _ _ .gp=>some ([],[])
 | .load _ _ _ .gp=>none
 | .store _ _ _ _=>none
 | .alloc _=>some (a.dst.toList,a.dst.toList)
 | .box _ _=>some (a.dst.toList,a.dst.toList)
 | .call _ _ q=>if q=0 then none else some ([],[])
 | .kp _ _=>none
 | _=>some ([],[])
def GN.new:GN→Bool
 | .mkM=>true
 | .box _=>true
 | .alloc _=>true
 | .mkSl _ _ _=>true
 | _=>false
inductive GUse where
 | no
 | rd
 | ext
 | wr
 deriving DecidableEq
def AI.gUse (a:AI):GUse :=
 match a.op with
 | .load _ _ _ (.site _)=>.no
 | .load _ _ _ _=>.rd
 | .store _ _ _ .gp=>.wr
 | .call _ _ q=>if q=1∨q=3 then .ext else .wr
 | .copy _ _ _=>.wr
 | .appG _ _ _ _ _=>.wr
 | .appZ _ _ _ _ _=>.wr
 | .mkG _ _ _ _=>.wr
 | .isnil _ _=>.rd
 | .gd k _=>if k.use=0 then .no else if k.use=1 then .rd else .wr
 | .gn k _=>if k.new then .ext else .wr
 | .kp _ _=>.wr
 | _=>.no
def gOk:GUse→GUse→Bool
 | .no,_=>true
 | _,.no=>true
 | .rd,.rd=>true
 | .rd,.ext=>true
 | _,_=>false
def zdx (x y:List Nat):Bool:=x.all fun t=>!y.contains t
def z26 (a b:AI):Bool :=
 (match b.op with|.call _ _ q=>decide (q<3) || (match a.sites with|some (_,wa)=>wa.isEmpty|none=>false)|_=>true) && zdx a.writes b.foot && zdx b.writes a.foot && gOk a.gUse b.gUse &&
 (match a.sites,b.sites with
 | some (ra,wa),some (rb,wb)=>zdx wa rb && zdx wb ra
 | _,_=>false)
def zoa:List Oper→List Nat→List Nat
 | [],acc=>acc
 | o::os,acc=>zoa os (acc++[o.after.toList.foldl (fun s e=>if Region.binds .any e then s ||| 2 ^ e.on ||| acc.getD e.on 0 else s) 0])
def zve (as:List AI) (i:Nat):Bool:=match as[i]? with|some a=>!a.op.det|none=>true
def z27 (a:AI):Option RL :=
 match a.op with
 | .load agg n x .foreign=>some (.ld agg n x)
 | .gd (.mlook ks z ok) [m,k]=>some (.mlook ks z ok m k)
 | _=>none
def RL.uses:RL→List Nat
 | .ld _ _ x=>x.tmps
 | .mlook _ _ _ m k=>m.tmps++k.tmps
def zgm (as:List AI) (l:List Nat):List RL:=l.filterMap fun i=>(as[i]?).bind z27
def zfh (ls:List RL):List Nat:=ls.flatMap RL.uses
def zs4 (as:List AI) (l:List Nat) (a:AI):AI:=if l.isEmpty then a else { a with op:=.kp (zgm as l) a.op }
def zm6 (ks:List (Nat×List Nat)) (j:Nat):List Nat:=match ks.find? (fun p=>p.1 == j) with|some p=>p.2|none=>[]
def zob (b:AI):Bool:=match b.sites with|some ([],[])=>true|_=>false
def zvf (a b:AI):Bool:=(z27 a).isSome && (a.guard.isNone || a.guard == b.guard) && zob b && zdx a.writes b.foot && zdx b.writes a.foot && zdx a.writes (zfh (z27 a).toList)
def zvg (a:AI):Bool:=match a.op with|.gn k _=>k.new|_=>false
def z07 (a b:AI):Bool:=a.guard.isNone && b.guard.isNone && zvg a && zvg b && zdx a.writes b.foot && zdx b.writes a.foot
def zoc (ms:List Nat) (as:List AI) (ks:List (Nat×List Nat)) (pre:List Nat) (i j:Nat):Bool :=
 (ms.getD j 0).testBit i || ((zm6 ks i).isEmpty && (match as[i]?,as[j]? with
   | some a,some b =>
    (a.op.det && zdx a.writes (zfh (zgm as ((zm6 ks j).filter fun x=>pre.contains x))) &&
      ((z26 a b && (((zm6 ks j).filter fun x=>pre.contains x).isEmpty || a.gUse == .no)) || ((zm6 ks j).contains i && zvf a b))) ||
    ((zm6 ks j).isEmpty && z07 a b)
   | _,_=>false))
def z99 (as:List AI) (i:Nat):Bool:=match as[i]? with|some a=>a.gUse == .wr|none=>true
def zc0 (ms:List Nat) (as:List AI) (ks:List (Nat×List Nat)) (pre:List Nat):List Nat→Bool
 | []=>true
 | i::R=>(R.all fun j=>zoc ms as ks pre i j) && zc0 ms as ks (i::pre) R
def zvh (ms:List Nat) (as:List AI) (pre:List Nat):List Nat→List (Nat×List Nat)
 | []=>[]
 | j::R=>(j,pre.reverse.filter fun i=>!(ms.getD j 0).testBit i && (match as[i]?,as[j]? with|some a,some b=>!z26 a b && zvf a b|_,_=>false))::zvh ms as (j::pre) R
def zfi (ops:Array Oper):List Nat→Bool
 | []=>true
 | i::R=>(match ops[i]? with|some o=>o.after.all fun e=>!Region.binds .any e || (e.on<ops.size && !((i::R).contains e.on))|none=>false) && zfi ops R
def zpz (ops:Array Oper) (R:List Nat) (i:Nat):Bool:=match ops[i]? with|some o=>o.after.all fun e=>!Region.binds .any e || !(R.contains e.on)|none=>false
def zj9 (ops:Array Oper) (as:List AI):Nat→List Nat→List Nat
 | 0,R=>R
 | f+1,R =>
  match (R.filter (zpz ops R)).filter (fun i=>!zve as i && !z99 as i) with
  | i::_=>i::zj9 ops as f (R.erase i)
  | []=>match (R.filter (zpz ops R)).filter (fun i=>!zve as i) with
    | i::_=>i::zj9 ops as f (R.erase i)
    | []=>match R.filter (zpz ops R) with
      | i::_=>i::zj9 ops as f (R.erase i)
      | []=>R
def z5k (ops:Array Oper) (as:List AI) (ks:List (Nat×List Nat)) (R:List Nat):Bool :=
 R.length == ops.size && decide R.Nodup && ((List.range ops.size).all fun j=>R.contains j) && (R.all fun i=>i<ops.size) && (as.all fun a=>a.sites.isSome) && zfi ops R && zc0 (zoa ops.toList []) as ks [] R
def zvi (as:List AI) (ks:List (Nat×List Nat)):List Nat→Option (List AI)
 | []=>some []
 | i::R=>match as[i]?,zvi as ks R with|some a,some l=>some (zs4 as (zm6 ks i) a::l)|_,_=>none
def z08 (ops:List Oper):List Nat :=
 ops.filterMap fun o=>match o.op with
  | .call { callee:=.builtin .append,args,.. }=>(match (args[0]?:Option Operand) with|some (.tmp t)=>some t|_=>Option.none)
  | _=>none
def zp0 (P:Program) (gs:List Nat) (defs:List Oper) (o:Oper):Bool :=
 match o.op with
 | .load _ x=>(match zra P gs defs 20 x with|.site _=>false|_=>true)
 | .lookup _ _ _ _=>true
 | .entry _=>true
 | .convert _ _ _=>(match o.dst with|some d=>gs.contains d|none=>false)
 | _=>false
def zbn:Code→List Oper
 | .region _ ops _=>ops.toList
 | .seq a b=>zbn a++zbn b
 | .cond _ a b=>zbn a++zbn b
 | .block _ b=>zbn b
 | .scope b=>zbn b
 | .loop b=>zbn b
 | _=>[]
def zai (P:Program) (gs:List Nat) (nt:Nat) (defs:List Oper):Code→Option ACode
 | .skip=>some .skip
 | .region _ ops draw =>
  match zf8 { P,nt,defs,draw,takes:=z08 ops.toList,gs,reads:=ops.toList.any (zp0 P gs defs) } ops ops.toList with
  | some as =>
   if draw then
    let R:=zj9 ops as ops.size (List.range ops.size)
    let ks:=zvh (zoa ops.toList []) as [] R
    if z5k ops as ks R then (zvi as ks R).map (.reg true) else none
   else some (.reg false as)
  | none=>none
 | .seq a b=>match zai P gs nt defs a,zai P gs nt defs b with|some a,some b=>some (.seq a b)|_,_=>none
 | .cond c a b=>match cO c,zai P gs nt defs a,zai P gs nt defs b with|some c,some a,some b=>some (.cond c a b)|_,_,_=>none
 | .block id b=>(zai P gs nt defs b).map (.block id)
 | .loop b=>(zai P gs nt defs b).map .loop
 | .scope b=>(zai P gs nt defs b).map .scope
 | .label _=>some .skip
 | .exit id=>some (.exit id)
 | .ret=>some .ret
 | .rangeFunc f ps a b=>match cO f,zai P gs nt (zbn a++zbn b) a,zai P gs nt (zbn a++zbn b) b with|some f,some x,some y=>if ps.all (·<nt) then some (.rangeF f ps.toList x y) else none|_,_,_=>none
 | _=>none
def zk0 (P:Program):List ResultVar→Option (List zgl)
 | []=>some []
 | .tmp t::rs=>(zk0 P rs).map (.tmp t::·)
 | .cell a t::rs=>match zgu P t,tsz P t,zk0 P rs with
   | some g,some n,some rs=>if g || n == 1 then some (.cell a g n::rs) else none
   | _,_,_=>none
def zf (P:Program) (gs:List Nat) (f:FuncId):Option AFunc :=
 match P.funcs[f]? with
 | none=>none
 | some fn =>
  match fn.body with
  | none=>none
  | some c =>
   if fn.name == "runtime.NumGoroutine" then none else
   match zk0 P fn.results.toList,zai P gs fn.ntmps (zbn c) c with
   | some res,some body=>some { nt:=fn.ntmps,res,body }
   | _,_=>none
end Go.E2
