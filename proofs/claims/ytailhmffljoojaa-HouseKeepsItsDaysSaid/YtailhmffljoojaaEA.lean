/-
 A deterministic evaluator zbe plain data for the code of a loaded program: the data,the operations,the machine.
 Conditions: none;this text states definitions alone.
-/
import Derived.Test.YtailhmffljoojaaETb
namespace Go.E2
def D.cells:D→List D
 | .agg cs=>cs
 | x=>[x]
def D.one:D→Bool
 | .agg _=>false
 | _=>true
def flat (es:List D):List D:=es.flatMap D.cells
inductive AV where
 | d (x:D)
 | ptr (k s g off:Nat)
 | cptr (cs:List D)
 | func (f:FuncId) (caps:List (Nat×Nat×Nat))
 | own (sz:Nat) (es:List D)
 | tup (vs:List D)
 /-- Nothing was put there: the operation was zct zbe. -/
 | skp
 | undef
 deriving Inhabited
abbrev Env:=Nat→AV
def upd {α:Type} (f:Nat→α) (i:Nat) (v:α):Nat→α:=fun j=>if j=i then v else f j
inductive AO where
 | t (i:Nat)
 | c (x:D)
 /-- A table, by the number of its variable. -/
 | g (i:Nat)
 deriving Inhabited
def ev (ρ:Env):AO→AV
 | .t i=>ρ i
 | .c x=>.d x
 | .g i=>(match z39 i with|some cs=>.cptr cs|none=>.undef)
inductive Kd where
 | b
 | i
 | s
 deriving DecidableEq,Inhabited
inductive Root where
 | any
 | site (s:Nat)
 | foreign
 /-- A block that may change, by its number. -/
 | gp
 deriving DecidableEq,Inhabited
inductive GD where
 | mlook (ks:List Kd) (z:D) (ok:Bool)
 | mlen
 | mset (ks:List Kd)
 | mdel (ks:List Kd)
 | ment (ks:List Kd) (z:D)
 | msto
 | pnil (k:Nat) (neg:Bool)
 | arrS (sz n:Nat) (lo hi mx:Bool)
 /-- The pointer to the array that a slice begins with. -/
 | s2a (n:Nat)
 | clo (f:FuncId)
 | bnd (f:FuncId)
 | b2s
 | clr (sz:Nat) (z:List D)
 | copyS
 | entry
 /-- What is not covered: it must not be reached. -/
 | never
 deriving Inhabited
inductive GN where
 | mkM
 | box (n:Nat)
 | alloc (z:List D)
 | mkSl (sz by_:Nat) (z:List D)
 | rng
 | nxt
 deriving Inhabited
inductive RL where
 | ld (agg:Bool) (n:Nat) (x:AO)
 | mlook (ks:List Kd) (z:D) (ok:Bool) (m k:AO)
 deriving Inhabited
inductive AOp where
 | mv (take:Bool) (x:AO)
 | pick (c a b:AO)
 | alloc (z:List D)
 | box (n:Nat) (x:AO)
 | build (z:List D) (ps:List (Nat×Nat×AO))
 | mkslice (sz n:Nat) (z:D) (ps:List (Nat×AO))
 | load (agg:Bool) (n:Nat) (x:AO) (r:Root)
 | store (n:Nat) (a v:AO) (r:Root)
 | nilck (x:AO)
 | bin (op:BinOp) (x y:AO)
 | eqs (neg:Bool) (ks:List Kd) (x y:AO)
 | eqb (neg:Bool) (x y:AO)
 | isnil (neg:Bool) (x:AO)
 | not (x:AO)
 | neg (x:AO)
 | conv (k:IntKind) (x:AO)
 | mkfunc (f:FuncId) (caps:List AO)
 | sl0 (sz:Nat) (x:AO)
 | sl3L (sz:Nat) (x hi mx:AO)
 | sl (sz:Nat) (x:AO) (lo hi:Option AO)
 | slS (x:AO) (lo hi:Option AO)
 | faddr (off:Nat) (x:AO)
 | field (agg:Bool) (off n:Nat) (x:AO)
 | iaddr (sz:Nat) (x i:AO)
 | iaddrA (len sz:Nat) (x i:AO)
 | idxS (x i:AO)
 | idxA (agg:Bool) (len sz:Nat) (x i:AO)
 | ext (x:AO) (i:Nat)
 /-- 'q': 0: it sees the boxes; 1: it sees none, and leaves what there is of blocks as it is; 2: it sees none; 3, 4: the same, but it sees the boxes and leaves them as they are. -/
 | call (f:AO) (args:List AO) (q:Nat)
 | len (str:Bool) (x:AO)
 | append (sz by_:Nat) (x y:AO)
 | mx (x y:AO)
 | mn (x y:AO)
 | b2s (x:AO)
 | s2b (x:AO)
 | cap (x:AO)
 | sl3 (sz:Nat) (x:AO) (lo:Option AO) (hi mx:AO)
 | copy (sz:Nat) (x y:AO)
 | appG (sz by_:Nat) (z:List D) (x y:AO)
 | appZ (sz by_:Nat) (z:List D) (x n:AO)
 | mkG (sz n:Nat) (z:D) (ps:List (Nat×AO))
 | gd (k:GD) (args:List AO)
 | gn (k:GN) (args:List AO)
 /-- An operation that must leave as it is what is read beside it. -/
 | kp (ls:List RL) (op:AOp)
 deriving Inhabited
def AOp.det:AOp→Bool
 | .call _ _ _=>false
 | .isnil _ _=>false
 | .appG _ _ _ _ _=>false
 | .appZ _ _ _ _ _=>false
 | .mkG _ _ _ _=>false
 | .gn _ _=>false
 | .kp _ _=>false
 | _=>true
structure AI where
 dst:Option Nat
 op:AOp
 guard:Option (Nat×Bool)
 deriving Inhabited
inductive ACode where
 | skip
 | reg (draw:Bool) (ops:List AI)
 | seq (a b:ACode)
 | cond (c:AO) (a b:ACode)
 | block (id:Nat) (b:ACode)
 | loop (b:ACode)
 | scope (b:ACode)
 | exit (id:Nat)
 | ret
 /-- A range zbe a function: the function, the slots of what it hands zbe, and the code of a round in two parts. -/
 | rangeF (f:AO) (ps:List Nat) (c1 c2:ACode)
 deriving Inhabited
inductive zbd where
 | normal
 | exit (id:Nat)
 | ret
 deriving Inhabited
structure Blk where
 g:Nat
 c:Option (List D)
 deriving Inhabited
abbrev Hp:=Nat→Blk
def zmd:Hp:=fun _=>⟨0,none⟩
structure ME where
 k:D
 v:D
 b:Nat
 deriving Inhabited
inductive MO where
 | map (es:List ME) (clock:Nat)
 | iter (m:Option Nat) (since:Nat) (seen:List Nat) (last:Nat)
 | loop (P:Program) (ρ:Env) (ps:List Nat) (c1 c2:ACode)
 | done (e:zbd)
structure Gh where
 c:Nat→Option (List D)
 m:Nat→Option MO
 /-- They are not infinitely many. -/
 fin:∃ N,∀ b,N≤b→c b=none∧m b=none
instance:CoeFun Gh (fun _=>Nat→Option (List D)):=⟨Gh.c⟩
def Gh.set (G:Gh) (b:Nat) (v:Option (List D)):Gh:=⟨upd G.c b v,G.m,by
 obtain ⟨N,h⟩:=G.fin
 exact ⟨N+b+1,fun i hi=>⟨by simp only [upd];rw [if_neg (by omega)];exact (h i (by omega)).1,(h i (by omega)).2⟩⟩⟩
def Gh.setM (G:Gh) (b:Nat) (v:Option MO):Gh:=⟨G.c,upd G.m b v,by
 obtain ⟨N,h⟩:=G.fin
 exact ⟨N+b+1,fun i hi=>⟨(h i (by omega)).1,by simp only [upd];rw [if_neg (by omega)];exact (h i (by omega)).2⟩⟩⟩
def noGh:Gh:=⟨fun _=>none,fun _=>none,0,fun _ _=>⟨rfl,rfl⟩⟩
theorem Gh.ext {G G':Gh} (hc:G.c=G'.c) (hm:G.m=G'.m):G=G':=by
 obtain ⟨c,m,h⟩:=G
 obtain ⟨c',m',h'⟩:=G'
 simp only at hc hm
 subst hc hm
 rfl
@[simp] theorem Gh.set_c (G:Gh) (b:Nat) (v:Option (List D)):(G.set b v).c=upd G.c b v:=rfl
@[simp] theorem Gh.set_m (G:Gh) (b:Nat) (v:Option (List D)):(G.set b v).m=G.m:=rfl
@[simp] theorem Gh.setM_c (G:Gh) (b:Nat) (v:Option MO):(G.setM b v).c=G.c:=rfl
@[simp] theorem Gh.setM_m (G:Gh) (b:Nat) (v:Option MO):(G.setM b v).m=upd G.m b v:=rfl
inductive zft where
 | tmp (t:Nat)
 | cell (t:Nat) (agg:Bool) (n:Nat)
 deriving Inhabited
structure AFunc where
 nt:Nat
 res:List zft
 body:ACode
 deriving Inhabited
def AV.cp:AV→AV
 | .own _ es=>.d (.list es)
 | v=>v
def AV.data:AV→Option D
 | .d x=>some x
 | .own _ es=>some (.list es)
 | _=>none
def put (ρ:Env) (d:Option Nat) (v:AV):Env :=
 match d with
 | some d=>upd ρ d v
 | none=>ρ
def zbe (cells vs:List D) (off:Nat):List D:=cells.take off++vs++cells.drop (off+vs.length)
def zhn (cells:List D):List (Nat×Nat×D)→Option (List D)
 | []=>some cells
 | (off,size,v)::ps=>if v.cells.length=size∧off+size≤cells.length then zhn (zbe cells v.cells off) ps else none
def za (sz:Nat) (x:D):Bool:=x.cells.length == sz && x.cells.all D.one
def zb3 (agg:Bool) (n:Nat) (cs:List D):Option D :=
 if agg then (if n≤cs.length then some (.agg (cs.take n)) else none)
 else cs.head?
def zbt (op:BinOp):D→D→Option D
 | .int k a,.int k' b =>
  match op with
  | .shl=>if b<0 then none else some (.int k (k.wrap (a * 2 ^ (min b.toNat k.bits))))
  | .shr=>if b<0 then none else some (.int k (a.fdiv (2 ^ (min b.toNat k.bits))))
  | .add=>if k=k' then some (.int k (k.wrap (a+b))) else none
  | .sub=>if k=k' then some (.int k (k.wrap (a - b))) else none
  | .mul=>if k=k' then some (.int k (k.wrap (a * b))) else none
  | .quo=>if k=k'∧b≠0 then some (.int k (k.wrap (a.tdiv b))) else none
  | .rem=>if k=k'∧b≠0 then some (.int k (a.tmod b)) else none
  | .and=>if k=k' then some (.int k (k.wrap (BitVec.ofInt k.bits a &&& BitVec.ofInt k.bits b).toNat)) else none
  | .or=>if k=k' then some (.int k (k.wrap (BitVec.ofInt k.bits a ||| BitVec.ofInt k.bits b).toNat)) else none
  | .xor=>if k=k' then some (.int k (k.wrap (BitVec.ofInt k.bits a ^^^ BitVec.ofInt k.bits b).toNat)) else none
  | .andNot=>if k=k' then some (.int k (k.wrap (BitVec.ofInt k.bits a &&& ~~~ BitVec.ofInt k.bits b).toNat)) else none
  | .eql=>if k=k' then some (.bool (a == b)) else none
  | .neq=>if k=k' then some (.bool (a != b)) else none
  | .lss=>if k=k' then some (.bool (a<b)) else none
  | .leq=>if k=k' then some (.bool (a≤b)) else none
  | .gtr=>if k=k' then some (.bool (a > b)) else none
  | .geq=>if k=k' then some (.bool (a≥b)) else none
 | .str a,.str b =>
  match op with
  | .add=>if (a.length+b.length:Nat)<4611686018427387904 then some (.str (a++b)) else none
  | .eql=>some (.bool (a == b))
  | .neq=>some (.bool (!(a == b)))
  | .lss=>some (.bool (Op.bytesLess a b))
  | .leq=>some (.bool (Op.bytesLess a b || a == b))
  | .gtr=>some (.bool (!(Op.bytesLess a b || a == b)))
  | .geq=>some (.bool (!(Op.bytesLess a b)))
  | _=>none
 | _,_=>none
def zbm:Kd→D→D→Option Bool
 | .b,.bool a,.bool b=>some (a == b)
 | .i,.int k a,.int k' b=>if k=k' then some (a == b) else none
 | .s,.str a,.str b=>some (a == b)
 | _,_,_=>none
def zg:List Kd→List D→List D→Option Bool
 | [],[],[]=>some true
 | k::ks,x::xs,y::ys =>
  match zbm k x y with
  | some b=>(match zg ks xs ys with|some c=>some (b && c)|none=>none)
  | none=>none
 | _,_,_=>none
def z1x (str:Bool):D→Option Int
 | .list es=>if str then none else some es.length
 | .str s=>if str then some s.length else none
 | .nilS=>if str then none else some 0
 | .gs _ _ len _=>if str then none else some len
 | _=>none
def zbc (G:Gh) (sz:Nat):D→Option (Nat×List D)
 | .nilS=>some (0,[])
 | .list es=>if es.all (za sz) then some (es.length,flat es) else none
 | .gs b off n _=>match G b with|some cs=>if off+n * sz≤cs.length then some (n,(cs.drop off).take (n * sz)) else none|none=>none
 | _=>none
def u8s (s:List UInt8):List D:=s.map fun b=>.int .u8 b.toNat
def zol (G:Gh) (sz:Nat):D→Option (Nat×List D)
 | .str s=>if sz=1 then some (s.length,u8s s) else none
 | y=>zbc G sz y
theorem zse {G:Gh} {sz:Nat} {y:D} {p:Nat×List D} (h:zbc G sz y=some p):zol G sz y=some p:=by
 cases y<;>first|exact h|(simp [zbc] at h)
def zbn:List D→Option (List UInt8)
 | []=>some []
 | .int .u8 n::xs=>(match zbn xs with|some l=>some (UInt8.ofNat n.toNat::l)|none=>none)
 | _=>none
def zne (sz:Nat):D→Option (List D)
 | .nilS=>some []
 | .list es=>if es.all (za sz) then some es else none
 | .str s=>if sz=1 then some (u8s s) else none
 | _=>none
def mostBytes:Nat:=140737488355328
def zom (sz:Nat) (x:AV) (y:D):Option AV :=
 match x,y with
 | .d (.str []),.str s=>if sz=1∧s.length≤mostBytes then some (.own 1 (u8s s)) else none
 | .own s es,.int _ m=>if s=1∧sz=0∧0≤m∧es.length+m.toNat≤mostBytes then some (.own 1 (es++List.replicate m.toNat (.int .u8 0))) else none
 | _,_=>none
def zah (sz by_:Nat) (x:AV) (y:D):Option AV :=
 if by_=0 then zom sz x y else
 match zne sz y with
 | none=>none
 | some ys =>
  match x with
  | .d .nilS=>if ys.length * by_≤mostBytes then (if ys.isEmpty then some (.d .nilS) else some (.own sz ys)) else none
  | .own sz' es=>if sz'=sz∧(es.length+ys.length) * by_≤mostBytes then some (.own sz (es++ys)) else none
  | _=>none
def bnd (ρ:Env) (dflt:Nat):Option AO→Option Int
 | none=>some dflt
 | some o=>match ev ρ o with|.d (.int _ n)=>some n|_=>none
def blk (lv:List Hp) (k s g:Nat):Option (List D) :=
 match lv[k]? with
 | some h=>if (h s).g=g then (h s).c else none
 | none=>none
def Root.foreignOk:Root→Bool
 | .site _=>false
 | _=>true
def zbf (r:Root) (k s:Nat):Bool :=
 match r with
 | .any=>true
 | .site r=>k == 0 && s == r
 | .foreign=>k != 0
 | .gp=>false
def zq (ρ:Env):List AO→Option (List D)
 | []=>some []
 | o::os=>match (ev ρ o).data,zq ρ os with|some x,some xs=>some (x::xs)|_,_=>none
def zi9:AV→Option (Nat×Nat×Nat)
 | .ptr k s g 0=>some (k,s,g)
 | _=>none
def evP (ρ:Env) (lv:List Hp) (G:Gh):AOp→Option AV
 | .mv _ x=>some (ev ρ x).cp
 | .pick c a b=>match ev ρ c with|.d (.bool t)=>some (if t then (ev ρ a).cp else (ev ρ b).cp)|_=>none
 | .build z ps =>
  match zq ρ (ps.map (·.2.2)) with
  | some vs=>(zhn z ((ps.zip vs).map fun (p,v)=>(p.1,p.2.1,v))).bind fun cs=>if cs.all D.one then some (.d (.agg cs)) else none
  | none=>none
 | .mkslice sz n z ps =>
  match zq ρ (ps.map (·.2)) with
  | some vs =>
   let es:=(ps.zip vs).foldl (fun es (p,v)=>es.set p.1 v) (List.replicate n z)
   if vs.all (za sz) && za sz z && (ps.all fun p=>p.1<n) then some (.own sz es) else none
  | none=>none
 | .load agg n x r =>
  match ev ρ x with
  | .ptr k s g off=>if zbf r k s then (match blk lv k s g with|some cs=>(zb3 agg n (cs.drop off)).map .d|none=>none) else none
  | .cptr cs=>(zb3 agg n cs).map .d
  | .d (.gp b off)=>if r.foreignOk then (match G b with|some cs=>(zb3 agg n (cs.drop off)).map .d|none=>none) else none
  | _=>none
 | .nilck x=>match ev ρ x with|.ptr k s g off=>some (.ptr k s g off)|.cptr cs=>some (.cptr cs)|.func f c=>some (.func f c)|.d (.fn f)=>some (.d (.fn f))|.d (.gp b off)=>some (.d (.gp b off))|.d (.clo f ds)=>some (.d (.clo f ds))|.d (.yld l)=>some (.d (.yld l))|_=>none
 | .bin op x y=>match ev ρ x,ev ρ y with|.d a,.d b=>(zbt op a b).map .d|_,_=>none
 | .eqs neg ks x y=>match ev ρ x,ev ρ y with|.d (.agg a),.d (.agg b)=>(zg ks a b).map fun t=>.d (.bool (if neg then !t else t))|_,_=>none
 | .eqb neg x y=>match ev ρ x,ev ρ y with|.d (.bool a),.d (.bool b)=>some (.d (.bool (if neg then !(a == b) else a == b)))|_,_=>none
 | .isnil neg x=>match (ev ρ x).data with|some .nilS=>some (.d (.bool (!neg)))|some (.list (_::_))=>some (.d (.bool neg))|some (.gs _ _ _ _)=>some (.d (.bool neg))|_=>none
 | .not x=>match ev ρ x with|.d (.bool b)=>some (.d (.bool (!b)))|_=>none
 | .neg x=>match ev ρ x with|.d (.int k n)=>some (.d (.int k (k.wrap (0 - n))))|_=>none
 | .conv k x=>match ev ρ x with|.d (.int _ n)=>some (.d (.int k (k.wrap n)))|_=>none
 | .mkfunc f caps =>
  (caps.mapM fun o=>zi9 (ev ρ o)).map (.func f)
 | .sl0 sz x=>match (ev ρ x).data with|some .nilS=>some (.d .nilS)|some (.list _)=>some (.own sz [])|_=>none
 | .sl3L sz x hi mx=>match (ev ρ x).data,ev ρ hi,ev ρ mx with|some (.list es),.d (.int .i64 a),.d (.int .i64 b)=>if es.all (za sz)=true∧a=es.length∧b=es.length then some (.own sz es) else none|_,_,_=>none
 | .sl sz x lo hi =>
  match (ev ρ x).data with
  | some (.list es) =>
   if es.all (za sz) then (match bnd ρ 0 lo,bnd ρ es.length hi with
    | some l,some h=>if 0≤l∧l≤h∧h≤es.length then some (.d (.list ((es.take h.toNat).drop l.toNat))) else none
    | _,_=>none) else none
  | some .nilS =>
   (match bnd ρ 0 lo,bnd ρ 0 hi with
     | some l,some h=>if l=0∧h=0 then some (.d .nilS) else none
     | _,_=>none)
  | some (.gs b off len cap) =>
   (match bnd ρ 0 lo,bnd ρ len hi with
     | some l,some h=>if 0≤l∧l≤h∧h≤cap then some (.d (.gs b (if cap=l.toNat then off else off+l.toNat * sz) (h.toNat - l.toNat) (cap - l.toNat))) else none
     | _,_=>none)
  | _=>none
 | .slS x lo hi =>
  match ev ρ x with
  | .d (.str s)=>(match bnd ρ 0 lo,bnd ρ s.length hi with
     | some l,some h=>if 0≤l∧l≤h∧h≤s.length then some (.d (.str ((s.take h.toNat).drop l.toNat))) else none
     | _,_=>none)
  | _=>none
 | .faddr off x=>match ev ρ x with|.ptr k s g o=>some (.ptr k s g (o+off))|.cptr cs=>some (.cptr (cs.drop off))|.d (.gp b o)=>some (.d (.gp b (o+off)))|_=>none
 | .field agg off n x=>match ev ρ x with|.d (.agg cs)=>(zb3 agg n (cs.drop off)).map .d|_=>none
 | .iaddr sz x i =>
  match (ev ρ x).data,ev ρ i with
  | some (.list es),.d (.int _ n)=>if es.all (za sz)∧0≤n then (es[n.toNat]?).map fun e=>.cptr e.cells else none
  | some (.gs b off len _),.d (.int _ n)=>if 0≤n∧n<len then some (.d (.gp b (off+n.toNat * sz))) else none
  | _,_=>none
 | .iaddrA len sz x i =>
  match ev ρ x,ev ρ i with
  | .ptr k s g o,.d (.int _ n)=>if 0≤n∧n<len then some (.ptr k s g (o+n.toNat * sz)) else none
  | .cptr cs,.d (.int _ n)=>if 0≤n∧n<len then some (.cptr (cs.drop (n.toNat * sz))) else none
  | .d (.gp b o),.d (.int _ n)=>if 0≤n∧n<len then some (.d (.gp b (o+n.toNat * sz))) else none
  | _,_=>none
 | .idxS x i =>
  match ev ρ x,ev ρ i with
  | .d (.str s),.d (.int _ n)=>if 0≤n then (s[n.toNat]?).map fun b=>.d (.int .u8 b.toNat) else none
  | _,_=>none
 | .idxA agg len sz x i =>
  match ev ρ x,ev ρ i with
  | .d (.agg cs),.d (.int _ n)=>if 0≤n∧n<len then (zb3 agg sz (cs.drop (n.toNat * sz))).map .d else none
  | _,_=>none
 | .ext x i=>match ev ρ x with|.tup vs=>(vs[i]?).map .d|_=>none
 | .len str x=>match (ev ρ x).data with|some y=>(z1x str y).map fun n=>.d (.int .i64 n)|none=>none
 | .mx x y=>match ev ρ x,ev ρ y with|.d (.int k a),.d (.int _ b)=>some (.d (.int k (if b > a then b else a)))|_,_=>none
 | .mn x y=>match ev ρ x,ev ρ y with|.d (.int k a),.d (.int _ b)=>some (.d (.int k (if b<a then b else a)))|_,_=>none
 | .b2s x =>
  match (ev ρ x).data with
  | some .nilS=>some (.d (.str []))
  | some (.list es)=>(zbn es).map fun l=>.d (.str l)
  | _=>none
 | .s2b x=>match ev ρ x with|.d (.str s)=>some (.d (.list (s.map fun b=>.int .u8 b.toNat)))|_=>none
 | .cap x=>match (ev ρ x).data with|some .nilS=>some (.d (.int .i64 0))|some (.gs _ _ _ cap)=>some (.d (.int .i64 cap))|_=>none
 | .sl3 sz x lo hi mx =>
  match (ev ρ x).data with
  | some (.gs b off len cap) =>
   (match bnd ρ 0 lo,bnd ρ len (some hi),bnd ρ cap (some mx) with
     | some l,some h,some m=>if 0≤l∧l≤h∧h≤m∧m≤cap then some (.d (.gs b (if m.toNat=l.toNat then off else off+l.toNat * sz) (h.toNat - l.toNat) (m.toNat - l.toNat))) else none
     | _,_,_=>none)
  | _=>none
 | _=>none
def zgi (v:AV) (want:Bool):Option Bool :=
 match v with
 | .d (.bool b)=>some (b == want)
 | .skp=>some false
 | _=>none
def zco (ρ:Env):AO→Env
 | .t i=>upd ρ i (ρ i).cp
 | .c _=>ρ
 | .g _=>ρ
abbrev St:=Env×Hp×List Hp×Gh
def zd1 (ks:List Kd) (k:D):List ME→Nat→Option (Option (Nat×D))
 | [],_=>some none
 | e::es,i =>
  match (if k.one=e.k.one then zg ks k.cells e.k.cells else none) with
  | some true=>some (some (i,e.v))
  | some false=>zd1 ks k es (i+1)
  | none=>none
def keyOk (ks:List Kd) (k:D):Bool:=(k.one || ks.length != 1) && (zg ks k.cells k.cells).isSome
def zec (G:Gh):D→Option (List ME×Nat)
 | .mref r=>match G.m r with|some (.map es clock)=>some (es,clock)|_=>none
 | _=>none
def znf (f:Bool) (dflt:Nat):List D→Option (Int×List D)
 | .int k n::xs=>if f then some (n,xs) else some (dflt,.int k n::xs)
 | xs=>if f then none else some (dflt,xs)
def gdD (k:GD) (vs:List D) (G:Gh):Option (AV×Gh) :=
 match k,vs with
 | .mlook ks z ok,[m,key] =>
  if keyOk ks key then
   (match m with
   | .nilM=>some ((if ok then .tup [z,.bool false] else .d z:AV),G)
   | m=>match zec G m with
     | some (es,_)=>(match zd1 ks key es 0 with
       | some (some (_,v))=>some ((if ok then .tup [v,.bool true] else .d v:AV),G)
       | some none=>some ((if ok then .tup [z,.bool false] else .d z:AV),G)
       | none=>none)
     | none=>none)
  else none
 | .mlen,[m] =>
  match m with
  | .nilM=>some (.d (.int .i64 0),G)
  | m=>(zec G m).map fun (es,_)=>(.d (.int .i64 es.length),G)
 | .mset ks,[.mref r,key,v] =>
  match zec G (.mref r) with
  | some (es,clock)=>(match keyOk ks key,zd1 ks key es 0 with
    | true,some (some (i,_))=>some (.undef,G.setM r (some (.map (es.modify i fun e=>⟨key,v,e.b⟩) clock)))
    | true,some none=>some (.undef,G.setM r (some (.map (es++[⟨key,v,clock⟩]) (clock+1))))
    | _,_=>none)
  | none=>none
 | .mdel ks,[m,key] =>
  match m with
  | .nilM=>if keyOk ks key then some (.tup [],G) else none
  | .mref r=>(match zec G (.mref r) with
    | some (es,clock)=>(match keyOk ks key,zd1 ks key es 0 with
      | true,some (some (i,_))=>some (.tup [],G.setM r (some (.map (es.eraseIdx i) clock)))
      | true,some none=>some (.tup [],G.setM r (some (.map es clock)))
      | _,_=>none)
    | none=>none)
  | _=>none
 | .ment ks z,[.mref r,key] =>
  match zec G (.mref r) with
  | some (es,clock)=>(match keyOk ks key,zd1 ks key es 0 with
    | true,some (some (i,v))=>some (.tup [v,.int .i64 (((es[i]?).map (·.b)).getD 0:Nat)],G.setM r (some (.map (es.modify i fun e=>⟨key,e.v,e.b⟩) clock)))
    | true,some none=>some (.tup [z,.int .i64 (clock:Nat)],G.setM r (some (.map (es++[⟨key,z,clock⟩]) (clock+1))))
    | _,_=>none)
  | none=>none
 | .msto,[.mref r,.int _ n,v] =>
  match zec G (.mref r) with
  | some (es,clock)=>(match es.findIdx? (fun e=>decide ((e.b:Int)=n)) with
    | some i=>some (.undef,G.setM r (some (.map (es.modify i fun e=>⟨e.k,v,e.b⟩) clock)))
    | none=>none)
  | none=>none
 | .pnil 0 neg,[p] =>
  (match p with
  | .nilP=>some (.d (.bool (!neg)),G)
  | .gp _ _=>some (.d (.bool neg),G)
  | _=>none)
 | .pnil 1 neg,[p] =>
  (match p with
  | .nilM=>some (.d (.bool (!neg)),G)
  | .mref _=>some (.d (.bool neg),G)
  | _=>none)
 | .pnil 2 neg,[p] =>
  (match p with
  | .nilF=>some (.d (.bool (!neg)),G)
  | .fn _=>some (.d (.bool neg),G)
  | .clo _ _=>some (.d (.bool neg),G)
  | .bnd _ _=>some (.d (.bool neg),G)
  | .yld _=>some (.d (.bool neg),G)
  | _=>none)
 | .arrS sz n flo fhi fmx,.gp b off::xs =>
  match znf flo 0 xs with
  | some (l,xs)=>(match znf fhi n xs with
    | some (h,xs)=>(match znf fmx n xs with
      | some (m,[])=>if 0≤l∧l≤h∧h≤m∧m≤n then some (.d (.gs b (if m.toNat=l.toNat then off else off+l.toNat * sz) (h.toNat - l.toNat) (m.toNat - l.toNat)),G) else none
      | _=>none)
    | none=>none)
  | none=>none
 | .s2a n,[.gs b off len _]=>if n≤len then some (.d (.gp b off),G) else none
 | .clo f,ds=>if ds.all D.one then some (.d (.clo f ds),G) else none
 | .bnd f,ds=>if ds.all D.one then some (.d (.bnd f ds),G) else none
 | .b2s,[x] =>
  match zbc G 1 x with
  | some (_,cs)=>(zbn cs).map fun l=>(.d (.str l),G)
  | none=>none
 | .clr sz z,[x] =>
  match x with
  | .nilS=>some (.tup [],G)
  | .gs b off n _=>if n=0 then some (.tup [],G) else (match G b with
    | some cs=>if off+n * sz≤cs.length then some (.tup [],G.set b (some (zbe cs (List.replicate n z).flatten off))) else none
    | none=>none)
  | _=>none
 | .copyS,[.gs b off n _,.str s] =>
  match G b with
  | some cs=>if off+n≤cs.length then some (.d (.int .i64 (min n s.length:Nat)),G.set b (some (zbe cs ((s.take n).map fun u=>.int .u8 u.toNat) off))) else none
  | none=>none
 | .entry,[.gp r 0] =>
  match G.m r with
  | some (.iter (some q) _ seen last)=>(match seen.getLast?,G.m q with
    | some s,some (.map es clock)=>if clock=last then (es.find? (fun e=>e.b == s)).map fun e=>(.tup [e.k,e.v],G) else none
    | _,_=>none)
  | _=>none
 | _,_=>none
def RL.val (r:RL) (ρ:Env) (σ:List Hp) (G:Gh):Option AV :=
 match r with
 | .ld agg n x=>evP ρ (zmd::σ) G (.load agg n x .foreign)
 | .mlook ks z ok m k=>(match zq ρ [m,k] with|some vs=>(gdD (.mlook ks z ok) vs G).map (·.1)|none=>none)
def GD.use:GD→Nat
 | .mlook _ _ _=>1
 | .mlen=>1
 | .b2s=>1
 | .entry=>1
 | .pnil _ _=>0
 | .arrS _ _ _ _ _=>0
 | .s2a _=>0
 | .clo _=>0
 | .bnd _=>0
 | _=>2
def zh (d:Option Nat) (op:AOp) (ρ:Env) (L:Hp) (σ:List Hp) (G:Gh):Option St :=
 match op with
 | .mv true x=>some (put (zco ρ x) d (ev ρ x),L,σ,G)
 | .append sz by_ x y =>
  match d,(ev ρ y).data with
  | some d,some y=>(zah sz by_ (ev ρ x) y).map fun v=>(upd (zco ρ x) d v,L,σ,G)
  | _,_=>none
 | .alloc z =>
  match d with
  | some s=>some (upd ρ s (.ptr 0 s ((L s).g+1) 0),upd L s ⟨(L s).g+1,some z⟩,σ,G)
  | none=>none
 | .box n x =>
  match d,(ev ρ x).data with
  | some s,some y=>if za n y then some (upd ρ s (.ptr 0 s ((L s).g+1) 0),upd L s ⟨(L s).g+1,some y.cells⟩,σ,G) else none
  | _,_=>none
 | .store n a v r =>
  match ev ρ a,(ev ρ v).data with
  | .ptr k s g off,some y =>
   if zbf r k s && za n y then
    (match blk (L::σ) k s g with
    | some cs =>
     if off+n≤cs.length then
      (match k with
      | 0=>some (put ρ d .undef,upd L s ⟨g,some (zbe cs y.cells off)⟩,σ,G)
      | k+1=>match σ[k]? with
        | some h=>some (put ρ d .undef,L,σ.set k (upd h s ⟨g,some (zbe cs y.cells off)⟩),G)
        | none=>none)
     else none
    | none=>none)
   else none
  | .d (.gp b off),some y =>
   if r.foreignOk && za n y then
    (match G b with
    | some cs=>if off+n≤cs.length then some (put ρ d .undef,L,σ,G.set b (some (zbe cs y.cells off))) else none
    | none=>none)
   else none
  | _,_=>none
 | .copy sz x y =>
  match ev ρ x,(ev ρ y).data with
  | .d (.gs b off len _),some y =>
   (match G b,zbc G sz y with
   | some cs,some (m,ys)=>if off+len * sz≤cs.length then some (put ρ d (.d (.int .i64 (min len m))),L,σ,G.set b (some (zbe cs (ys.take (min len m * sz)) off))) else none
   | _,_=>none)
  | _,_=>none
 | .gd k args =>
  match zq ρ args with
  | some vs=>(gdD k vs G).map fun p=>(put ρ d p.1,L,σ,p.2)
  | none=>none
 | op=>(evP ρ (L::σ) G op).map fun v=>(put ρ d v,L,σ,G)
def rep (n:Nat) (z:List D):List D:=(List.replicate n z).flatten
def zon (d:Option Nat) (_sz by_:Nat) (z olds ys:List D) (n m:Nat) (ρ:Env) (L:Hp) (σ:List Hp) (G:Gh) (K:St→Prop):Prop :=
 (n+m) * by_≤mostBytes∧∀ b cap,G b=none→n+m≤cap→K (put ρ d (.d (.gs b 0 (n+m) cap)),L,σ,G.set b (some (olds++ys++rep (cap - (n+m)) z)))
def zng (d:Option Nat) (sz by_:Nat) (z:List D) (x:D) (m:Nat) (ys:List D) (ρ:Env) (L:Hp) (σ:List Hp) (G:Gh) (K:St→Prop):Prop :=
 match x with
 | .nilS=>if m=0 then K (put ρ d (.d .nilS),L,σ,G) else zon d sz by_ z [] ys 0 m ρ L σ G K
 | .gs b off n cap =>
  match G b with
  | some cs =>
   off+n * sz≤cs.length ∧
   if n+m≤cap then off+(n+m) * sz≤cs.length∧K (put ρ d (.d (.gs b off (n+m) cap)),L,σ,G.set b (some (zbe cs ys (off+n * sz))))
   else zon d sz by_ z ((cs.drop off).take (n * sz)) ys n m ρ L σ G K
  | none=>False
 | _=>False
def zsf (_sz by_:Nat) (z olds ys:List D) (n m:Nat) (G:Gh) (R:AV→Gh→Prop):Prop :=
 (n+m) * by_≤mostBytes∧∀ b cap,G b=none→n+m≤cap→R (.d (.gs b 0 (n+m) cap)) (G.set b (some (olds++ys++rep (cap - (n+m)) z)))
def zpl (sz by_:Nat) (z:List D) (x:D) (m:Nat) (ys:List D) (G:Gh) (R:AV→Gh→Prop):Prop :=
 match x with
 | .nilS=>if m=0 then R (.d .nilS) G else zsf sz by_ z [] ys 0 m G R
 | .gs b off n cap =>
  match G b with
  | some cs =>
   off+n * sz≤cs.length ∧
   if n+m≤cap then off+(n+m) * sz≤cs.length∧R (.d (.gs b off (n+m) cap)) (G.set b (some (zbe cs ys (off+n * sz))))
   else zsf sz by_ z ((cs.drop off).take (n * sz)) ys n m G R
  | none=>False
 | _=>False
def gnW (k:GN) (vs:List D) (G:Gh) (R:AV→Gh→Prop):Prop :=
 match k,vs with
 | .mkM,[]=>∀ r,G.m r=none→R (.d (.mref r)) (G.setM r (some (.map [] 0)))
 | .box n,[x]=>za n x=true∧∀ b,G b=none→R (.d (.gp b 0)) (G.set b (some x.cells))
 | .alloc z,[]=>∀ b,G b=none→R (.d (.gp b 0)) (G.set b (some z))
 | .mkSl _ by_ z,[.int _ l,.int _ c]=>0≤l∧l≤c∧c.toNat * by_≤mostBytes∧∀ b,G b=none→R (.d (.gs b 0 l.toNat c.toNat)) (G.set b (some (rep c.toNat z)))
 | .rng,[m] =>
  match m with
  | .nilM=>∀ r,G.m r=none→R (.d (.gp r 0)) (G.setM r (some (.iter none 0 [] 0)))
  | .mref q=>(match G.m q with
    | some (.map _ clock)=>∀ r,G.m r=none→R (.d (.gp r 0)) (G.setM r (some (.iter (some q) clock [] clock)))
    | _=>False)
  | _=>False
 | .nxt,[.gp r 0] =>
  match G.m r with
  | some (.iter none _ _ _)=>R (.tup [.bool false]) G
  | some (.iter (some q) since seen last) =>
   (match G.m q with
   | some (.map es clock) =>
    ((∀ e∈es,e.b<since)∧since≤last) ∧
    ((∀ e∈es,e.b∈seen)→R (.tup [.bool false]) G) ∧
    ∀ e∈es,e.b ∉ seen→R (.tup [.bool true,e.k,e.v]) (G.setM r (some (.iter (some q) since (seen++[e.b]) clock)))
   | _=>False)
  | _=>False
 | _,_=>False
def zbw (d:Option Nat) (op:AOp) (ρ:Env) (L:Hp) (σ:List Hp) (G:Gh) (K:St→Prop):Prop :=
 match op with
 | .appG sz by_ z x y =>
  match ev ρ x,(ev ρ y).data with
  | .d x,some y=>(match zol G sz y with|some (m,ys)=>zng d sz by_ z x m ys ρ L σ G K|none=>False)
  | _,_=>False
 | .appZ sz by_ z x n =>
  match ev ρ x,ev ρ n with
  | .d x,.d (.int _ m)=>0≤m∧m.toNat * by_≤mostBytes∧zng d sz by_ z x m.toNat (rep m.toNat z) ρ L σ G K
  | _,_=>False
 | .mkG sz n z ps =>
  match zq ρ (ps.map (·.2)) with
  | some vs =>
   (vs.all (za sz) && za sz z && (ps.all fun p=>p.1<n))=true ∧
   ∀ b,G b=none→K (put ρ d (.d (.gs b 0 n n)),L,σ,G.set b (some (flat ((ps.zip vs).foldl (fun es (p,v)=>es.set p.1 v) (List.replicate n z)))))
  | none=>False
 | .isnil neg x =>
  match (ev ρ x).data with
  | some (.list [])=>∀ t,K (put ρ d (.d (.bool t)),L,σ,G)
  | _=>∃ st,zh d (.isnil neg x) ρ L σ G=some st∧K st
 | .gn k args =>
  match zq ρ args with
  | some vs=>gnW k vs G fun r G'=>K (put ρ d r,L,σ,G')
  | none=>False
 | op=>∃ st,zh d op ρ L σ G=some st∧K st
def sh:AV→AV
 | .d x=>.d x
 | .own _ es=>.d (.list es)
 | .ptr k s g off=>.ptr (k+1) s g off
 | .cptr cs=>.cptr cs
 | .func f caps=>.func f (caps.map fun (k,s,g)=>(k+1,s,g))
 | .tup _=>.undef
 | .skp=>.undef
 | .undef=>.undef
def ofL (vs:List AV):Env:=fun i=>vs.getD i .undef
def target:AV→Option (FuncId×List AV)
 | .d (.fn f)=>some (f,[])
 | .d (.clo f ds)=>some (f,ds.map .d)
 | .func f caps=>some (f,caps.map fun (k,s,g)=>.ptr k s g 0)
 | _=>none
def zeb (ρ:Env) (lv:List Hp) (G:Gh):zft→Option AV
 | .tmp t=>match ρ t with|.d x=>some (.d x)|.own sz es=>some (.own sz es)|_=>none
 | .cell t agg n=>match ρ t with
   | .ptr k s g off=>(match blk lv k s g with|some cs=>(zb3 agg n (cs.drop off)).map .d|none=>none)
   | .d (.gp b off)=>(match G b with|some cs=>(zb3 agg n (cs.drop off)).map .d|none=>none)
   | _=>none
def zcs (ρ:Env) (lv:List Hp) (G:Gh):List zft→Option (List D)
 | []=>some []
 | r::rs=>match zeb ρ lv G r,zcs ρ lv G rs with
   | some v,some vs=>(match v.data with|some x=>some (x::vs)|none=>none)
   | _,_=>none
def fin (res:List zft) (ρ:Env) (lv:List Hp) (G:Gh):Option AV :=
 match res with
 | [r]=>zeb ρ lv G r
 | rs=>(zcs ρ lv G rs).map .tup
end Go.E2
