/-
 Rules by which values are reckoned;and how a call is met.
 Conditions: none;laws.
-/
import Derived.Test.YtpplfpnjfjnkdaaGreatDoorEN3
namespace Go.E2
theorem wrap_i64 {x:Int} (h1:-9223372036854775808≤x) (h2:x≤9223372036854775807):IntKind.i64.wrap x=x:=by
 have e:IntKind.i64.wrap x=if x % 18446744073709551616≥9223372036854775808 then x % 18446744073709551616 - 18446744073709551616 else x % 18446744073709551616:=by simp [IntKind.wrap,IntKind.signed,IntKind.bits]
 rw [e];split<;>omega
theorem zy5 {x:Int} (h1:-2147483648≤x) (h2:x≤2147483647):IntKind.i32.wrap x=x:=by
 have e:IntKind.i32.wrap x=if x % 4294967296≥2147483648 then x % 4294967296 - 4294967296 else x % 4294967296:=by simp [IntKind.wrap,IntKind.signed,IntKind.bits]
 rw [e];split<;>omega
theorem zf5 {x:Int} (h1:0≤x) (h2:x≤18446744073709551615):IntKind.u64.wrap x=x:=by
 simp only [IntKind.wrap,IntKind.signed,IntKind.bits];simp;omega
theorem zy6 {x:Int} (h1:0≤x) (h2:x≤4294967295):IntKind.u32.wrap x=x:=by
 simp only [IntKind.wrap,IntKind.signed,IntKind.bits];simp;omega
theorem zrt {x:Int} (h1:0≤x) (h2:x≤65535):IntKind.u16.wrap x=x:=by
 simp only [IntKind.wrap,IntKind.signed,IntKind.bits];simp;omega
theorem zvq {x:Int} (h1:0≤x) (h2:x≤255):IntKind.u8.wrap x=x:=by
 simp only [IntKind.wrap,IntKind.signed,IntKind.bits];simp;omega
attribute [go_sem] wrap_i64 zy5 zf5 zy6 zrt zvq
section
variable (k:IntKind) (a b:Int) (s t:List UInt8)
@[go_sem] theorem binD_add:za4 .add (.int k a) (.int k b)=some (.int k (k.wrap (a+b))):=by simp [za4]
@[go_sem] theorem binD_sub:za4 .sub (.int k a) (.int k b)=some (.int k (k.wrap (a - b))):=by simp [za4]
@[go_sem] theorem binD_mul:za4 .mul (.int k a) (.int k b)=some (.int k (k.wrap (a * b))):=by simp [za4]
@[go_sem] theorem zy7:za4 .eql (.int k a) (.int k b)=some (.bool (decide (a=b))):=by by_cases h:a=b<;>simp [za4,h]
@[go_sem] theorem binD_neq:za4 .neq (.int k a) (.int k b)=some (.bool (decide (¬ a=b))):=by by_cases h:a=b<;>simp [za4,h]
@[go_sem] theorem binD_lss:za4 .lss (.int k a) (.int k b)=some (.bool (decide (a<b))):=by simp [za4]
@[go_sem] theorem binD_leq:za4 .leq (.int k a) (.int k b)=some (.bool (decide (a≤b))):=by simp [za4]
@[go_sem] theorem binD_gtr:za4 .gtr (.int k a) (.int k b)=some (.bool (decide (b<a))):=by simp [za4]
@[go_sem] theorem binD_geq:za4 .geq (.int k a) (.int k b)=some (.bool (decide (b≤a))):=by simp [za4]
@[go_sem] theorem zy8 (h:b≠0):za4 .quo (.int k a) (.int k b)=some (.int k (k.wrap (a.tdiv b))):=by simp [za4,h]
@[go_sem] theorem zy9 (h:b≠0):za4 .rem (.int k a) (.int k b)=some (.int k (a.tmod b)):=by simp [za4,h]
@[go_sem] theorem binD_shl (k':IntKind) (h:0≤b):za4 .shl (.int k a) (.int k' b)=some (.int k (k.wrap (a * 2 ^ (if b.toNat≤k.bits then b.toNat else k.bits)))):=by
  rw [← Nat.min_def]
  have hb:¬ b<0:=by omega
  simp only [za4,if_neg hb]
@[go_sem] theorem z7b:za4 .eql (.str s) (.str t)=some (.bool (decide (s=t))):=by simp only [za4];congr 2;by_cases h:s=t<;>simp [h]
@[go_sem] theorem z7c:za4 .neq (.str s) (.str t)=some (.bool (decide (¬ s=t))):=by simp only [za4];congr 2;by_cases h:s=t<;>simp [h]
@[go_sem] theorem z7d (h:s.length+t.length<4611686018427387904):za4 .add (.str s) (.str t)=some (.str (s++t)):=by simp only [za4,h,if_true]
end
@[go_sem] theorem bits_i64:IntKind.i64.bits=64:=rfl
@[go_sem] theorem bits_u64:IntKind.u64.bits=64:=rfl
@[go_sem] theorem bits_u32:IntKind.u32.bits=32:=rfl
@[go_sem] theorem bits_u8:IntKind.u8.bits=8:=rfl
attribute [go_sem] ze zau D.cells D.one yk3Q List.length_cons List.length_nil yk2Q Option.map_some Option.map_none List.all_cons List.all_nil Bool.and_true Bool.and_self Bool.true_and List.take_succ_cons List.take_zero List.drop_succ_cons List.drop_zero List.head?_cons
 List.cons_append List.nil_append ylvQ List.map_cons List.map_nil z6 Bool.or_true Bool.or_false Bool.true_or Bool.false_or beq_self_eq_true Bool.and_false Bool.false_and zyn ze7 List.zip_cons_cons List.zip_nil_left List.foldl_cons List.foldl_nil Option.bind_some ylhQ yleQ
 List.replicate_succ List.replicate_zero List.set_cons_zero List.set_cons_succ Option.getD_some Option.getD_none yk6Q
section
variable {ρ:Env} {lv:List Hp} {G:Gh}
def zza (c a b:AV):Option AV:=match c with|.d (.bool t)=>some (if t then a else b)|_=>none
@[go_sem] theorem evP_pick (c a b:AO):evP ρ lv G (.pick c a b)=zza (ev ρ c) (ev ρ a).cp (ev ρ b).cp:=by
  simp only [evP,zza];cases ev ρ c with
  | d x=>cases x with
    | bool t=>cases t<;>rfl
    | _=>rfl
  | _=>rfl
@[go_sem] theorem vPick_t (a b:AV):zza (.d (.bool true)) a b=some a:=rfl
@[go_sem] theorem vPick_f (a b:AV):zza (.d (.bool false)) a b=some b:=rfl
def z1e (z:List D) (ps:List (Nat×Nat×AO)) (vs:Option (List D)):Option AV:=match vs with
 | some vs=>(zjf z ((ps.zip vs).map fun (p,v)=>(p.1,p.2.1,v))).bind fun cs=>if cs.all D.one then some (.d (.agg cs)) else none
 | none=>none
@[go_sem] theorem z7e (z:List D) (ps:List (Nat×Nat×AO)):evP ρ lv G (.build z ps)=z1e z ps (z6 ρ (ps.map (·.2.2))):=rfl
@[go_sem] theorem z7f (z:List D) (ps:List (Nat×Nat×AO)) (vs:List D):z1e z ps (some vs)=(zjf z ((ps.zip vs).map fun (p,v)=>(p.1,p.2.1,v))).bind fun cs=>if cs.all D.one then some (.d (.agg cs)) else none:=rfl
@[go_sem] theorem z7g (z:List D):zjf z []=some z:=rfl
@[go_sem] theorem z5r (z:List D) (off size:Nat) (v:D) (ps:List (Nat×Nat×D)):zjf z ((off,size,v)::ps)=if v.cells.length=size∧off+size≤z.length then zjf (zau z v.cells off) ps else none:=rfl
def vMks (sz n:Nat) (z:D) (ps:List (Nat×AO)) (vs:Option (List D)):Option AV:=match vs with
 | some vs=>let es:=(ps.zip vs).foldl (fun es (p,v)=>es.set p.1 v) (List.replicate n z)
   if vs.all (ze sz) && ze sz z && (ps.all fun p=>p.1<n) then some (.own sz es) else none
 | none=>none
@[go_sem] theorem z22 (sz n:Nat) (z:D) (ps:List (Nat×AO)):evP ρ lv G (.mkslice sz n z ps)=vMks sz n z ps (z6 ρ (ps.map (·.2))):=rfl
@[go_sem] theorem vMks_mk (sz n:Nat) (z:D) (ps:List (Nat×AO)) (vs:List D):vMks sz n z ps (some vs)=if (vs.all (ze sz) && ze sz z && (ps.all fun p=>p.1<n))=true then some (.own sz ((ps.zip vs).foldl (fun es (p,v)=>es.set p.1 v) (List.replicate n z))) else none:=rfl
def zkb (agg:Bool) (n:Nat) (r:Root) (lv:List Hp) (G:Gh) (v:AV):Option AV:=match v with
 | .ptr k s g off=>if zb6 r k s then (match blk lv k s g with|some cs=>(zbv agg n (cs.drop off)).map .d|none=>none) else none
 | .cptr cs=>(zbv agg n cs).map .d
 | .d (.gp b off)=>if r.foreignOk then (match G b with|some cs=>(zbv agg n (cs.drop off)).map .d|none=>none) else none
 | _=>none
@[go_sem] theorem evP_load (agg:Bool) (n:Nat) (x:AO) (r:Root):evP ρ lv G (.load agg n x r)=zkb agg n r lv G (ev ρ x):=rfl
def zae (agg:Bool) (n:Nat) (cs:Option (List D)) (off:Nat):Option AV:=match cs with|some cs=>(zbv agg n (cs.drop off)).map .d|none=>none
@[go_sem] theorem z7h (agg:Bool) (n:Nat) (cs:List D) (off:Nat):zae agg n (some cs) off=(zbv agg n (cs.drop off)).map .d:=rfl
@[go_sem] theorem z5s (agg:Bool) (n k s g off:Nat):zkb agg n .any lv G (.ptr k s g off)=zae agg n (blk lv k s g) off:=by simp [zkb,zae,zb6]
@[go_sem] theorem z5t (agg:Bool) (n s g off:Nat):zkb agg n (.site s) lv G (.ptr 0 s g off)=zae agg n (blk lv 0 s g) off:=by simp [zkb,zae,zb6]
@[go_sem] theorem z5u (agg:Bool) (n:Nat) (r:Root) (cs:List D):zkb agg n r lv G (.cptr cs)=(zbv agg n cs).map .d:=rfl
@[go_sem] theorem z7i (agg:Bool) (n b off:Nat):zkb agg n .any lv G (.d (.gp b off))=zae agg n (G b) off:=by simp [zkb,zae,Root.foreignOk]
@[go_sem] theorem z7j (agg:Bool) (n b off:Nat):zkb agg n .foreign lv G (.d (.gp b off))=zae agg n (G b) off:=by simp [zkb,zae,Root.foreignOk]
@[go_sem] theorem loadD_t (n:Nat) (cs:List D):zbv true n cs=if n≤cs.length then some (.agg (cs.take n)) else none:=rfl
@[go_sem] theorem loadD_f (n:Nat) (cs:List D):zbv false n cs=cs.head?:=rfl
@[go_sem] theorem z5v (k s:Nat):zb6 .any k s=true:=rfl
@[go_sem] theorem z23 (r k s:Nat):zb6 (.site r) k s=(k == 0 && s == r):=rfl
@[go_sem] theorem z5w (k s:Nat):zb6 .foreign k s=(k != 0):=rfl
@[go_sem] theorem z7k:Root.foreignOk .any=true:=rfl
@[go_sem] theorem z7l:Root.foreignOk .foreign=true:=rfl
@[go_sem] theorem forOk_gp:Root.foreignOk .gp=true:=rfl
def zi2 (v:AV):Option AV:=match v with|.ptr k s g off=>some (.ptr k s g off)|.cptr cs=>some (.cptr cs)|.func f c=>some (.func f c)|.d (.fn f)=>some (.d (.fn f))|.d (.gp b off)=>some (.d (.gp b off))|.d (.clo f ds)=>some (.d (.clo f ds))|.d (.yld l)=>some (.d (.yld l))|_=>none
@[go_sem] theorem z7m (x:AO):evP ρ lv G (.nilck x)=zi2 (ev ρ x):=rfl
@[go_sem] theorem z5x (f:FuncId) (ds:List D):zi2 (.d (.clo f ds))=some (.d (.clo f ds)):=rfl
@[go_sem] theorem z5y (l:Nat):zi2 (.d (.yld l))=some (.d (.yld l)):=rfl
@[go_sem] theorem z5z (k s g off:Nat):zi2 (.ptr k s g off)=some (.ptr k s g off):=rfl
@[go_sem] theorem z24 (cs:List D):zi2 (.cptr cs)=some (.cptr cs):=rfl
@[go_sem] theorem z25 (f:FuncId) (c:List (Nat×Nat×Nat)):zi2 (.func f c)=some (.func f c):=rfl
@[go_sem] theorem z7n (f:FuncId):zi2 (.d (.fn f))=some (.d (.fn f)):=rfl
@[go_sem] theorem z7o (b off:Nat):zi2 (.d (.gp b off))=some (.d (.gp b off)):=rfl
def vBin (op:BinOp) (x y:AV):Option AV:=match x,y with|.d a,.d b=>(za4 op a b).map .d|_,_=>none
@[go_sem] theorem evP_bin (op:BinOp) (x y:AO):evP ρ lv G (.bin op x y)=vBin op (ev ρ x) (ev ρ y):=rfl
@[go_sem] theorem vBin_d (op:BinOp) (a b:D):vBin op (.d a) (.d b)=(za4 op a b).map .d:=rfl
def vEqs (neg:Bool) (ks:List Kd) (x y:AV):Option AV:=match x,y with|.d (.agg a),.d (.agg b)=>(zi ks a b).map fun t=>.d (.bool (if neg then !t else t))|_,_=>none
@[go_sem] theorem evP_eqs (neg:Bool) (ks:List Kd) (x y:AO):evP ρ lv G (.eqs neg ks x y)=vEqs neg ks (ev ρ x) (ev ρ y):=rfl
@[go_sem] theorem z7p (ks:List Kd) (a b:List D):vEqs false ks (.d (.agg a)) (.d (.agg b))=(zi ks a b).map fun t=>.d (.bool t):=rfl
@[go_sem] theorem vEqs_t (ks:List Kd) (a b:List D):vEqs true ks (.d (.agg a)) (.d (.agg b))=(zi ks a b).map fun t=>.d (.bool (!t)):=rfl
@[go_sem] theorem z26:zi [] [] []=some true:=rfl
@[go_sem] theorem zvr (k:IntKind) (a b:Int) (ks:List Kd) (xs ys:List D):zi (.i::ks) (.int k a::xs) (.int k b::ys)=(zi ks xs ys).map fun c=>(decide (a=b) && c):=by
  have e:(a == b)=decide (a=b):=by by_cases h:a=b<;>simp [h]
  simp only [zi,zcf,if_true,e];cases zi ks xs ys<;>rfl
def vEqb (neg:Bool) (x y:AV):Option AV:=match x,y with|.d (.bool a),.d (.bool b)=>some (.d (.bool (if neg then !(a == b) else a == b)))|_,_=>none
@[go_sem] theorem evP_eqb (neg:Bool) (x y:AO):evP ρ lv G (.eqb neg x y)=vEqb neg (ev ρ x) (ev ρ y):=rfl
@[go_sem] theorem vEqb_t (a b:Bool):vEqb true (.d (.bool a)) (.d (.bool b))=some (.d (.bool (!(a == b)))):=rfl
@[go_sem] theorem vEqb_f (a b:Bool):vEqb false (.d (.bool a)) (.d (.bool b))=some (.d (.bool (a == b))):=rfl
def vNot (x:AV):Option AV:=match x with|.d (.bool b)=>some (.d (.bool (!b)))|_=>none
@[go_sem] theorem evP_not (x:AO):evP ρ lv G (.not x)=vNot (ev ρ x):=rfl
@[go_sem] theorem vNot_b (b:Bool):vNot (.d (.bool b))=some (.d (.bool (!b))):=rfl
def vNeg (x:AV):Option AV:=match x with|.d (.int k n)=>some (.d (.int k (k.wrap (0 - n))))|_=>none
@[go_sem] theorem evP_neg (x:AO):evP ρ lv G (.neg x)=vNeg (ev ρ x):=rfl
@[go_sem] theorem vNeg_i (k:IntKind) (n:Int):vNeg (.d (.int k n))=some (.d (.int k (k.wrap (0 - n)))):=rfl
def zqc (k:IntKind) (x:AV):Option AV:=match x with|.d (.int _ n)=>some (.d (.int k (k.wrap n)))|_=>none
@[go_sem] theorem evP_conv (k:IntKind) (x:AO):evP ρ lv G (.conv k x)=zqc k (ev ρ x):=rfl
@[go_sem] theorem vConv_i (k k':IntKind) (n:Int):zqc k (.d (.int k' n))=some (.d (.int k (k.wrap n))):=rfl
def z1f:List AV→Option (List (Nat×Nat×Nat))
 | []=>some []
 | v::vs=>match zpv v,z1f vs with|some c,some cs=>some (c::cs)|_,_=>none
@[go_sem] theorem z50:z1f []=some []:=rfl
def vSl0 (sz:Nat) (x:Option D):Option AV:=match x with|some .nilS=>some (.d .nilS)|some (.list _)=>some (.own sz [])|_=>none
@[go_sem] theorem evP_sl0 (sz:Nat) (x:AO):evP ρ lv G (.sl0 sz x)=vSl0 sz (ev ρ x).data:=rfl
def vSl3L (sz:Nat) (x:Option D) (h m:AV):Option AV:=match x,h,m with|some (.list es),.d (.int .i64 a),.d (.int .i64 b)=>if es.all (ze sz)=true∧a=es.length∧b=es.length then some (.own sz es) else none|_,_,_=>none
@[go_sem] theorem evP_sl3L (sz:Nat) (x y z:AO):evP ρ lv G (.sl3L sz x y z)=vSl3L sz (ev ρ x).data (ev ρ y) (ev ρ z):=rfl
@[go_sem] theorem vSl0_nil (sz:Nat):vSl0 sz (some .nilS)=some (.d .nilS):=rfl
@[go_sem] theorem z7q (sz:Nat) (es:List D):vSl0 sz (some (.list es))=some (.own sz []):=rfl
def z1g:AV→Option Int|.d (.int _ n)=>some n|_=>none
@[go_sem] theorem vInt_i (k:IntKind) (n:Int):z1g (.d (.int k n))=some n:=rfl
@[go_sem] theorem bnd_none (d:Nat):bnd ρ d none=some (d:Int):=rfl
@[go_sem] theorem bnd_some (d:Nat) (o:AO):bnd ρ d (some o)=z1g (ev ρ o):=rfl
def z52 (sz:Nat) (x:Option D) (lo hi:Option Int):Option AV :=
 match x,lo,hi with
 | some (.list es),some l,some h=>if es.all (ze sz) then (if 0≤l∧l≤h∧h≤es.length then some (.d (.list ((es.take h.toNat).drop l.toNat))) else none) else none
 | some .nilS,some l,some h=>if l=0∧h=0 then some (.d .nilS) else none
 | some (.gs b off _ cap),some l,some h=>if 0≤l∧l≤h∧h≤cap then some (.d (.gs b (if cap=l.toNat then off else off+l.toNat * sz) (h.toNat - l.toNat) (cap - l.toNat))) else none
 | _,_,_=>none
@[go_sem] theorem evP_slH (sz:Nat) (x:AO) (lo:Option AO) (h:AO):evP ρ lv G (.sl sz x lo (some h))=z52 sz (ev ρ x).data (bnd ρ 0 lo) (z1g (ev ρ h)):=by
  have e:∀ n,bnd ρ n (some h)=z1g (ev ρ h):=fun n=>rfl
  simp only [evP,z52,e]
  generalize (ev ρ x).data=o
  generalize bnd ρ 0 lo=l
  generalize z1g (ev ρ h)=k
  cases o with
  | none=>rfl
  | some d =>
   cases d with
   | list es=>cases l<;>cases k<;>by_cases h:es.all (ze sz)<;>simp [h]
   | nilS=>cases l<;>cases k<;>simp
   | gs b off len cap=>cases l<;>cases k<;>simp
   | _=>rfl
@[go_sem] theorem zod (sz:Nat) (es:List D) (l h:Int) (h1:0≤l) (h2:l≤h) (h3:h≤es.length):z52 sz (some (.list es)) (some l) (some h)=if es.all (ze sz)=true then some (.d (.list ((es.take h.toNat).drop l.toNat))) else none:=by simp only [z52,h1,h2,h3,and_self,if_true]
def vStL (x:AV) (lo:Option Int):Option AV :=
 match x,lo with
 | .d (.str s),some l=>if 0≤l∧l≤s.length then some (.d (.str (s.drop l.toNat))) else none
 | _,_=>none
def vStH (x:AV) (lo hi:Option Int):Option AV :=
 match x,lo,hi with
 | .d (.str s),some l,some h=>if 0≤l∧l≤h∧h≤s.length then some (.d (.str ((s.take h.toNat).drop l.toNat))) else none
 | _,_,_=>none
@[go_sem] theorem evP_stL (x:AO) (lo:Option AO):evP ρ lv G (.slS x lo none)=vStL (ev ρ x) (bnd ρ 0 lo):=by
  have e:∀ n,bnd ρ n none=some (n:Int):=fun _=>rfl
  simp only [evP,vStL,e]
  generalize ev ρ x=o
  generalize bnd ρ 0 lo=l
  cases o with
  | d d=>cases d with
    | str s=>cases l with
      | none=>rfl
      | some l=>by_cases h2:0≤l∧l≤s.length<;>simp [h2]
    | _=>rfl
  | _=>rfl
@[go_sem] theorem evP_stH (x:AO) (lo:Option AO) (h:AO):evP ρ lv G (.slS x lo (some h))=vStH (ev ρ x) (bnd ρ 0 lo) (z1g (ev ρ h)):=by
  have e:∀ n,bnd ρ n (some h)=z1g (ev ρ h):=fun n=>rfl
  simp only [evP,vStH,e]
  generalize ev ρ x=o
  generalize bnd ρ 0 lo=l
  generalize z1g (ev ρ h)=k
  cases o with
  | d d=>cases d with
    | str s=>cases l<;>cases k<;>simp
    | _=>rfl
  | _=>rfl
@[go_sem] theorem vStL_mk (s:List UInt8) (l:Int) (h1:0≤l) (h2:l≤s.length):vStL (.d (.str s)) (some l)=some (.d (.str (s.drop l.toNat))):=by simp only [vStL,h1,h2,and_self,if_true]
@[go_sem] theorem vStH_mk (s:List UInt8) (l h:Int) (h1:0≤l) (h2:l≤h) (h3:h≤s.length):vStH (.d (.str s)) (some l) (some h)=some (.d (.str ((s.take h.toNat).drop l.toNat))):=by simp only [vStH,h1,h2,h3,and_self,if_true]
def zru (off:Nat) (v:AV):Option AV:=match v with|.ptr k s g o=>some (.ptr k s g (o+off))|.cptr cs=>some (.cptr (cs.drop off))|.d (.gp b o)=>some (.d (.gp b (o+off)))|_=>none
@[go_sem] theorem z7r (off:Nat) (x:AO):evP ρ lv G (.faddr off x)=zru off (ev ρ x):=rfl
@[go_sem] theorem z54 (off k s g o:Nat):zru off (.ptr k s g o)=some (.ptr k s g (o+off)):=rfl
@[go_sem] theorem z27 (off:Nat) (cs:List D):zru off (.cptr cs)=some (.cptr (cs.drop off)):=rfl
@[go_sem] theorem z7s (off b o:Nat):zru off (.d (.gp b o))=some (.d (.gp b (o+off))):=rfl
def z1h (agg:Bool) (off n:Nat) (v:AV):Option AV:=match v with|.d (.agg cs)=>(zbv agg n (cs.drop off)).map .d|_=>none
@[go_sem] theorem z7t (agg:Bool) (off n:Nat) (x:AO):evP ρ lv G (.field agg off n x)=z1h agg off n (ev ρ x):=rfl
@[go_sem] theorem z55 (agg:Bool) (off n:Nat) (cs:List D):z1h agg off n (.d (.agg cs))=(zbv agg n (cs.drop off)).map .d:=rfl
def zi3 (sz:Nat) (x:Option D) (i:AV):Option AV:=match x,i with
 | some (.list es),.d (.int _ n)=>if es.all (ze sz)∧0≤n then (es[n.toNat]?).map fun e=>.cptr e.cells else none
 | some (.gs b off len _),.d (.int _ n)=>if 0≤n∧n<len then some (.d (.gp b (off+n.toNat * sz))) else none
 | _,_=>none
@[go_sem] theorem z7u (sz:Nat) (x i:AO):evP ρ lv G (.iaddr sz x i)=zi3 sz (ev ρ x).data (ev ρ i):=rfl
theorem zqd (sz:Nat) (es:List D) (k:IntKind) (n:Int) (ha:es.all (ze sz)=true) (h0:0≤n) (h:n.toNat<es.length):zi3 sz (some (.list es)) (.d (.int k n))=some (.cptr (es[n.toNat]).cells):=by
 simp only [zi3,ha,h0,and_self,if_true,yliQ h,Option.map_some]
@[go_sem] theorem z56 {α:Type} (sz:Nat) (f:α→D) (es:List α) (k:IntKind) (n:Int) (h0:0≤n) (h:n.toNat<es.length):zi3 sz (some (.list (es.map f))) (.d (.int k n))=if (es.map f).all (ze sz)=true then some (.cptr (f es[n.toNat]).cells) else none:=by
  by_cases ha:(es.map f).all (ze sz)=true
  · rw [zqd sz _ k n ha h0 (by simpa using h),if_pos ha];simp
  · rw [if_neg ha];simp [zi3,ha]
@[go_sem] theorem z7v (sz b off len cap:Nat) (k:IntKind) (n:Int) (h0:0≤n) (h:n<len):zi3 sz (some (.gs b off len cap)) (.d (.int k n))=some (.d (.gp b (off+n.toNat * sz))):=by
  simp only [zi3,h0,h,and_self,if_true]
def zgv (len sz:Nat) (x i:AV):Option AV:=match x,i with
 | .ptr k s g o,.d (.int _ n)=>if 0≤n∧n<len then some (.ptr k s g (o+n.toNat * sz)) else none
 | .cptr cs,.d (.int _ n)=>if 0≤n∧n<len then some (.cptr (cs.drop (n.toNat * sz))) else none
 | .d (.gp b o),.d (.int _ n)=>if 0≤n∧n<len then some (.d (.gp b (o+n.toNat * sz))) else none
 | _,_=>none
@[go_sem] theorem z57 (len sz:Nat) (x i:AO):evP ρ lv G (.iaddrA len sz x i)=zgv len sz (ev ρ x) (ev ρ i):=rfl
@[go_sem] theorem z29 (len sz k s g o:Nat) (ik:IntKind) (n:Int) (h0:0≤n) (h:n<len):zgv len sz (.ptr k s g o) (.d (.int ik n))=some (.ptr k s g (o+n.toNat * sz)):=by simp only [zgv,h0,h,and_self,if_true]
@[go_sem] theorem z1i (len sz:Nat) (cs:List D) (ik:IntKind) (n:Int) (h0:0≤n) (h:n<len):zgv len sz (.cptr cs) (.d (.int ik n))=some (.cptr (cs.drop (n.toNat * sz))):=by simp only [zgv,h0,h,and_self,if_true]
@[go_sem] theorem z58 (len sz b o:Nat) (ik:IntKind) (n:Int) (h0:0≤n) (h:n<len):zgv len sz (.d (.gp b o)) (.d (.int ik n))=some (.d (.gp b (o+n.toNat * sz))):=by simp only [zgv,h0,h,and_self,if_true]
def z3a (x i:AV):Option AV:=match x,i with
 | .d (.str s),.d (.int _ n)=>if 0≤n then (s[n.toNat]?).map fun b=>.d (.int .u8 b.toNat) else none
 | _,_=>none
@[go_sem] theorem evP_idxS (x i:AO):evP ρ lv G (.idxS x i)=z3a (ev ρ x) (ev ρ i):=rfl
@[go_sem] theorem vIdxS_mk (s:List UInt8) (k:IntKind) (n:Int) (h0:0≤n) (h:n.toNat<s.length):z3a (.d (.str s)) (.d (.int k n))=some (.d (.int .u8 (s[n.toNat]).toNat)):=by
  simp only [z3a,h0,if_true,yliQ h,Option.map_some]
def z3b (agg:Bool) (len sz:Nat) (x i:AV):Option AV:=match x,i with
 | .d (.agg cs),.d (.int _ n)=>if 0≤n∧n<len then (zbv agg sz (cs.drop (n.toNat * sz))).map .d else none
 | _,_=>none
@[go_sem] theorem evP_idxA (agg:Bool) (len sz:Nat) (x i:AO):evP ρ lv G (.idxA agg len sz x i)=z3b agg len sz (ev ρ x) (ev ρ i):=rfl
@[go_sem] theorem vIdxA_mk (agg:Bool) (len sz:Nat) (cs:List D) (k:IntKind) (n:Int) (h0:0≤n) (h:n<len):z3b agg len sz (.d (.agg cs)) (.d (.int k n))=(zbv agg sz (cs.drop (n.toNat * sz))).map .d:=by simp only [z3b,h0,h,and_self,if_true]
def z7w (x:AV) (i:Nat):Option AV:=match x with|.tup vs=>(vs[i]?).map .d|_=>none
@[go_sem] theorem evP_ext (x:AO) (i:Nat):evP ρ lv G (.ext x i)=z7w (ev ρ x) i:=rfl
@[go_sem] theorem vExt_0 (a:D) (vs:List D):z7w (.tup (a::vs)) 0=some (.d a):=rfl
@[go_sem] theorem vExt_1 (a b:D) (vs:List D):z7w (.tup (a::b::vs)) 1=some (.d b):=rfl
@[go_sem] theorem vExt_2 (a b c:D) (vs:List D):z7w (.tup (a::b::c::vs)) 2=some (.d c):=rfl
@[go_sem] theorem vExt_3 (a b c d:D) (vs:List D):z7w (.tup (a::b::c::d::vs)) 3=some (.d d):=rfl
def z3c (str:Bool) (x:Option D):Option AV:=match x with|some y=>(z94 str y).map fun n=>.d (.int .i64 n)|none=>none
@[go_sem] theorem evP_len (str:Bool) (x:AO):evP ρ lv G (.len str x)=z3c str (ev ρ x).data:=rfl
@[go_sem] theorem z7x (es:List D):z3c false (some (.list es))=some (.d (.int .i64 es.length)):=rfl
@[go_sem] theorem vLen_nil:z3c false (some .nilS)=some (.d (.int .i64 0)):=rfl
@[go_sem] theorem vLen_gs (b off len cap:Nat):z3c false (some (.gs b off len cap))=some (.d (.int .i64 len)):=rfl
@[go_sem] theorem vLen_str (s:List UInt8):z3c true (some (.str s))=some (.d (.int .i64 s.length)):=rfl
def vMx (x y:AV):Option AV:=match x,y with|.d (.int k a),.d (.int _ b)=>some (.d (.int k (if b > a then b else a)))|_,_=>none
@[go_sem] theorem evP_mx (x y:AO):evP ρ lv G (.mx x y)=vMx (ev ρ x) (ev ρ y):=rfl
@[go_sem] theorem vMx_i (k k':IntKind) (a b:Int):vMx (.d (.int k a)) (.d (.int k' b))=some (.d (.int k (max a b))):=by simp only [vMx];congr 3;by_cases h:b > a<;>simp [h]<;>omega
def vMn (x y:AV):Option AV:=match x,y with|.d (.int k a),.d (.int _ b)=>some (.d (.int k (if b<a then b else a)))|_,_=>none
@[go_sem] theorem evP_mn (x y:AO):evP ρ lv G (.mn x y)=vMn (ev ρ x) (ev ρ y):=rfl
def z7y (x:Option D):Option AV:=match x with
 | some .nilS=>some (.d (.str []))
 | some (.list es)=>(zb5 es).map fun l=>.d (.str l)
 | _=>none
@[go_sem] theorem evP_b2s (x:AO):evP ρ lv G (.b2s x)=z7y (ev ρ x).data:=rfl
@[go_sem] theorem vB2s_nil:z7y (some .nilS)=some (.d (.str [])):=rfl
def eB (b:UInt8):D:=.int .u8 b.toNat
theorem zeo (l:List UInt8):zb5 (l.map eB)=some l:=by
 induction l with
 | nil=>rfl
 | cons b l ih=>simp [eB,zb5] at ih ⊢;rw [ih]
@[go_sem] theorem vB2s_map (l:List UInt8):z7y (some (.list (l.map eB)))=some (.d (.str l)):=by simp only [z7y,zeo,Option.map_some]
def vS2b (x:AV):Option AV:=match x with|.d (.str s)=>some (.d (.list (s.map fun b=>.int .u8 b.toNat)))|_=>none
@[go_sem] theorem evP_s2b (x:AO):evP ρ lv G (.s2b x)=vS2b (ev ρ x):=rfl
@[go_sem] theorem vS2b_mk (s:List UInt8):vS2b (.d (.str s))=some (.d (.list (s.map eB))):=rfl
@[go_sem] theorem zhm (l:List UInt8):(l.map eB).all (ze 1)=true:=by simp [List.all_map,Function.comp_def,eB,ze,D.cells,D.one]
@[go_sem] theorem eB_cells (b:UInt8):(eB b).cells=[.int .u8 b.toNat]:=rfl
def vCap (x:Option D):Option AV:=match x with|some .nilS=>some (.d (.int .i64 0))|some (.gs _ _ _ cap)=>some (.d (.int .i64 cap))|_=>none
@[go_sem] theorem evP_cap (x:AO):evP ρ lv G (.cap x)=vCap (ev ρ x).data:=rfl
@[go_sem] theorem vCap_nil:vCap (some .nilS)=some (.d (.int .i64 0)):=rfl
@[go_sem] theorem vCap_gs (b off len cap:Nat):vCap (some (.gs b off len cap))=some (.d (.int .i64 cap)):=rfl
@[go_sem] theorem z3d (sz by_:Nat) (xs es:List D) (h0:0<by_) (hb:(xs.length+es.length) * by_≤mostBytes):zbz sz by_ (.own sz xs) (.list es)=if es.all (ze sz)=true then some (.own sz (xs++es)) else none:=by
  simp only [zbz,if_neg (Nat.ne_of_gt h0),zyn];by_cases ha:es.all (ze sz)=true<;>simp [ha,hb]
@[go_sem] theorem z1j (sz by_:Nat) (xs:List D) (h0:0<by_) (hb:xs.length * by_≤mostBytes):zbz sz by_ (.own sz xs) .nilS=some (.own sz xs):=by
  simp only [zbz,if_neg (Nat.ne_of_gt h0),zyn,List.length_nil,Nat.add_zero,hb,and_self,if_true,ylvQ]
@[go_sem] theorem zzb (es:List D) (k:IntKind) (m:Int) (h0:0≤m) (h:es.length+m.toNat≤mostBytes):zbz 0 0 (.own 1 es) (.int k m)=some (.own 1 (es++List.replicate m.toNat (.int .u8 0))):=by
  simp only [zbz,zs3,h0,h,and_self,if_true]
@[go_sem] theorem z3e (s:List UInt8) (h:s.length≤mostBytes):zbz 1 0 (.d (.str [])) (.str s)=some (.own 1 (s.map eB)):=by
  simp only [zbz,zs3,h,and_self,if_true]
  rfl
@[go_sem] theorem z7z (f:FuncId):target (.d (.fn f))=some (f,[]):=rfl
@[go_sem] theorem z3f (f:FuncId) (caps:List (Nat×Nat×Nat)):target (.func f caps)=some (f,caps.map fun (k,s,g)=>.ptr k s g 0):=rfl
end
theorem zle (n:Nat):(0≤(n:Int))=True:=by simp
theorem z2:mostBytes=140737488355328:=rfl
attribute [go_sem] z2 List.isEmpty_cons List.isEmpty_nil zle Nat.add_zero yltQ decide_true decide_false not_true_eq_false not_false_eq_true Bool.not_true Bool.not_false AV.d.injEq and_self and_true true_and
@[go_sem] theorem sh_d (x:D):sh (.d x)=.d x:=rfl
@[go_sem] theorem sh_own (sz:Nat) (es:List D):sh (.own sz es)=.d (.list es):=rfl
@[go_sem] theorem sh_ptr (k s g off:Nat):sh (.ptr k s g off)=.ptr (k+1) s g off:=rfl
@[go_sem] theorem sh_func (f:FuncId) (caps:List (Nat×Nat×Nat)):sh (.func f caps)=.func f (caps.map fun (k,s,g)=>(k+1,s,g)):=rfl
@[go_sem] theorem sh_cptr (cs:List D):sh (.cptr cs)=.cptr cs:=rfl
theorem zep {ρ:Env}:∀ {args:List AO} {xs:List D},z6 ρ args=some xs→(args.map (ev ρ)).map sh=xs.map .d
 | [],xs,h=>by simp [z6] at h;subst h;rfl
 | o::args,xs,h=>by
   simp only [z6] at h
   split at h
   · rename_i x xs' hx hxs
     cases h
     simp only [List.map_cons,zep hxs]
     congr 1
     generalize ev ρ o=v at hx
     cases v<;>simp [AV.data] at hx<;>subst hx<;>rfl
   · cases h
theorem zrv {P:Program} {d:Option Nat} {f:AO} {args:List AO} {q:Nat} {ρ:Env} {L:Hp} {σ:List Hp} {G:Gh} {K:St→Prop} {g:FuncId} {xs cs:List D} {Q:AV→Prop}
 (hc:∀ σ,zaz P g ((xs++cs).map .d) σ G fun r σ' G'=>σ'=σ∧G'=G∧Q r) (ht:target (ev ρ f)=some (g,cs.map .d)) (hd:z6 ρ args=some xs) (hK:∀ r,Q r→K (put ρ d r,L,σ,G)):zcl P d f args q ρ L σ G K:=by
 unfold zcl
 rw [ht]
 have e:(args.map (ev ρ)++cs.map AV.d).map sh=(xs++cs).map AV.d:=by
  rw [yk6Q,zep hd,yk6Q,List.map_map];rfl
 simp only
 split
 · rw [e]
   exact (hc _).mono fun r lv G' ⟨h1,h2,h3⟩=>by subst h1;subst h2;exact hK r h3
 · split
   · rw [e]
     exact (hc _).mono fun r lv G' ⟨h1,h2,h3⟩=>by subst h1;subst h2;exact ⟨rfl,fun _=>zez.refl _,hK r h3⟩
   · refine ⟨cs,rfl,?_⟩
     rw [hd]
     exact (hc _).mono fun r lv G' ⟨h1,h2,h3⟩=>by subst h1;subst h2;exact ⟨rfl,fun _=>zez.refl _,hK r h3⟩
theorem zqe {P:Program} {d:Option Nat} {f:AO} {args:List AO} {q:Nat} {ρ:Env} {L:Hp} {σ:List Hp} {G:Gh} {K:St→Prop} {g:FuncId} {xs:List D} {Q:AV→Prop}
 (hc:∀ σ,zaz P g (xs.map .d) σ G fun r σ' G'=>σ'=σ∧G'=G∧Q r) (ht:target (ev ρ f)=some (g,[])) (hd:z6 ρ args=some xs) (hK:∀ r,Q r→K (put ρ d r,L,σ,G)):zcl P d f args q ρ L σ G K :=
 zrv (cs:=[]) (by simpa using hc) ht hd hK
theorem zvs {P:Program} {d:Option Nat} {f:AO} {args:List AO} {q:Nat} {ρ:Env} {L:Hp} {σ:List Hp} {G:Gh} {K:St→Prop} {g:FuncId} {xs:List D} {Q:AV→Prop}
 (hc:zw P g xs Q) (ht:target (ev ρ f)=some (g,[])) (hd:z6 ρ args=some xs) (hK:∀ r,Q r→K (put ρ d r,L,σ,G)):zcl P d f args q ρ L σ G K :=
 zqe (fun σ=>hc.quiet σ G) ht hd hK
theorem ztn {P:Program} {d:Option Nat} {f:AO} {args:List AO} {q:Nat} {ρ:Env} {L:Hp} {σ:List Hp} {G:Gh} {K:St→Prop} {g:FuncId} {xs ys:List D} {Q:AV→Prop}
 (hc:zw P g ys Q) (ht:target (ev ρ f)=some (g,[])) (hd:z6 ρ args=some xs) (hl:zj9 G xs ys) (hf:∀ r,Q r→zoc r=true) (hK:∀ r,Q r→K (put ρ d r,L,σ,G)):zcl P d f args q ρ L σ G K :=
 zqe (fun σ=>hc.lend hl hf σ) ht hd hK
theorem E_le {l l':List (Nat×AV)} (h:∀ p∈l',VLe (E l p.1) p.2):∀ i,VLe (E l i) (E l' i):=by
 intro i
 induction l' with
 | nil=>exact .undef _
 | cons p l' ih =>
  obtain ⟨j,v⟩:=p
  simp only [E]
  split
  · rename_i e;subst e;exact h _ ylpQ
  · exact ih fun q hq=>h q (List.mem_cons_of_mem _ hq)
theorem zkc {l l':List (Nat×AV)} {L:Hp} {σ:List Hp} {G:Gh} (h:∀ p∈l',VLe (E l p.1) p.2):zwg (E l,L,σ,G) (E l',L,σ,G):=⟨E_le h,fun _=>BLe.refl _,rfl,GLe.refl _⟩
theorem zgm {l l':List (Nat×AV)} {h h':List (Nat×Blk)} {σ:List Hp} {G:Gh} (he:∀ p∈l',VLe (E l p.1) p.2) (hb:HB h=HB h'):zwg (E l,HB h,σ,G) (E l',HB h',σ,G):=by rw [← hb];exact zkc he
theorem zzc (v:AV):VLe v v=True:=by simp [VLe.refl]
theorem zvt (v:AV):VLe v .undef=True:=by simp [VLe.undef]
theorem zto (sz:Nat):VLe (.d .nilS) (.own sz [])=True:=by simp [VLe.nilown]
theorem z3g (sz:Nat) (es:List D):VLe (.own sz es) (.d (.list es))=True:=by simp [VLe.own]
attribute [go_sem] zzc zvt zto z3g
@[go_sem ↓] theorem vles_nil (l:List (Nat×AV)):(∀ p∈([]:List (Nat×AV)),VLe (E l p.1) p.2)=True:=by simp
@[go_sem ↓] theorem z70 (l l':List (Nat×AV)) (q:Nat×AV):(∀ p∈q::l',VLe (E l p.1) p.2)=(VLe (E l q.1) q.2∧∀ p∈l',VLe (E l p.1) p.2):=by simp
theorem zkd (h:List (Nat×Blk)):∀ (ss:List Nat),(ss.all fun s=>!(h.map (·.1)).contains s)=true→HB (h++ss.map fun s=>(s,⟨0,none⟩))=HB h:=by
 intro ss hs
 funext j
 induction h with
 | nil =>
  induction ss with
  | nil=>rfl
  | cons s ss ih=>simp only [List.nil_append,List.map_cons,HB] at ih ⊢;split<;>first|rfl|exact ih (by simp at hs ⊢)
 | cons p h ih =>
  obtain ⟨i,b⟩:=p
  simp only [List.cons_append,HB]
  split
  · rfl
  · refine ih ?_
    simp only [ylbQ,List.map_cons,List.contains_cons,Bool.not_eq_true',Bool.or_eq_false_iff] at hs ⊢
    exact fun s hm=>(hs s hm).2
section
variable {P:Program} {κ:zby→St→Prop} {st:St} {h:zp κ}
theorem W.seq {x y:ACode} (hx:W P x (zp.mk (a:=zby.then (fun st'=>W P y (zp.mk (a:=κ)) st') κ)) st):W P (.seq x y) h st:=SW.seq hx
theorem W.block {id:Nat} {x:ACode} (hx:W P x (zp.mk (a:=zby.inBlock id κ)) st):W P (.block id x) h st:=SW.block hx
theorem W.scope {x:ACode} (hx:W P x h st):W P (.scope x) h st:=SW.scope hx
theorem W.reg {d:Bool} {os:List AI} (hx:zaw P os st.1 st.2.1 st.2.2.1 st.2.2.2 (κ .normal)):W P (.reg d os) h st:=SW.reg hx
theorem W.skip (hx:κ .normal st):W P .skip h st:=SW.skip hx
theorem W.exit {id:Nat} (hx:κ (.exit id) st):W P (.exit id) h st:=SW.exit hx
theorem W.ret (hx:κ .ret st):W P .ret h st:=SW.ret hx
def wI2 (v:AV) {k1 k2:Prop} (_:zp k1) (_:zp k2):Prop:=∃ b,v=.d (.bool b)∧if b=true then k1 else k2
@[go_sem] theorem wI2_d (b:Bool) {k1 k2:Prop} (h1:zp k1) (h2:zp k2):wI2 (.d (.bool b)) h1 h2=wG (.d (.bool b)) true h1 h2:=by cases b<;>simp [wI2,wG,zh5]
theorem W.ifc {c:AO} {x y:ACode} (hx:wI2 (ev st.1 c) (zp.mk (a:=W P x (zp.mk (a:=κ)) st)) (zp.mk (a:=W P y (zp.mk (a:=κ)) st))):W P (.cond c x y) h st:=by
 obtain ⟨b,hb,hx⟩:=hx
 refine SW.cond hb (fun e=>?_) (fun e=>?_)
 · subst e;exact hx
 · subst e;exact hx
theorem zl0 {p:Prop} [Decidable p] {k1 k2:Prop} {i1:zp k1} {i2:zp k2} (h1:p→k1) (h2:¬ p→k2):wG (.d (.bool (decide p))) true i1 i2 :=
 wG_t (fun h=>h1 (of_decide_eq_true h)) (fun h=>h2 (of_decide_eq_false h))
theorem zvu {p:Prop} [Decidable p] {k1 k2:Prop} {i1:zp k1} {i2:zp k2} (h1:¬ p→k1) (h2:p→k2):wG (.d (.bool (decide p))) false i1 i2 :=
 wG_f (fun h=>h1 (of_decide_eq_false h)) (fun h=>h2 (of_decide_eq_true h))
theorem zbo {p:Prop} [Decidable p] {k1 k2:Prop} {i1:zp k1} {i2:zp k2} (h1:p→p=True→k1) (h2:¬ p→p=False→k2):wG (.d (.bool (decide p))) true i1 i2 :=
 zl0 (fun h=>h1 h (eq_true h)) (fun h=>h2 h (eq_false h))
theorem za1 {p:Prop} [Decidable p] {k1 k2:Prop} {i1:zp k1} {i2:zp k2} (h1:¬ p→p=False→k1) (h2:p→p=True→k2):wG (.d (.bool (decide p))) false i1 i2 :=
 zvu (fun h=>h1 h (eq_false h)) (fun h=>h2 h (eq_true h))
theorem W.loop {x:ACode} (I:Nat→St→Prop) (h0:∃ n st0,zwg st st0∧I n st0) (round:∀ n st',I n st'→W P x (zp.mk (a:=zby.then (Back (zp.mk (a:=I)) n) κ)) st'):W P (.loop x) h st:=by
 obtain ⟨n,st0,hl,hi⟩:=h0
 exact (SW.loop I hi round).weaken hl
theorem W.weaken {c:ACode} {st0:St} (hl:zwg st st0) (hx:W P c (zp.mk (a:=κ)) st0):W P c h st:=SW.weaken hl hx
end
theorem zm {P:Program} {gs:List Nat} {f:FuncId} {nt:Nat} {res:List zh4} {c:ACode} {vs:List AV} {σ:List Hp} {G:Gh} {Q:AV→List Hp→Gh→Prop} (hm:P.follows .mixedOrders=true) (hf:zb P gs f=some ⟨nt,res,c⟩)
 (h:W P c (zp.mk (a:=zyq res Q)) (E (zuk 0 vs),HB [],σ,G)):zaz P f vs σ G Q :=
 zp9 hm hf (by rw [ofL_E];exact h)
theorem zh {P:Program} {gs:List Nat} {f:FuncId} {nt:Nat} {res:List zh4} {c:ACode} {xs:List D} {Q:AV→Prop} (hm:P.follows .mixedOrders=true) (hf:zb P gs f=some ⟨nt,res,c⟩)
 (h:W P c (zp.mk (a:=zyq res fun r σ' G'=>σ'=[]∧G'=noGh∧Q r)) (E (zuk 0 (xs.map .d)),HB [],[],noGh)):zw P f xs Q:=zm hm hf h
theorem Fin.eq {res:List zh4} {Q:AV→List Hp→Gh→Prop} {h:zp Q} {st:St} {r:AV} (hf:fin res st.1 (st.2.1::st.2.2.1) st.2.2.2=some r) (hq:Q r st.2.2.1 st.2.2.2):Fin res h st:=⟨r,r,hf,.refl r,hq⟩
theorem Fin.p {res:List zh4} {Q:AV→Prop} {h:zp fun (r:AV) (σ':List Hp) (G':Gh)=>σ'=[]∧G'=noGh∧Q r} {ρ:Env} {L:Hp} {r:AV} (hf:fin res ρ [L] noGh=some r) (hq:Q r):Fin res h (ρ,L,[],noGh):=⟨r,r,hf,.refl r,rfl,rfl,hq⟩
theorem Fin.ple {res:List zh4} {Q:AV→Prop} {h:zp fun (r:AV) (σ':List Hp) (G':Gh)=>σ'=[]∧G'=noGh∧Q r} {ρ:Env} {L:Hp} {r r':AV} (hf:fin res ρ [L] noGh=some r) (hl:RLe r r') (hq:Q r'):Fin res h (ρ,L,[],noGh):=⟨r,r',hf,hl,rfl,rfl,hq⟩
section
variable {P:Program} {d:Option Nat} {f:AO} {args:List AO} {q:Nat} {ρ:Env} {L:Hp} {σ:List Hp} {G:Gh} {K:St→Prop} {h:zp K} {g:FuncId} {xs ys:List D} {Q:AV→Prop}
theorem wC_p (hc:zw P g xs Q) (ht:target (ev ρ f)=some (g,[])) (hd:z6 ρ args=some xs) (hK:∀ r,Q r→K (put ρ d r,L,σ,G)):wC P d f args q ρ L σ G h:=zvs hc ht hd hK
theorem zgw (hc:zw P g ys Q) (ht:target (ev ρ f)=some (g,[])) (hd:z6 ρ args=some xs) (hl:zj9 G xs ys) (hf:∀ r,Q r→zoc r=true) (hK:∀ r,Q r→K (put ρ d r,L,σ,G)):wC P d f args q ρ L σ G h:=ztn hc ht hd hl hf hK
theorem z1k (hc:zw P g xs Q) (ht:target (ev ρ f)=some (g,[])∧z6 ρ args=some xs) (hK:∀ r,Q r→K (put ρ d r,L,σ,G)):wC P d f args q ρ L σ G h:=zvs hc ht.1 ht.2 hK
end
theorem zaa {k:IntKind} {a b:Int} (h:a=b):VLe (.d (.int k a)) (.d (.int k b)):=by rw [h];exact .refl _
theorem bT {p:Prop} [Decidable p] (h:p):AV.d (.bool true)=.d (.bool (decide p)):=by simp [h]
theorem bF {p:Prop} [Decidable p] (h:¬ p):AV.d (.bool false)=.d (.bool (decide p)):=by simp [h]
theorem bI {p q:Prop} [Decidable p] [Decidable q] (h:p↔q):AV.d (.bool (decide p))=.d (.bool (decide q)):=by simp [h]
theorem iE {k:IntKind} {a b:Int} (h:a=b):AV.d (.int k a)=.d (.int k b):=by rw [h]
