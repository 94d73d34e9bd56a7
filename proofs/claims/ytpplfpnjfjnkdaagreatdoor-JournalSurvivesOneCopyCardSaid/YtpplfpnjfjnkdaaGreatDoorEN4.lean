/-
 Rules by which values are reckoned;and how a call is met.
 Conditions: none;laws.
-/
import Derived.Test.YtpplfpnjfjnkdaaGreatDoorEN3
namespace Go.E2
theorem wrap_i64 {x:Int} (h1:-9223372036854775808≤x) (h2:x≤9223372036854775807):IntKind.i64.wrap x=x:=by
 have e:IntKind.i64.wrap x=if x % 18446744073709551616≥9223372036854775808 then x % 18446744073709551616 - 18446744073709551616 else x % 18446744073709551616:=by simp [IntKind.wrap,IntKind.signed,IntKind.bits]
 rw [e];split<;>omega
theorem zyl {x:Int} (h1:-2147483648≤x) (h2:x≤2147483647):IntKind.i32.wrap x=x:=by
 have e:IntKind.i32.wrap x=if x % 4294967296≥2147483648 then x % 4294967296 - 4294967296 else x % 4294967296:=by simp [IntKind.wrap,IntKind.signed,IntKind.bits]
 rw [e];split<;>omega
theorem zfu {x:Int} (h1:0≤x) (h2:x≤18446744073709551615):IntKind.u64.wrap x=x:=by
 simp only [IntKind.wrap,IntKind.signed,IntKind.bits];simp;omega
theorem zym {x:Int} (h1:0≤x) (h2:x≤4294967295):IntKind.u32.wrap x=x:=by
 simp only [IntKind.wrap,IntKind.signed,IntKind.bits];simp;omega
theorem zi5 {x:Int} (h1:0≤x) (h2:x≤65535):IntKind.u16.wrap x=x:=by
 simp only [IntKind.wrap,IntKind.signed,IntKind.bits];simp;omega
theorem zp7 {x:Int} (h1:0≤x) (h2:x≤255):IntKind.u8.wrap x=x:=by
 simp only [IntKind.wrap,IntKind.signed,IntKind.bits];simp;omega
attribute [go_sem] wrap_i64 zyl zfu zym zi5 zp7
section
variable (k:IntKind) (a b:Int) (s t:List UInt8)
@[go_sem] theorem binD_add:zar .add (.int k a) (.int k b)=some (.int k (k.wrap (a+b))):=by simp [zar]
@[go_sem] theorem binD_sub:zar .sub (.int k a) (.int k b)=some (.int k (k.wrap (a - b))):=by simp [zar]
@[go_sem] theorem binD_mul:zar .mul (.int k a) (.int k b)=some (.int k (k.wrap (a * b))):=by simp [zar]
@[go_sem] theorem zyn:zar .eql (.int k a) (.int k b)=some (.bool (decide (a=b))):=by by_cases h:a=b<;>simp [zar,h]
@[go_sem] theorem binD_neq:zar .neq (.int k a) (.int k b)=some (.bool (decide (¬ a=b))):=by by_cases h:a=b<;>simp [zar,h]
@[go_sem] theorem binD_lss:zar .lss (.int k a) (.int k b)=some (.bool (decide (a<b))):=by simp [zar]
@[go_sem] theorem binD_leq:zar .leq (.int k a) (.int k b)=some (.bool (decide (a≤b))):=by simp [zar]
@[go_sem] theorem binD_gtr:zar .gtr (.int k a) (.int k b)=some (.bool (decide (b<a))):=by simp [zar]
@[go_sem] theorem binD_geq:zar .geq (.int k a) (.int k b)=some (.bool (decide (b≤a))):=by simp [zar]
@[go_sem] theorem zyo (h:b≠0):zar .quo (.int k a) (.int k b)=some (.int k (k.wrap (a.tdiv b))):=by simp [zar,h]
@[go_sem] theorem zyp (h:b≠0):zar .rem (.int k a) (.int k b)=some (.int k (a.tmod b)):=by simp [zar,h]
@[go_sem] theorem binD_shr (k':IntKind) (h:0≤b) (_ha:0≤a):zar .shr (.int k a) (.int k' b)=some (.int k (a / 2 ^ (if b.toNat≤k.bits then b.toNat else k.bits))):=by
  rw [← Nat.min_def]
  have hb:¬ b<0:=by omega
  simp only [zar,if_neg hb]
  rw [Int.fdiv_eq_ediv_of_nonneg _ (Int.pow_nonneg (by omega))]
@[go_sem] theorem binD_shl (k':IntKind) (h:0≤b):zar .shl (.int k a) (.int k' b)=some (.int k (k.wrap (a * 2 ^ (if b.toNat≤k.bits then b.toNat else k.bits)))):=by
  rw [← Nat.min_def]
  have hb:¬ b<0:=by omega
  simp only [zar,if_neg hb]
@[go_sem] theorem z6q:zar .eql (.str s) (.str t)=some (.bool (decide (s=t))):=by simp only [zar];congr 2;by_cases h:s=t<;>simp [h]
@[go_sem] theorem z6r:zar .neq (.str s) (.str t)=some (.bool (decide (¬ s=t))):=by simp only [zar];congr 2;by_cases h:s=t<;>simp [h]
@[go_sem] theorem z6s (h:s.length+t.length<4611686018427387904):zar .add (.str s) (.str t)=some (.str (s++t)):=by simp only [zar,h,if_true]
end
@[go_sem] theorem z4z (p q:Prop) [Decidable p] [Decidable q]:(decide p && decide q)=decide (p∧q):=by simp
@[go_sem] theorem bits_i64:IntKind.i64.bits=64:=rfl
@[go_sem] theorem bits_u64:IntKind.u64.bits=64:=rfl
@[go_sem] theorem bits_u32:IntKind.u32.bits=32:=rfl
@[go_sem] theorem zvc:IntKind.u8.bits=8:=rfl
@[go_sem] theorem z40 (p:Prop) [Decidable p]:(!decide p)=decide (¬ p):=by simp
attribute [go_sem] zb zaw D.cells D.one List.length_map List.length_cons List.length_nil List.length_append Option.map_some Option.map_none List.all_cons List.all_nil Bool.and_true Bool.and_self Bool.true_and List.take_succ_cons List.take_zero List.drop_succ_cons List.drop_zero List.head?_cons
 List.cons_append List.nil_append List.append_nil List.map_cons List.map_nil zy Bool.or_true Bool.or_false Bool.true_or Bool.false_or beq_self_eq_true Bool.and_false Bool.false_and zsz zc6 List.zip_cons_cons List.zip_nil_left List.foldl_cons List.foldl_nil Option.bind_some List.getElem?_map Int.toNat_natCast
 List.replicate_succ List.replicate_zero List.set_cons_zero List.set_cons_succ Option.getD_some Option.getD_none List.map_append
section
variable {ρ:Env} {lv:List Hp} {G:Gh}
def zyq (c a b:AV):Option AV:=match c with|.d (.bool t)=>some (if t then a else b)|_=>none
@[go_sem] theorem evP_pick (c a b:AO):evP ρ lv G (.pick c a b)=zyq (ev ρ c) (ev ρ a).cp (ev ρ b).cp:=by
  simp only [evP,zyq];cases ev ρ c with
  | d x=>cases x with
    | bool t=>cases t<;>rfl
    | _=>rfl
  | _=>rfl
@[go_sem] theorem vPick_t (a b:AV):zyq (.d (.bool true)) a b=some a:=rfl
@[go_sem] theorem vPick_f (a b:AV):zyq (.d (.bool false)) a b=some b:=rfl
def z0q (z:List D) (ps:List (Nat×Nat×AO)) (vs:Option (List D)):Option AV:=match vs with
 | some vs=>(zi1 z ((ps.zip vs).map fun (p,v)=>(p.1,p.2.1,v))).bind fun cs=>if cs.all D.one then some (.d (.agg cs)) else none
 | none=>none
@[go_sem] theorem z6t (z:List D) (ps:List (Nat×Nat×AO)):evP ρ lv G (.build z ps)=z0q z ps (zy ρ (ps.map (·.2.2))):=rfl
@[go_sem] theorem z6u (z:List D) (ps:List (Nat×Nat×AO)) (vs:List D):z0q z ps (some vs)=(zi1 z ((ps.zip vs).map fun (p,v)=>(p.1,p.2.1,v))).bind fun cs=>if cs.all D.one then some (.d (.agg cs)) else none:=rfl
@[go_sem] theorem z6v (z:List D):zi1 z []=some z:=rfl
@[go_sem] theorem z41 (z:List D) (off size:Nat) (v:D) (ps:List (Nat×Nat×D)):zi1 z ((off,size,v)::ps)=if v.cells.length=size∧off+size≤z.length then zi1 (zaw z v.cells off) ps else none:=rfl
def vMks (sz n:Nat) (z:D) (ps:List (Nat×AO)) (vs:Option (List D)):Option AV:=match vs with
 | some vs=>let es:=(ps.zip vs).foldl (fun es (p,v)=>es.set p.1 v) (List.replicate n z)
   if vs.all (zb sz) && zb sz z && (ps.all fun p=>p.1<n) then some (.own sz es) else none
 | none=>none
@[go_sem] theorem z2f (sz n:Nat) (z:D) (ps:List (Nat×AO)):evP ρ lv G (.mkslice sz n z ps)=vMks sz n z ps (zy ρ (ps.map (·.2))):=rfl
@[go_sem] theorem vMks_mk (sz n:Nat) (z:D) (ps:List (Nat×AO)) (vs:List D):vMks sz n z ps (some vs)=if (vs.all (zb sz) && zb sz z && (ps.all fun p=>p.1<n))=true then some (.own sz ((ps.zip vs).foldl (fun es (p,v)=>es.set p.1 v) (List.replicate n z))) else none:=rfl
def zhz (agg:Bool) (n:Nat) (r:Root) (lv:List Hp) (G:Gh) (v:AV):Option AV:=match v with
 | .ptr k s g off=>if zbv r k s then (match blk lv k s g with|some cs=>(zbo agg n (cs.drop off)).map .d|none=>none) else none
 | .cptr cs=>(zbo agg n cs).map .d
 | .d (.gp b off)=>if r.foreignOk then (match G b with|some cs=>(zbo agg n (cs.drop off)).map .d|none=>none) else none
 | _=>none
@[go_sem] theorem evP_load (agg:Bool) (n:Nat) (x:AO) (r:Root):evP ρ lv G (.load agg n x r)=zhz agg n r lv G (ev ρ x):=rfl
def zaa (agg:Bool) (n:Nat) (cs:Option (List D)) (off:Nat):Option AV:=match cs with|some cs=>(zbo agg n (cs.drop off)).map .d|none=>none
@[go_sem] theorem z6w (agg:Bool) (n:Nat) (cs:List D) (off:Nat):zaa agg n (some cs) off=(zbo agg n (cs.drop off)).map .d:=rfl
@[go_sem] theorem z43 (agg:Bool) (n k s g off:Nat):zhz agg n .any lv G (.ptr k s g off)=zaa agg n (blk lv k s g) off:=by simp [zhz,zaa,zbv]
@[go_sem] theorem z44 (agg:Bool) (n s g off:Nat):zhz agg n (.site s) lv G (.ptr 0 s g off)=zaa agg n (blk lv 0 s g) off:=by simp [zhz,zaa,zbv]
@[go_sem] theorem z45 (agg:Bool) (n k s g off:Nat):zhz agg n .foreign lv G (.ptr (k+1) s g off)=zaa agg n (blk lv (k+1) s g) off:=by simp [zhz,zaa,zbv]
@[go_sem] theorem z47 (agg:Bool) (n:Nat) (r:Root) (cs:List D):zhz agg n r lv G (.cptr cs)=(zbo agg n cs).map .d:=rfl
@[go_sem] theorem z6x (agg:Bool) (n b off:Nat):zhz agg n .any lv G (.d (.gp b off))=zaa agg n (G b) off:=by simp [zhz,zaa,Root.foreignOk]
@[go_sem] theorem z6y (agg:Bool) (n b off:Nat):zhz agg n .foreign lv G (.d (.gp b off))=zaa agg n (G b) off:=by simp [zhz,zaa,Root.foreignOk]
@[go_sem] theorem loadD_t (n:Nat) (cs:List D):zbo true n cs=if n≤cs.length then some (.agg (cs.take n)) else none:=rfl
@[go_sem] theorem loadD_f (n:Nat) (cs:List D):zbo false n cs=cs.head?:=rfl
@[go_sem] theorem z48 (k s:Nat):zbv .any k s=true:=rfl
@[go_sem] theorem z2g (r k s:Nat):zbv (.site r) k s=(k == 0 && s == r):=rfl
@[go_sem] theorem z49 (k s:Nat):zbv .foreign k s=(k != 0):=rfl
@[go_sem] theorem z6z:Root.foreignOk .any=true:=rfl
@[go_sem] theorem z60:Root.foreignOk .foreign=true:=rfl
@[go_sem] theorem forOk_gp:Root.foreignOk .gp=true:=rfl
def zis (v:AV):Option AV:=match v with|.ptr k s g off=>some (.ptr k s g off)|.cptr cs=>some (.cptr cs)|.func f c=>some (.func f c)|.d (.fn f)=>some (.d (.fn f))|.d (.gp b off)=>some (.d (.gp b off))|.d (.clo f ds)=>some (.d (.clo f ds))|.d (.yld l)=>some (.d (.yld l))|_=>none
@[go_sem] theorem z61 (x:AO):evP ρ lv G (.nilck x)=zis (ev ρ x):=rfl
@[go_sem] theorem z5a (f:FuncId) (ds:List D):zis (.d (.clo f ds))=some (.d (.clo f ds)):=rfl
@[go_sem] theorem z5b (l:Nat):zis (.d (.yld l))=some (.d (.yld l)):=rfl
@[go_sem] theorem z5c (k s g off:Nat):zis (.ptr k s g off)=some (.ptr k s g off):=rfl
@[go_sem] theorem z2h (cs:List D):zis (.cptr cs)=some (.cptr cs):=rfl
@[go_sem] theorem z2i (f:FuncId) (c:List (Nat×Nat×Nat)):zis (.func f c)=some (.func f c):=rfl
@[go_sem] theorem z62 (f:FuncId):zis (.d (.fn f))=some (.d (.fn f)):=rfl
@[go_sem] theorem z63 (b off:Nat):zis (.d (.gp b off))=some (.d (.gp b off)):=rfl
def vBin (op:BinOp) (x y:AV):Option AV:=match x,y with|.d a,.d b=>(zar op a b).map .d|_,_=>none
@[go_sem] theorem evP_bin (op:BinOp) (x y:AO):evP ρ lv G (.bin op x y)=vBin op (ev ρ x) (ev ρ y):=rfl
@[go_sem] theorem vBin_d (op:BinOp) (a b:D):vBin op (.d a) (.d b)=(zar op a b).map .d:=rfl
def vEqs (neg:Bool) (ks:List Kd) (x y:AV):Option AV:=match x,y with|.d (.agg a),.d (.agg b)=>(zg ks a b).map fun t=>.d (.bool (if neg then !t else t))|_,_=>none
@[go_sem] theorem evP_eqs (neg:Bool) (ks:List Kd) (x y:AO):evP ρ lv G (.eqs neg ks x y)=vEqs neg ks (ev ρ x) (ev ρ y):=rfl
@[go_sem] theorem z65 (ks:List Kd) (a b:List D):vEqs false ks (.d (.agg a)) (.d (.agg b))=(zg ks a b).map fun t=>.d (.bool t):=rfl
@[go_sem] theorem vEqs_t (ks:List Kd) (a b:List D):vEqs true ks (.d (.agg a)) (.d (.agg b))=(zg ks a b).map fun t=>.d (.bool (!t)):=rfl
@[go_sem] theorem z2j:zg [] [] []=some true:=rfl
@[go_sem] theorem z66 (a b:Bool) (ks:List Kd) (xs ys:List D):zg (.b::ks) (.bool a::xs) (.bool b::ys)=(zg ks xs ys).map fun c=>((a == b) && c):=by simp only [zg,zbq];cases zg ks xs ys<;>rfl
@[go_sem] theorem zvd (k:IntKind) (a b:Int) (ks:List Kd) (xs ys:List D):zg (.i::ks) (.int k a::xs) (.int k b::ys)=(zg ks xs ys).map fun c=>(decide (a=b) && c):=by
  have e:(a == b)=decide (a=b):=by by_cases h:a=b<;>simp [h]
  simp only [zg,zbq,if_true,e];cases zg ks xs ys<;>rfl
@[go_sem] theorem z67 (a b:List UInt8) (ks:List Kd) (xs ys:List D):zg (.s::ks) (.str a::xs) (.str b::ys)=(zg ks xs ys).map fun c=>(decide (a=b) && c):=by
  have e:(a == b)=decide (a=b):=by by_cases h:a=b<;>simp [h]
  simp only [zg,zbq,e];cases zg ks xs ys<;>rfl
def vEqb (neg:Bool) (x y:AV):Option AV:=match x,y with|.d (.bool a),.d (.bool b)=>some (.d (.bool (if neg then !(a == b) else a == b)))|_,_=>none
@[go_sem] theorem evP_eqb (neg:Bool) (x y:AO):evP ρ lv G (.eqb neg x y)=vEqb neg (ev ρ x) (ev ρ y):=rfl
@[go_sem] theorem vEqb_t (a b:Bool):vEqb true (.d (.bool a)) (.d (.bool b))=some (.d (.bool (!(a == b)))):=rfl
@[go_sem] theorem vEqb_f (a b:Bool):vEqb false (.d (.bool a)) (.d (.bool b))=some (.d (.bool (a == b))):=rfl
def vNot (x:AV):Option AV:=match x with|.d (.bool b)=>some (.d (.bool (!b)))|_=>none
@[go_sem] theorem evP_not (x:AO):evP ρ lv G (.not x)=vNot (ev ρ x):=rfl
@[go_sem] theorem vNot_b (b:Bool):vNot (.d (.bool b))=some (.d (.bool (!b))):=rfl
def vNeg (x:AV):Option AV:=match x with|.d (.int k n)=>some (.d (.int k (k.wrap (0 - n))))|_=>none
@[go_sem] theorem evP_neg (x:AO):evP ρ lv G (.neg x)=vNeg (ev ρ x):=rfl
@[go_sem] theorem vNeg_i (k:IntKind) (n:Int):vNeg (.d (.int k n))=some (.d (.int k (k.wrap (0 - n)))):=rfl
def zp8 (k:IntKind) (x:AV):Option AV:=match x with|.d (.int _ n)=>some (.d (.int k (k.wrap n)))|_=>none
@[go_sem] theorem evP_conv (k:IntKind) (x:AO):evP ρ lv G (.conv k x)=zp8 k (ev ρ x):=rfl
@[go_sem] theorem vConv_i (k k':IntKind) (n:Int):zp8 k (.d (.int k' n))=some (.d (.int k (k.wrap n))):=rfl
def zf7:List AV→Option (List (Nat×Nat×Nat))
 | []=>some []
 | v::vs=>match zkt v,zf7 vs with|some c,some cs=>some (c::cs)|_,_=>none
@[go_sem] theorem z5d (f:FuncId) (caps:List AO):evP ρ lv G (.mkfunc f caps)=(zf7 (caps.map (ev ρ))).map (.func f):=by
  have:∀ caps:List AO,(caps.mapM fun o=>zkt (ev ρ o))=zf7 (caps.map (ev ρ)):=by
   intro caps
   induction caps with
   | nil=>rfl
   | cons c cs ih =>
    simp only [List.mapM_cons,List.map_cons,zf7,ih]
    cases zkt (ev ρ c) with
    | none=>rfl
    | some x=>cases zf7 (cs.map (ev ρ))<;>rfl
  simp only [evP,this]
@[go_sem] theorem z5e:zf7 []=some []:=rfl
@[go_sem] theorem z2k (k s g:Nat) (vs:List AV):zf7 (.ptr k s g 0::vs)=(zf7 vs).map fun cs=>(k,s,g)::cs:=by simp only [zf7,zkt];cases zf7 vs<;>rfl
def vSl0 (sz:Nat) (x:Option D):Option AV:=match x with|some .nilS=>some (.d .nilS)|some (.list _)=>some (.own sz [])|_=>none
@[go_sem] theorem evP_sl0 (sz:Nat) (x:AO):evP ρ lv G (.sl0 sz x)=vSl0 sz (ev ρ x).data:=rfl
def z2l (sz:Nat) (x:Option D) (h m:AV):Option AV:=match x,h,m with|some (.list es),.d (.int .i64 a),.d (.int .i64 b)=>if es.all (zb sz)=true∧a=es.length∧b=es.length then some (.own sz es) else none|_,_,_=>none
@[go_sem] theorem evP_sl3L (sz:Nat) (x y z:AO):evP ρ lv G (.sl3L sz x y z)=z2l sz (ev ρ x).data (ev ρ y) (ev ρ z):=rfl
@[go_sem] theorem z5f (sz:Nat) (es:List D) (a b:Int) (h1:a=es.length) (h2:b=es.length):z2l sz (some (.list es)) (.d (.int .i64 a)) (.d (.int .i64 b))=if es.all (zb sz)=true then some (.own sz es) else none:=by
  simp only [z2l,h1,h2,and_self,and_true]
@[go_sem] theorem vSl0_nil (sz:Nat):vSl0 sz (some .nilS)=some (.d .nilS):=rfl
@[go_sem] theorem z68 (sz:Nat) (es:List D):vSl0 sz (some (.list es))=some (.own sz []):=rfl
def ztg:AV→Option Int|.d (.int _ n)=>some n|_=>none
@[go_sem] theorem vInt_i (k:IntKind) (n:Int):ztg (.d (.int k n))=some n:=rfl
@[go_sem] theorem bnd_none (d:Nat):bnd ρ d none=some (d:Int):=rfl
@[go_sem] theorem bnd_some (d:Nat) (o:AO):bnd ρ d (some o)=ztg (ev ρ o):=rfl
def z0r (sz:Nat) (x:Option D) (lo:Option Int):Option AV :=
 match x,lo with
 | some (.list es),some l=>if es.all (zb sz) then (if 0≤l∧l≤es.length then some (.d (.list (es.drop l.toNat))) else none) else none
 | some .nilS,some l=>if l=0 then some (.d .nilS) else none
 | some (.gs b off len cap),some l=>if 0≤l∧l≤len∧(len:Int)≤cap then some (.d (.gs b (if cap=l.toNat then off else off+l.toNat * sz) (len - l.toNat) (cap - l.toNat))) else none
 | _,_=>none
def zx5 (sz:Nat) (x:Option D) (lo hi:Option Int):Option AV :=
 match x,lo,hi with
 | some (.list es),some l,some h=>if es.all (zb sz) then (if 0≤l∧l≤h∧h≤es.length then some (.d (.list ((es.take h.toNat).drop l.toNat))) else none) else none
 | some .nilS,some l,some h=>if l=0∧h=0 then some (.d .nilS) else none
 | some (.gs b off _ cap),some l,some h=>if 0≤l∧l≤h∧h≤cap then some (.d (.gs b (if cap=l.toNat then off else off+l.toNat * sz) (h.toNat - l.toNat) (cap - l.toNat))) else none
 | _,_,_=>none
@[go_sem] theorem evP_slL (sz:Nat) (x:AO) (lo:Option AO):evP ρ lv G (.sl sz x lo none)=z0r sz (ev ρ x).data (bnd ρ 0 lo):=by
  have e:∀ n,bnd ρ n none=some (n:Int):=fun _=>rfl
  simp only [evP,z0r,e]
  generalize (ev ρ x).data=o
  generalize bnd ρ 0 lo=l
  cases o with
  | none=>rfl
  | some d =>
   cases d with
   | list es =>
    cases l with
    | none=>by_cases h:es.all (zb sz)=true<;>simp [h]
    | some l =>
     by_cases h:es.all (zb sz)=true
     · by_cases h2:0≤l∧l≤es.length<;>simp [h,h2]
     · simp [h]
   | nilS=>cases l<;>simp
   | gs b off len cap=>cases l<;>simp
   | _=>cases l<;>rfl
@[go_sem] theorem evP_slH (sz:Nat) (x:AO) (lo:Option AO) (h:AO):evP ρ lv G (.sl sz x lo (some h))=zx5 sz (ev ρ x).data (bnd ρ 0 lo) (ztg (ev ρ h)):=by
  have e:∀ n,bnd ρ n (some h)=ztg (ev ρ h):=fun n=>rfl
  simp only [evP,zx5,e]
  generalize (ev ρ x).data=o
  generalize bnd ρ 0 lo=l
  generalize ztg (ev ρ h)=k
  cases o with
  | none=>rfl
  | some d =>
   cases d with
   | list es=>cases l<;>cases k<;>by_cases h:es.all (zb sz)<;>simp [h]
   | nilS=>cases l<;>cases k<;>simp
   | gs b off len cap=>cases l<;>cases k<;>simp
   | _=>rfl
@[go_sem] theorem z69 (sz:Nat) (es:List D) (l:Int) (h1:0≤l) (h2:l≤es.length):z0r sz (some (.list es)) (some l)=if es.all (zb sz)=true then some (.d (.list (es.drop l.toNat))) else none:=by simp only [z0r,h1,h2,and_self,if_true]
@[go_sem] theorem vSlL_nil (sz:Nat) (l:Int) (h:l=0):z0r sz (some .nilS) (some l)=some (.d .nilS):=by simp only [z0r,h,if_true]
@[go_sem] theorem vSlL_gs (sz b off len cap:Nat) (l:Int) (h1:0≤l) (h2:l≤len) (h3:len≤cap):z0r sz (some (.gs b off len cap)) (some l)=some (.d (.gs b (if cap=l.toNat then off else off+l.toNat * sz) (len - l.toNat) (cap - l.toNat))):=by
  have h3':(len:Int)≤cap:=by omega
  simp only [z0r,h1,h2,h3',and_self,if_true]
@[go_sem] theorem zn5 (sz:Nat) (es:List D) (l h:Int) (h1:0≤l) (h2:l≤h) (h3:h≤es.length):zx5 sz (some (.list es)) (some l) (some h)=if es.all (zb sz)=true then some (.d (.list ((es.take h.toNat).drop l.toNat))) else none:=by simp only [zx5,h1,h2,h3,and_self,if_true]
@[go_sem] theorem vSlH_nil (sz:Nat) (l h:Int) (h1:l=0) (h2:h=0):zx5 sz (some .nilS) (some l) (some h)=some (.d .nilS):=by simp only [zx5,h1,h2,and_self,if_true]
@[go_sem] theorem vSlH_gs (sz b off len cap:Nat) (l h:Int) (h1:0≤l) (h2:l≤h) (h3:h≤cap):zx5 sz (some (.gs b off len cap)) (some l) (some h)=some (.d (.gs b (if cap=l.toNat then off else off+l.toNat * sz) (h.toNat - l.toNat) (cap - l.toNat))):=by simp only [zx5,h1,h2,h3,and_self,if_true]
def vStL (x:AV) (lo:Option Int):Option AV :=
 match x,lo with
 | .d (.str s),some l=>if 0≤l∧l≤s.length then some (.d (.str (s.drop l.toNat))) else none
 | _,_=>none
def vStH (x:AV) (lo hi:Option Int):Option AV :=
 match x,lo,hi with
 | .d (.str s),some l,some h=>if 0≤l∧l≤h∧h≤s.length then some (.d (.str ((s.take h.toNat).drop l.toNat))) else none
 | _,_,_=>none
@[go_sem] theorem evP_stL (x:AO) (lo:Option AO):evP ρ lv G (.slS x lo none)=vStL (ev ρ x) (bnd ρ 0 lo):=by
  have e:∀ n,bnd ρ n none=some (n:Int):=fun _=>rfl
  simp only [evP,vStL,e]
  generalize ev ρ x=o
  generalize bnd ρ 0 lo=l
  cases o with
  | d d=>cases d with
    | str s=>cases l with
      | none=>rfl
      | some l=>by_cases h2:0≤l∧l≤s.length<;>simp [h2]
    | _=>rfl
  | _=>rfl
@[go_sem] theorem evP_stH (x:AO) (lo:Option AO) (h:AO):evP ρ lv G (.slS x lo (some h))=vStH (ev ρ x) (bnd ρ 0 lo) (ztg (ev ρ h)):=by
  have e:∀ n,bnd ρ n (some h)=ztg (ev ρ h):=fun n=>rfl
  simp only [evP,vStH,e]
  generalize ev ρ x=o
  generalize bnd ρ 0 lo=l
  generalize ztg (ev ρ h)=k
  cases o with
  | d d=>cases d with
    | str s=>cases l<;>cases k<;>simp
    | _=>rfl
  | _=>rfl
@[go_sem] theorem vStL_mk (s:List UInt8) (l:Int) (h1:0≤l) (h2:l≤s.length):vStL (.d (.str s)) (some l)=some (.d (.str (s.drop l.toNat))):=by simp only [vStL,h1,h2,and_self,if_true]
@[go_sem] theorem vStH_mk (s:List UInt8) (l h:Int) (h1:0≤l) (h2:l≤h) (h3:h≤s.length):vStH (.d (.str s)) (some l) (some h)=some (.d (.str ((s.take h.toNat).drop l.toNat))):=by simp only [vStH,h1,h2,h3,and_self,if_true]
def zrx (off:Nat) (v:AV):Option AV:=match v with|.ptr k s g o=>some (.ptr k s g (o+off))|.cptr cs=>some (.cptr (cs.drop off))|.d (.gp b o)=>some (.d (.gp b (o+off)))|_=>none
@[go_sem] theorem z7a (off:Nat) (x:AO):evP ρ lv G (.faddr off x)=zrx off (ev ρ x):=rfl
@[go_sem] theorem z5g (off k s g o:Nat):zrx off (.ptr k s g o)=some (.ptr k s g (o+off)):=rfl
@[go_sem] theorem z2m (off:Nat) (cs:List D):zrx off (.cptr cs)=some (.cptr (cs.drop off)):=rfl
@[go_sem] theorem z7b (off b o:Nat):zrx off (.d (.gp b o))=some (.d (.gp b (o+off))):=rfl
def z0s (agg:Bool) (off n:Nat) (v:AV):Option AV:=match v with|.d (.agg cs)=>(zbo agg n (cs.drop off)).map .d|_=>none
@[go_sem] theorem z7c (agg:Bool) (off n:Nat) (x:AO):evP ρ lv G (.field agg off n x)=z0s agg off n (ev ρ x):=rfl
@[go_sem] theorem z5h (agg:Bool) (off n:Nat) (cs:List D):z0s agg off n (.d (.agg cs))=(zbo agg n (cs.drop off)).map .d:=rfl
def zit (sz:Nat) (x:Option D) (i:AV):Option AV:=match x,i with
 | some (.list es),.d (.int _ n)=>if es.all (zb sz)∧0≤n then (es[n.toNat]?).map fun e=>.cptr e.cells else none
 | some (.gs b off len _),.d (.int _ n)=>if 0≤n∧n<len then some (.d (.gp b (off+n.toNat * sz))) else none
 | _,_=>none
@[go_sem] theorem z7d (sz:Nat) (x i:AO):evP ρ lv G (.iaddr sz x i)=zit sz (ev ρ x).data (ev ρ i):=rfl
theorem zp9 (sz:Nat) (es:List D) (k:IntKind) (n:Int) (ha:es.all (zb sz)=true) (h0:0≤n) (h:n.toNat<es.length):zit sz (some (.list es)) (.d (.int k n))=some (.cptr (es[n.toNat]).cells):=by
 simp only [zit,ha,h0,and_self,if_true,List.getElem?_eq_getElem h,Option.map_some]
@[go_sem] theorem z5i {α:Type} (sz:Nat) (f:α→D) (es:List α) (k:IntKind) (n:Int) (h0:0≤n) (h:n.toNat<es.length):zit sz (some (.list (es.map f))) (.d (.int k n))=if (es.map f).all (zb sz)=true then some (.cptr (f es[n.toNat]).cells) else none:=by
  by_cases ha:(es.map f).all (zb sz)=true
  · rw [zp9 sz _ k n ha h0 (by simpa using h),if_pos ha];simp
  · rw [if_neg ha];simp [zit,ha]
@[go_sem] theorem z7e (sz b off len cap:Nat) (k:IntKind) (n:Int) (h0:0≤n) (h:n<len):zit sz (some (.gs b off len cap)) (.d (.int k n))=some (.d (.gp b (off+n.toNat * sz))):=by
  simp only [zit,h0,h,and_self,if_true]
def zgk (len sz:Nat) (x i:AV):Option AV:=match x,i with
 | .ptr k s g o,.d (.int _ n)=>if 0≤n∧n<len then some (.ptr k s g (o+n.toNat * sz)) else none
 | .cptr cs,.d (.int _ n)=>if 0≤n∧n<len then some (.cptr (cs.drop (n.toNat * sz))) else none
 | .d (.gp b o),.d (.int _ n)=>if 0≤n∧n<len then some (.d (.gp b (o+n.toNat * sz))) else none
 | _,_=>none
@[go_sem] theorem z5j (len sz:Nat) (x i:AO):evP ρ lv G (.iaddrA len sz x i)=zgk len sz (ev ρ x) (ev ρ i):=rfl
@[go_sem] theorem z2n (len sz k s g o:Nat) (ik:IntKind) (n:Int) (h0:0≤n) (h:n<len):zgk len sz (.ptr k s g o) (.d (.int ik n))=some (.ptr k s g (o+n.toNat * sz)):=by simp only [zgk,h0,h,and_self,if_true]
@[go_sem] theorem z0t (len sz:Nat) (cs:List D) (ik:IntKind) (n:Int) (h0:0≤n) (h:n<len):zgk len sz (.cptr cs) (.d (.int ik n))=some (.cptr (cs.drop (n.toNat * sz))):=by simp only [zgk,h0,h,and_self,if_true]
@[go_sem] theorem z5k (len sz b o:Nat) (ik:IntKind) (n:Int) (h0:0≤n) (h:n<len):zgk len sz (.d (.gp b o)) (.d (.int ik n))=some (.d (.gp b (o+n.toNat * sz))):=by simp only [zgk,h0,h,and_self,if_true]
def z2o (x i:AV):Option AV:=match x,i with
 | .d (.str s),.d (.int _ n)=>if 0≤n then (s[n.toNat]?).map fun b=>.d (.int .u8 b.toNat) else none
 | _,_=>none
@[go_sem] theorem evP_idxS (x i:AO):evP ρ lv G (.idxS x i)=z2o (ev ρ x) (ev ρ i):=rfl
@[go_sem] theorem vIdxS_mk (s:List UInt8) (k:IntKind) (n:Int) (h0:0≤n) (h:n.toNat<s.length):z2o (.d (.str s)) (.d (.int k n))=some (.d (.int .u8 (s[n.toNat]).toNat)):=by
  simp only [z2o,h0,if_true,List.getElem?_eq_getElem h,Option.map_some]
def z2p (agg:Bool) (len sz:Nat) (x i:AV):Option AV:=match x,i with
 | .d (.agg cs),.d (.int _ n)=>if 0≤n∧n<len then (zbo agg sz (cs.drop (n.toNat * sz))).map .d else none
 | _,_=>none
@[go_sem] theorem evP_idxA (agg:Bool) (len sz:Nat) (x i:AO):evP ρ lv G (.idxA agg len sz x i)=z2p agg len sz (ev ρ x) (ev ρ i):=rfl
@[go_sem] theorem vIdxA_mk (agg:Bool) (len sz:Nat) (cs:List D) (k:IntKind) (n:Int) (h0:0≤n) (h:n<len):z2p agg len sz (.d (.agg cs)) (.d (.int k n))=(zbo agg sz (cs.drop (n.toNat * sz))).map .d:=by simp only [z2p,h0,h,and_self,if_true]
def z7f (x:AV) (i:Nat):Option AV:=match x with|.tup vs=>(vs[i]?).map .d|_=>none
@[go_sem] theorem evP_ext (x:AO) (i:Nat):evP ρ lv G (.ext x i)=z7f (ev ρ x) i:=rfl
@[go_sem] theorem vExt_0 (a:D) (vs:List D):z7f (.tup (a::vs)) 0=some (.d a):=rfl
@[go_sem] theorem vExt_1 (a b:D) (vs:List D):z7f (.tup (a::b::vs)) 1=some (.d b):=rfl
@[go_sem] theorem vExt_2 (a b c:D) (vs:List D):z7f (.tup (a::b::c::vs)) 2=some (.d c):=rfl
@[go_sem] theorem vExt_3 (a b c d:D) (vs:List D):z7f (.tup (a::b::c::d::vs)) 3=some (.d d):=rfl
def z2q (str:Bool) (x:Option D):Option AV:=match x with|some y=>(z9q str y).map fun n=>.d (.int .i64 n)|none=>none
@[go_sem] theorem evP_len (str:Bool) (x:AO):evP ρ lv G (.len str x)=z2q str (ev ρ x).data:=rfl
@[go_sem] theorem z7g (es:List D):z2q false (some (.list es))=some (.d (.int .i64 es.length)):=rfl
@[go_sem] theorem vLen_nil:z2q false (some .nilS)=some (.d (.int .i64 0)):=rfl
@[go_sem] theorem vLen_gs (b off len cap:Nat):z2q false (some (.gs b off len cap))=some (.d (.int .i64 len)):=rfl
@[go_sem] theorem vLen_str (s:List UInt8):z2q true (some (.str s))=some (.d (.int .i64 s.length)):=rfl
def vMx (x y:AV):Option AV:=match x,y with|.d (.int k a),.d (.int _ b)=>some (.d (.int k (if b > a then b else a)))|_,_=>none
@[go_sem] theorem evP_mx (x y:AO):evP ρ lv G (.mx x y)=vMx (ev ρ x) (ev ρ y):=rfl
@[go_sem] theorem vMx_i (k k':IntKind) (a b:Int):vMx (.d (.int k a)) (.d (.int k' b))=some (.d (.int k (max a b))):=by simp only [vMx];congr 3;by_cases h:b > a<;>simp [h]<;>omega
def vMn (x y:AV):Option AV:=match x,y with|.d (.int k a),.d (.int _ b)=>some (.d (.int k (if b<a then b else a)))|_,_=>none
@[go_sem] theorem evP_mn (x y:AO):evP ρ lv G (.mn x y)=vMn (ev ρ x) (ev ρ y):=rfl
@[go_sem] theorem vMn_i (k k':IntKind) (a b:Int):vMn (.d (.int k a)) (.d (.int k' b))=some (.d (.int k (min a b))):=by simp only [vMn];congr 3;by_cases h:b<a<;>simp [h]<;>omega
def z7h (x:Option D):Option AV:=match x with
 | some .nilS=>some (.d (.str []))
 | some (.list es)=>(zb4 es).map fun l=>.d (.str l)
 | _=>none
@[go_sem] theorem evP_b2s (x:AO):evP ρ lv G (.b2s x)=z7h (ev ρ x).data:=rfl
@[go_sem] theorem vB2s_nil:z7h (some .nilS)=some (.d (.str [])):=rfl
def eB (b:UInt8):D:=.int .u8 b.toNat
theorem zeb (l:List UInt8):zb4 (l.map eB)=some l:=by
 induction l with
 | nil=>rfl
 | cons b l ih=>simp [eB,zb4] at ih ⊢;rw [ih]
@[go_sem] theorem vB2s_map (l:List UInt8):z7h (some (.list (l.map eB)))=some (.d (.str l)):=by simp only [z7h,zeb,Option.map_some]
def vS2b (x:AV):Option AV:=match x with|.d (.str s)=>some (.d (.list (s.map fun b=>.int .u8 b.toNat)))|_=>none
@[go_sem] theorem evP_s2b (x:AO):evP ρ lv G (.s2b x)=vS2b (ev ρ x):=rfl
@[go_sem] theorem vS2b_mk (s:List UInt8):vS2b (.d (.str s))=some (.d (.list (s.map eB))):=rfl
@[go_sem] theorem zg8 (l:List UInt8):(l.map eB).all (zb 1)=true:=by simp [List.all_map,Function.comp_def,eB,zb,D.cells,D.one]
@[go_sem] theorem eB_cells (b:UInt8):(eB b).cells=[.int .u8 b.toNat]:=rfl
def vCap (x:Option D):Option AV:=match x with|some .nilS=>some (.d (.int .i64 0))|some (.gs _ _ _ cap)=>some (.d (.int .i64 cap))|_=>none
@[go_sem] theorem evP_cap (x:AO):evP ρ lv G (.cap x)=vCap (ev ρ x).data:=rfl
@[go_sem] theorem vCap_nil:vCap (some .nilS)=some (.d (.int .i64 0)):=rfl
@[go_sem] theorem vCap_gs (b off len cap:Nat):vCap (some (.gs b off len cap))=some (.d (.int .i64 cap)):=rfl
def vSl3 (sz:Nat) (x:Option D) (lo hi mx:Option Int):Option AV :=
 match x,lo,hi,mx with
 | some (.gs b off _ cap),some l,some h,some m=>if 0≤l∧l≤h∧h≤m∧m≤cap then some (.d (.gs b (if m.toNat=l.toNat then off else off+l.toNat * sz) (h.toNat - l.toNat) (m.toNat - l.toNat))) else none
 | _,_,_,_=>none
@[go_sem] theorem evP_sl3 (sz:Nat) (x:AO) (lo:Option AO) (hi mx:AO):evP ρ lv G (.sl3 sz x lo hi mx)=vSl3 sz (ev ρ x).data (bnd ρ 0 lo) (ztg (ev ρ hi)) (ztg (ev ρ mx)):=by
  have e:∀ n o,bnd ρ n (some o)=ztg (ev ρ o):=fun n o=>rfl
  simp only [evP,vSl3,e]
  generalize (ev ρ x).data=o
  generalize bnd ρ 0 lo=l
  generalize ztg (ev ρ hi)=k
  generalize ztg (ev ρ mx)=m
  cases o with
  | none=>rfl
  | some d =>
   cases d with
   | gs b off len cap=>cases l<;>cases k<;>cases m<;>simp
   | _=>rfl
@[go_sem] theorem vSl3_gs (sz b off len cap:Nat) (l h m:Int) (h1:0≤l) (h2:l≤h) (h3:h≤m) (h4:m≤cap):vSl3 sz (some (.gs b off len cap)) (some l) (some h) (some m)=some (.d (.gs b (if m.toNat=l.toNat then off else off+l.toNat * sz) (h.toNat - l.toNat) (m.toNat - l.toNat))):=by
  simp only [vSl3,h1,h2,h3,h4,and_self,if_true]
@[go_sem] theorem z2r (sz by_:Nat) (es:List D) (hb:es.length * by_≤mostBytes):zcf sz by_ (.d .nilS) (.list es)=if es.all (zb sz)=true then some (if es.isEmpty then .d .nilS else .own sz es) else none:=by
  by_cases ha:es.all (zb sz)=true
  · simp only [zcf,zsz,if_pos ha,if_pos hb];cases es<;>rfl
  · simp only [zcf,zsz,if_neg ha]
@[go_sem] theorem z2s (sz by_:Nat) (xs es:List D) (hb:(xs.length+es.length) * by_≤mostBytes):zcf sz by_ (.own sz xs) (.list es)=if es.all (zb sz)=true then some (.own sz (xs++es)) else none:=by
  simp only [zcf,zsz];by_cases ha:es.all (zb sz)=true<;>simp [ha,hb]
@[go_sem] theorem z0u (sz by_:Nat) (xs:List D) (hb:xs.length * by_≤mostBytes):zcf sz by_ (.own sz xs) .nilS=some (.own sz xs):=by
  simp only [zcf,zsz,List.length_nil,Nat.add_zero,hb,and_self,if_true,List.append_nil]
@[go_sem] theorem z5l (sz by_:Nat):zcf sz by_ (.d .nilS) .nilS=some (.d .nilS):=by
  simp [zcf,zsz]
@[go_sem] theorem z7i (f:FuncId):target (.d (.fn f))=some (f,[]):=rfl
@[go_sem] theorem z2t (f:FuncId) (caps:List (Nat×Nat×Nat)):target (.func f caps)=some (f,caps.map fun (k,s,g)=>.ptr k s g 0):=rfl
end
theorem natCast_nonneg (n:Nat):(0≤(n:Int))=True:=by simp
theorem zx:mostBytes=140737488355328:=rfl
attribute [go_sem] zx List.isEmpty_cons List.isEmpty_nil natCast_nonneg Nat.add_zero Nat.zero_add decide_true decide_false not_true_eq_false not_false_eq_true Bool.not_true Bool.not_false AV.d.injEq and_self and_true true_and
@[go_sem] theorem sh_d (x:D):sh (.d x)=.d x:=rfl
@[go_sem] theorem sh_own (sz:Nat) (es:List D):sh (.own sz es)=.d (.list es):=rfl
@[go_sem] theorem sh_ptr (k s g off:Nat):sh (.ptr k s g off)=.ptr (k+1) s g off:=rfl
@[go_sem] theorem sh_func (f:FuncId) (caps:List (Nat×Nat×Nat)):sh (.func f caps)=.func f (caps.map fun (k,s,g)=>(k+1,s,g)):=rfl
@[go_sem] theorem sh_cptr (cs:List D):sh (.cptr cs)=.cptr cs:=rfl
@[go_sem] theorem sh_cp (v:AV):(sh v).cp=sh v:=by cases v<;>rfl
theorem zec {ρ:Env}:∀ {args:List AO} {xs:List D},zy ρ args=some xs→(args.map (ev ρ)).map sh=xs.map .d
 | [],xs,h=>by simp [zy] at h;subst h;rfl
 | o::args,xs,h=>by
   simp only [zy] at h
   split at h
   · rename_i x xs' hx hxs
     cases h
     simp only [List.map_cons,zec hxs]
     congr 1
     generalize ev ρ o=v at hx
     cases v<;>simp [AV.data] at hx<;>subst hx<;>rfl
   · cases h
theorem zry {P:Program} {d:Option Nat} {f:AO} {args:List AO} {q:Nat} {ρ:Env} {L:Hp} {σ:List Hp} {G:Gh} {K:St→Prop} {g:FuncId} {xs cs:List D} {Q:AV→Prop}
 (hc:∀ σ,zak P g ((xs++cs).map .d) σ G fun r σ' G'=>σ'=σ∧G'=G∧Q r) (ht:target (ev ρ f)=some (g,cs.map .d)) (hd:zy ρ args=some xs) (hK:∀ r,Q r→K (put ρ d r,L,σ,G)):zch P d f args q ρ L σ G K:=by
 unfold zch
 rw [ht]
 have e:(args.map (ev ρ)++cs.map AV.d).map sh=(xs++cs).map AV.d:=by
  rw [List.map_append,zec hd,List.map_append,List.map_map];rfl
 simp only
 split
 · rw [e]
   exact (hc _).mono fun r lv G' ⟨h1,h2,h3⟩=>by subst h1;subst h2;exact hK r h3
 · split
   · rw [e]
     exact (hc _).mono fun r lv G' ⟨h1,h2,h3⟩=>by subst h1;subst h2;exact ⟨rfl,fun _=>zgx.refl _,hK r h3⟩
   · refine ⟨cs,rfl,?_⟩
     rw [hd]
     exact (hc _).mono fun r lv G' ⟨h1,h2,h3⟩=>by subst h1;subst h2;exact ⟨rfl,fun _=>zgx.refl _,hK r h3⟩
theorem zqa {P:Program} {d:Option Nat} {f:AO} {args:List AO} {q:Nat} {ρ:Env} {L:Hp} {σ:List Hp} {G:Gh} {K:St→Prop} {g:FuncId} {xs:List D} {Q:AV→Prop}
 (hc:∀ σ,zak P g (xs.map .d) σ G fun r σ' G'=>σ'=σ∧G'=G∧Q r) (ht:target (ev ρ f)=some (g,[])) (hd:zy ρ args=some xs) (hK:∀ r,Q r→K (put ρ d r,L,σ,G)):zch P d f args q ρ L σ G K :=
 zry (cs:=[]) (by simpa using hc) ht hd hK
theorem zve {P:Program} {d:Option Nat} {f:AO} {args:List AO} {q:Nat} {ρ:Env} {L:Hp} {σ:List Hp} {G:Gh} {K:St→Prop} {g:FuncId} {xs:List D} {Q:AV→Prop}
 (hc:zn P g xs Q) (ht:target (ev ρ f)=some (g,[])) (hd:zy ρ args=some xs) (hK:∀ r,Q r→K (put ρ d r,L,σ,G)):zch P d f args q ρ L σ G K :=
 zqa (fun σ=>hc.quiet σ G) ht hd hK
theorem zth {P:Program} {d:Option Nat} {f:AO} {args:List AO} {q:Nat} {ρ:Env} {L:Hp} {σ:List Hp} {G:Gh} {K:St→Prop} {g:FuncId} {xs ys:List D} {Q:AV→Prop}
 (hc:zn P g ys Q) (ht:target (ev ρ f)=some (g,[])) (hd:zy ρ args=some xs) (hl:zjy G xs ys) (hf:∀ r,Q r→zn4 r=true) (hK:∀ r,Q r→K (put ρ d r,L,σ,G)):zch P d f args q ρ L σ G K :=
 zqa (fun σ=>hc.lend hl hf σ) ht hd hK
theorem E_le {l l':List (Nat×AV)} (h:∀ p∈l',VLe (E l p.1) p.2):∀ i,VLe (E l i) (E l' i):=by
 intro i
 induction l' with
 | nil=>exact .undef _
 | cons p l' ih =>
  obtain ⟨j,v⟩:=p
  simp only [E]
  split
  · rename_i e;subst e;exact h _ List.mem_cons_self
  · exact ih fun q hq=>h q (List.mem_cons_of_mem _ hq)
theorem zj0 {l l':List (Nat×AV)} {L:Hp} {σ:List Hp} {G:Gh} (h:∀ p∈l',VLe (E l p.1) p.2):zsb (E l,L,σ,G) (E l',L,σ,G):=⟨E_le h,fun _=>BLe.refl _,rfl,GLe.refl _⟩
theorem zf8 {l l':List (Nat×AV)} {h h':List (Nat×Blk)} {σ:List Hp} {G:Gh} (he:∀ p∈l',VLe (E l p.1) p.2) (hb:HB h=HB h'):zsb (E l,HB h,σ,G) (E l',HB h',σ,G):=by rw [← hb];exact zj0 he
theorem zyr (v:AV):VLe v v=True:=by simp [VLe.refl]
theorem zvf (v:AV):VLe v .undef=True:=by simp [VLe.undef]
theorem zti (sz:Nat):VLe (.d .nilS) (.own sz [])=True:=by simp [VLe.nilown]
theorem z2u (sz:Nat) (es:List D):VLe (.own sz es) (.d (.list es))=True:=by simp [VLe.own]
attribute [go_sem] zyr zvf zti z2u
@[go_sem ↓] theorem vles_nil (l:List (Nat×AV)):(∀ p∈([]:List (Nat×AV)),VLe (E l p.1) p.2)=True:=by simp
@[go_sem ↓] theorem z7j (l l':List (Nat×AV)) (q:Nat×AV):(∀ p∈q::l',VLe (E l p.1) p.2)=(VLe (E l q.1) q.2∧∀ p∈l',VLe (E l p.1) p.2):=by simp
theorem zlm (h:List (Nat×Blk)):∀ (ss:List Nat),(ss.all fun s=>!(h.map (·.1)).contains s)=true→HB (h++ss.map fun s=>(s,⟨0,none⟩))=HB h:=by
 intro ss hs
 funext j
 induction h with
 | nil =>
  induction ss with
  | nil=>rfl
  | cons s ss ih=>simp only [List.nil_append,List.map_cons,HB] at ih ⊢;split<;>first|rfl|exact ih (by simp at hs ⊢)
 | cons p h ih =>
  obtain ⟨i,b⟩:=p
  simp only [List.cons_append,HB]
  split
  · rfl
  · refine ih ?_
    simp only [List.all_eq_true,List.map_cons,List.contains_cons,Bool.not_eq_true',Bool.or_eq_false_iff] at hs ⊢
    exact fun s hm=>(hs s hm).2
section
variable {P:Program} {κ:zbu→St→Prop} {st:St} {h:zm κ}
theorem W.seq {x y:ACode} (hx:W P x (zm.mk (a:=zbu.then (fun st'=>W P y (zm.mk (a:=κ)) st') κ)) st):W P (.seq x y) h st:=SW.seq hx
theorem W.block {id:Nat} {x:ACode} (hx:W P x (zm.mk (a:=zbu.inBlock id κ)) st):W P (.block id x) h st:=SW.block hx
theorem W.scope {x:ACode} (hx:W P x h st):W P (.scope x) h st:=SW.scope hx
theorem W.reg {d:Bool} {os:List AI} (hx:zac P os st.1 st.2.1 st.2.2.1 st.2.2.2 (κ .normal)):W P (.reg d os) h st:=SW.reg hx
theorem W.skip (hx:κ .normal st):W P .skip h st:=SW.skip hx
theorem W.exit {id:Nat} (hx:κ (.exit id) st):W P (.exit id) h st:=SW.exit hx
theorem W.ret (hx:κ .ret st):W P .ret h st:=SW.ret hx
def wI2 (v:AV) {k1 k2:Prop} (_:zm k1) (_:zm k2):Prop:=∃ b,v=.d (.bool b)∧if b=true then k1 else k2
@[go_sem] theorem wI2_d (b:Bool) {k1 k2:Prop} (h1:zm k1) (h2:zm k2):wI2 (.d (.bool b)) h1 h2=wG (.d (.bool b)) true h1 h2:=by cases b<;>simp [wI2,wG,zhr]
theorem W.ifc {c:AO} {x y:ACode} (hx:wI2 (ev st.1 c) (zm.mk (a:=W P x (zm.mk (a:=κ)) st)) (zm.mk (a:=W P y (zm.mk (a:=κ)) st))):W P (.cond c x y) h st:=by
 obtain ⟨b,hb,hx⟩:=hx
 refine SW.cond hb (fun e=>?_) (fun e=>?_)
 · subst e;exact hx
 · subst e;exact hx
theorem zn6 {p:Prop} [Decidable p] {k1 k2:Prop} {i1:zm k1} {i2:zm k2} (h1:p→k1) (h2:¬ p→k2):wG (.d (.bool (decide p))) true i1 i2 :=
 wG_t (fun h=>h1 (of_decide_eq_true h)) (fun h=>h2 (of_decide_eq_false h))
theorem zvg {p:Prop} [Decidable p] {k1 k2:Prop} {i1:zm k1} {i2:zm k2} (h1:¬ p→k1) (h2:p→k2):wG (.d (.bool (decide p))) false i1 i2 :=
 wG_f (fun h=>h1 (of_decide_eq_false h)) (fun h=>h2 (of_decide_eq_true h))
theorem zqb {p:Prop} [Decidable p] {k1 k2:Prop} {i1:zm k1} {i2:zm k2} (h1:p→p=True→k1) (h2:¬ p→p=False→k2):wG (.d (.bool (decide p))) true i1 i2 :=
 zn6 (fun h=>h1 h (eq_true h)) (fun h=>h2 h (eq_false h))
theorem zme {p:Prop} [Decidable p] {k1 k2:Prop} {i1:zm k1} {i2:zm k2} (h1:¬ p→p=False→k1) (h2:p→p=True→k2):wG (.d (.bool (decide p))) false i1 i2 :=
 zvg (fun h=>h1 h (eq_false h)) (fun h=>h2 h (eq_true h))
theorem W.loop {x:ACode} (I:Nat→St→Prop) (h0:∃ n st0,zsb st st0∧I n st0) (round:∀ n st',I n st'→W P x (zm.mk (a:=zbu.then (Back (zm.mk (a:=I)) n) κ)) st'):W P (.loop x) h st:=by
 obtain ⟨n,st0,hl,hi⟩:=h0
 exact (SW.loop I hi round).weaken hl
theorem W.weaken {c:ACode} {st0:St} (hl:zsb st st0) (hx:W P c (zm.mk (a:=κ)) st0):W P c h st:=SW.weaken hl hx
theorem Back.mk {I:Nat→St→Prop} {h:zm I} {n:Nat} (hx:∃ m st0,m<n∧zsb st st0∧I m st0):Back h n st:=hx
end
theorem zi {P:Program} {gs:List Nat} {f:FuncId} {nt:Nat} {res:List zgv} {c:ACode} {vs:List AV} {σ:List Hp} {G:Gh} {Q:AV→List Hp→Gh→Prop} (hm:P.follows .mixedOrders=true) (hf:ze P gs f=some ⟨nt,res,c⟩)
 (h:W P c (zm.mk (a:=zu2 res Q)) (E (zt5 0 vs),HB [],σ,G)):zak P f vs σ G Q :=
 zp3 hm hf (by rw [ofL_E];exact h)
theorem zj {P:Program} {gs:List Nat} {f:FuncId} {nt:Nat} {res:List zgv} {c:ACode} {xs:List D} {Q:AV→Prop} (hm:P.follows .mixedOrders=true) (hf:ze P gs f=some ⟨nt,res,c⟩)
 (h:W P c (zm.mk (a:=zu2 res fun r σ' G'=>σ'=[]∧G'=noGh∧Q r)) (E (zt5 0 (xs.map .d)),HB [],[],noGh)):zn P f xs Q:=zi hm hf h
theorem Fin.le {res:List zgv} {Q:AV→List Hp→Gh→Prop} {h:zm Q} {st:St} {r r':AV} (hf:fin res st.1 (st.2.1::st.2.2.1) st.2.2.2=some r) (hl:RLe r r') (hq:Q r' st.2.2.1 st.2.2.2):Fin res h st:=⟨r,r',hf,hl,hq⟩
theorem Fin.eq {res:List zgv} {Q:AV→List Hp→Gh→Prop} {h:zm Q} {st:St} {r:AV} (hf:fin res st.1 (st.2.1::st.2.2.1) st.2.2.2=some r) (hq:Q r st.2.2.1 st.2.2.2):Fin res h st:=⟨r,r,hf,.refl r,hq⟩
theorem Fin.p {res:List zgv} {Q:AV→Prop} {h:zm fun (r:AV) (σ':List Hp) (G':Gh)=>σ'=[]∧G'=noGh∧Q r} {ρ:Env} {L:Hp} {r:AV} (hf:fin res ρ [L] noGh=some r) (hq:Q r):Fin res h (ρ,L,[],noGh):=⟨r,r,hf,.refl r,rfl,rfl,hq⟩
theorem Fin.ple {res:List zgv} {Q:AV→Prop} {h:zm fun (r:AV) (σ':List Hp) (G':Gh)=>σ'=[]∧G'=noGh∧Q r} {ρ:Env} {L:Hp} {r r':AV} (hf:fin res ρ [L] noGh=some r) (hl:RLe r r') (hq:Q r'):Fin res h (ρ,L,[],noGh):=⟨r,r',hf,hl,rfl,rfl,hq⟩
section
variable {P:Program} {d:Option Nat} {f:AO} {args:List AO} {q:Nat} {ρ:Env} {L:Hp} {σ:List Hp} {G:Gh} {K:St→Prop} {h:zm K} {g:FuncId} {xs ys:List D} {Q:AV→Prop}
theorem wC_p (hc:zn P g xs Q) (ht:target (ev ρ f)=some (g,[])) (hd:zy ρ args=some xs) (hK:∀ r,Q r→K (put ρ d r,L,σ,G)):wC P d f args q ρ L σ G h:=zve hc ht hd hK
theorem zgl (hc:zn P g ys Q) (ht:target (ev ρ f)=some (g,[])) (hd:zy ρ args=some xs) (hl:zjy G xs ys) (hf:∀ r,Q r→zn4 r=true) (hK:∀ r,Q r→K (put ρ d r,L,σ,G)):wC P d f args q ρ L σ G h:=zth hc ht hd hl hf hK
theorem wC_P (hc:zn P g xs Q) (ht:target (ev ρ f)=some (g,[])∧zy ρ args=some xs) (hK:∀ r,Q r→K (put ρ d r,L,σ,G)):wC P d f args q ρ L σ G h:=zve hc ht.1 ht.2 hK
end
theorem zz {k:IntKind} {a b:Int} (h:a=b):VLe (.d (.int k a)) (.d (.int k b)):=by rw [h];exact .refl _
theorem bT {p:Prop} [Decidable p] (h:p):AV.d (.bool true)=.d (.bool (decide p)):=by simp [h]
theorem bF {p:Prop} [Decidable p] (h:¬ p):AV.d (.bool false)=.d (.bool (decide p)):=by simp [h]
theorem bI {p q:Prop} [Decidable p] [Decidable q] (h:p↔q):AV.d (.bool (decide p))=.d (.bool (decide q)):=by simp [h]
theorem iE {k:IntKind} {a b:Int} (h:a=b):AV.d (.int k a)=.d (.int k b):=by rw [h]
end Go.E2
