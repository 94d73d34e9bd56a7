/-
 Rules by which values are reckoned;and how a call is met.
 Conditions: none;laws.
-/
import Derived.Test.YtailhmffljoojaaEN3
namespace Go.E2
theorem wrap_i64 {x:Int} (h1:-9223372036854775808≤x) (h2:x≤9223372036854775807):IntKind.i64.wrap x=x:=by
 have e:IntKind.i64.wrap x=if x % 18446744073709551616≥9223372036854775808 then x % 18446744073709551616 - 18446744073709551616 else x % 18446744073709551616:=by simp [IntKind.wrap,IntKind.signed,IntKind.bits]
 rw [e];split<;>omega
theorem zsw {x:Int} (h1:-2147483648≤x) (h2:x≤2147483647):IntKind.i32.wrap x=x:=by
 have e:IntKind.i32.wrap x=if x % 4294967296≥2147483648 then x % 4294967296 - 4294967296 else x % 4294967296:=by simp [IntKind.wrap,IntKind.signed,IntKind.bits]
 rw [e];split<;>omega
theorem zf5 {x:Int} (h1:0≤x) (h2:x≤18446744073709551615):IntKind.u64.wrap x=x:=by
 simp only [IntKind.wrap,IntKind.signed,IntKind.bits];simp;omega
theorem znv {x:Int} (h1:0≤x) (h2:x≤4294967295):IntKind.u32.wrap x=x:=by
 simp only [IntKind.wrap,IntKind.signed,IntKind.bits];simp;omega
theorem zsx {x:Int} (h1:0≤x) (h2:x≤65535):IntKind.u16.wrap x=x:=by
 simp only [IntKind.wrap,IntKind.signed,IntKind.bits];simp;omega
theorem zqn {x:Int} (h1:0≤x) (h2:x≤255):IntKind.u8.wrap x=x:=by
 simp only [IntKind.wrap,IntKind.signed,IntKind.bits];simp;omega
attribute [go_sem] wrap_i64 zsw zf5 znv zsx zqn
section
variable (k:IntKind) (a b:Int) (s t:List UInt8)
@[go_sem] theorem z2w:zbt .add (.int k a) (.int k b)=some (.int k (k.wrap (a+b))):=by simp [zbt]
@[go_sem] theorem z2x:zbt .sub (.int k a) (.int k b)=some (.int k (k.wrap (a - b))):=by simp [zbt]
@[go_sem] theorem z2y:zbt .mul (.int k a) (.int k b)=some (.int k (k.wrap (a * b))):=by simp [zbt]
@[go_sem] theorem z2z:zbt .eql (.int k a) (.int k b)=some (.bool (decide (a=b))):=by by_cases h:a=b<;>simp [zbt,h]
@[go_sem] theorem z20:zbt .neq (.int k a) (.int k b)=some (.bool (decide (¬ a=b))):=by by_cases h:a=b<;>simp [zbt,h]
@[go_sem] theorem z21:zbt .lss (.int k a) (.int k b)=some (.bool (decide (a<b))):=by simp [zbt]
@[go_sem] theorem z22:zbt .leq (.int k a) (.int k b)=some (.bool (decide (a≤b))):=by simp [zbt]
@[go_sem] theorem z23:zbt .gtr (.int k a) (.int k b)=some (.bool (decide (b<a))):=by simp [zbt]
@[go_sem] theorem z24:zbt .geq (.int k a) (.int k b)=some (.bool (decide (b≤a))):=by simp [zbt]
@[go_sem] theorem z25 (h:b≠0):zbt .quo (.int k a) (.int k b)=some (.int k (k.wrap (a.tdiv b))):=by simp [zbt,h]
@[go_sem] theorem z26 (h:b≠0):zbt .rem (.int k a) (.int k b)=some (.int k (a.tmod b)):=by simp [zbt,h]
@[go_sem] theorem z27 (k':IntKind) (h:0≤b) (_ha:0≤a):zbt .shr (.int k a) (.int k' b)=some (.int k (a / 2 ^ (if b.toNat≤k.bits then b.toNat else k.bits))):=by
  rw [← Nat.min_def]
  have hb:¬ b<0:=by omega
  simp only [zbt,if_neg hb]
  rw [Int.fdiv_eq_ediv_of_nonneg _ (Int.pow_nonneg (by omega))]
@[go_sem] theorem z28 (k':IntKind) (h:0≤b):zbt .shl (.int k a) (.int k' b)=some (.int k (k.wrap (a * 2 ^ (if b.toNat≤k.bits then b.toNat else k.bits)))):=by
  rw [← Nat.min_def]
  have hb:¬ b<0:=by omega
  simp only [zbt,if_neg hb]
@[go_sem] theorem zzu:zbt .eql (.str s) (.str t)=some (.bool (decide (s=t))):=by simp only [zbt];congr 2;by_cases h:s=t<;>simp [h]
@[go_sem] theorem zzv:zbt .neq (.str s) (.str t)=some (.bool (decide (¬ s=t))):=by simp only [zbt];congr 2;by_cases h:s=t<;>simp [h]
@[go_sem] theorem zzw (h:s.length+t.length<4611686018427387904):zbt .add (.str s) (.str t)=some (.str (s++t)):=by simp only [zbt,h,if_true]
end
@[go_sem] theorem zx9 (p q:Prop) [Decidable p] [Decidable q]:(decide p && decide q)=decide (p∧q):=by simp
@[go_sem] theorem z29:IntKind.i64.bits=64:=rfl
@[go_sem] theorem z3a:IntKind.u64.bits=64:=rfl
@[go_sem] theorem z3b:IntKind.u32.bits=32:=rfl
@[go_sem] theorem z42:IntKind.u8.bits=8:=rfl
@[go_sem] theorem zya (p:Prop) [Decidable p]:(!decide p)=decide (¬ p):=by simp
attribute [go_sem] za zbe D.cells D.one List.length_map List.length_cons List.length_nil List.length_append Option.map_some Option.map_none List.all_cons List.all_nil Bool.and_true Bool.and_self Bool.true_and List.take_succ_cons List.take_zero List.drop_succ_cons List.drop_zero List.head?_cons
 List.cons_append List.nil_append List.append_nil List.map_cons List.map_nil zq Bool.or_true Bool.or_false Bool.true_or Bool.false_or beq_self_eq_true Bool.and_false Bool.false_and zne zcs List.zip_cons_cons List.zip_nil_left List.foldl_cons List.foldl_nil Option.bind_some List.getElem?_map Int.toNat_natCast
 List.replicate_succ List.replicate_zero List.set_cons_zero List.set_cons_succ Option.getD_some Option.getD_none List.map_append
section
variable {ρ:Env} {lv:List Hp} {G:Gh}
def zsy (c a b:AV):Option AV:=match c with|.d (.bool t)=>some (if t then a else b)|_=>none
@[go_sem] theorem z3c (c a b:AO):evP ρ lv G (.pick c a b)=zsy (ev ρ c) (ev ρ a).cp (ev ρ b).cp:=by
  simp only [evP,zsy];cases ev ρ c with
  | d x=>cases x with
    | bool t=>cases t<;>rfl
    | _=>rfl
  | _=>rfl
@[go_sem] theorem z43 (a b:AV):zsy (.d (.bool true)) a b=some a:=rfl
@[go_sem] theorem z44 (a b:AV):zsy (.d (.bool false)) a b=some b:=rfl
def zux (z:List D) (ps:List (Nat×Nat×AO)) (vs:Option (List D)):Option AV:=match vs with
 | some vs=>(zhn z ((ps.zip vs).map fun (p,v)=>(p.1,p.2.1,v))).bind fun cs=>if cs.all D.one then some (.d (.agg cs)) else none
 | none=>none
@[go_sem] theorem zzx (z:List D) (ps:List (Nat×Nat×AO)):evP ρ lv G (.build z ps)=zux z ps (zq ρ (ps.map (·.2.2))):=rfl
@[go_sem] theorem zzy (z:List D) (ps:List (Nat×Nat×AO)) (vs:List D):zux z ps (some vs)=(zhn z ((ps.zip vs).map fun (p,v)=>(p.1,p.2.1,v))).bind fun cs=>if cs.all D.one then some (.d (.agg cs)) else none:=rfl
@[go_sem] theorem zzz (z:List D):zhn z []=some z:=rfl
@[go_sem] theorem zyb (z:List D) (off size:Nat) (v:D) (ps:List (Nat×Nat×D)):zhn z ((off,size,v)::ps)=if v.cells.length=size∧off+size≤z.length then zhn (zbe z v.cells off) ps else none:=rfl
def z7d (sz n:Nat) (z:D) (ps:List (Nat×AO)) (vs:Option (List D)):Option AV:=match vs with
 | some vs=>let es:=(ps.zip vs).foldl (fun es (p,v)=>es.set p.1 v) (List.replicate n z)
   if vs.all (za sz) && za sz z && (ps.all fun p=>p.1<n) then some (.own sz es) else none
 | none=>none
@[go_sem] theorem zv3 (sz n:Nat) (z:D) (ps:List (Nat×AO)):evP ρ lv G (.mkslice sz n z ps)=z7d sz n z ps (zq ρ (ps.map (·.2))):=rfl
@[go_sem] theorem z45 (sz n:Nat) (z:D) (ps:List (Nat×AO)) (vs:List D):z7d sz n z ps (some vs)=if (vs.all (za sz) && za sz z && (ps.all fun p=>p.1<n))=true then some (.own sz ((ps.zip vs).foldl (fun es (p,v)=>es.set p.1 v) (List.replicate n z))) else none:=rfl
def zgs (agg:Bool) (n:Nat) (r:Root) (lv:List Hp) (G:Gh) (v:AV):Option AV:=match v with
 | .ptr k s g off=>if zbf r k s then (match blk lv k s g with|some cs=>(zb3 agg n (cs.drop off)).map .d|none=>none) else none
 | .cptr cs=>(zb3 agg n cs).map .d
 | .d (.gp b off)=>if r.foreignOk then (match G b with|some cs=>(zb3 agg n (cs.drop off)).map .d|none=>none) else none
 | _=>none
@[go_sem] theorem z3d (agg:Bool) (n:Nat) (x:AO) (r:Root):evP ρ lv G (.load agg n x r)=zgs agg n r lv G (ev ρ x):=rfl
def zba (agg:Bool) (n:Nat) (cs:Option (List D)) (off:Nat):Option AV:=match cs with|some cs=>(zb3 agg n (cs.drop off)).map .d|none=>none
@[go_sem] theorem zz0 (agg:Bool) (n:Nat) (cs:List D) (off:Nat):zba agg n (some cs) off=(zb3 agg n (cs.drop off)).map .d:=rfl
@[go_sem] theorem zyc (agg:Bool) (n k s g off:Nat):zgs agg n .any lv G (.ptr k s g off)=zba agg n (blk lv k s g) off:=by simp [zgs,zba,zbf]
@[go_sem] theorem zyd (agg:Bool) (n s g off:Nat):zgs agg n (.site s) lv G (.ptr 0 s g off)=zba agg n (blk lv 0 s g) off:=by simp [zgs,zba,zbf]
@[go_sem] theorem zye (agg:Bool) (n k s g off:Nat):zgs agg n .foreign lv G (.ptr (k+1) s g off)=zba agg n (blk lv (k+1) s g) off:=by simp [zgs,zba,zbf]
@[go_sem] theorem zyf (agg:Bool) (n:Nat) (r:Root) (cs:List D):zgs agg n r lv G (.cptr cs)=(zb3 agg n cs).map .d:=rfl
@[go_sem] theorem zz1 (agg:Bool) (n b off:Nat):zgs agg n .any lv G (.d (.gp b off))=zba agg n (G b) off:=by simp [zgs,zba,Root.foreignOk]
@[go_sem] theorem zz2 (agg:Bool) (n b off:Nat):zgs agg n .foreign lv G (.d (.gp b off))=zba agg n (G b) off:=by simp [zgs,zba,Root.foreignOk]
@[go_sem] theorem z46 (n:Nat) (cs:List D):zb3 true n cs=if n≤cs.length then some (.agg (cs.take n)) else none:=rfl
@[go_sem] theorem z47 (n:Nat) (cs:List D):zb3 false n cs=cs.head?:=rfl
@[go_sem] theorem zyg (k s:Nat):zbf .any k s=true:=rfl
@[go_sem] theorem zv4 (r k s:Nat):zbf (.site r) k s=(k == 0 && s == r):=rfl
@[go_sem] theorem zyh (k s:Nat):zbf .foreign k s=(k != 0):=rfl
@[go_sem] theorem zz3:Root.foreignOk .any=true:=rfl
@[go_sem] theorem zz4:Root.foreignOk .foreign=true:=rfl
@[go_sem] theorem z3e:Root.foreignOk .gp=true:=rfl
def zhe (v:AV):Option AV:=match v with|.ptr k s g off=>some (.ptr k s g off)|.cptr cs=>some (.cptr cs)|.func f c=>some (.func f c)|.d (.fn f)=>some (.d (.fn f))|.d (.gp b off)=>some (.d (.gp b off))|.d (.clo f ds)=>some (.d (.clo f ds))|.d (.yld l)=>some (.d (.yld l))|_=>none
@[go_sem] theorem zz5 (x:AO):evP ρ lv G (.nilck x)=zhe (ev ρ x):=rfl
@[go_sem] theorem zyi (f:FuncId) (ds:List D):zhe (.d (.clo f ds))=some (.d (.clo f ds)):=rfl
@[go_sem] theorem zyj (l:Nat):zhe (.d (.yld l))=some (.d (.yld l)):=rfl
@[go_sem] theorem zyk (k s g off:Nat):zhe (.ptr k s g off)=some (.ptr k s g off):=rfl
@[go_sem] theorem zv5 (cs:List D):zhe (.cptr cs)=some (.cptr cs):=rfl
@[go_sem] theorem zv6 (f:FuncId) (c:List (Nat×Nat×Nat)):zhe (.func f c)=some (.func f c):=rfl
@[go_sem] theorem zz6 (f:FuncId):zhe (.d (.fn f))=some (.d (.fn f)):=rfl
@[go_sem] theorem zz7 (b off:Nat):zhe (.d (.gp b off))=some (.d (.gp b off)):=rfl
def z7e (op:BinOp) (x y:AV):Option AV:=match x,y with|.d a,.d b=>(zbt op a b).map .d|_,_=>none
@[go_sem] theorem z48 (op:BinOp) (x y:AO):evP ρ lv G (.bin op x y)=z7e op (ev ρ x) (ev ρ y):=rfl
@[go_sem] theorem z7f (op:BinOp) (a b:D):z7e op (.d a) (.d b)=(zbt op a b).map .d:=rfl
def z49 (neg:Bool) (ks:List Kd) (x y:AV):Option AV:=match x,y with|.d (.agg a),.d (.agg b)=>(zg ks a b).map fun t=>.d (.bool (if neg then !t else t))|_,_=>none
@[go_sem] theorem z5a (neg:Bool) (ks:List Kd) (x y:AO):evP ρ lv G (.eqs neg ks x y)=z49 neg ks (ev ρ x) (ev ρ y):=rfl
@[go_sem] theorem z7g (ks:List Kd) (a b:List D):z49 false ks (.d (.agg a)) (.d (.agg b))=(zg ks a b).map fun t=>.d (.bool t):=rfl
@[go_sem] theorem z7h (ks:List Kd) (a b:List D):z49 true ks (.d (.agg a)) (.d (.agg b))=(zg ks a b).map fun t=>.d (.bool (!t)):=rfl
@[go_sem] theorem zv7:zg [] [] []=some true:=rfl
@[go_sem] theorem zz8 (a b:Bool) (ks:List Kd) (xs ys:List D):zg (.b::ks) (.bool a::xs) (.bool b::ys)=(zg ks xs ys).map fun c=>((a == b) && c):=by simp only [zg,zbm];cases zg ks xs ys<;>rfl
@[go_sem] theorem zep (k:IntKind) (a b:Int) (ks:List Kd) (xs ys:List D):zg (.i::ks) (.int k a::xs) (.int k b::ys)=(zg ks xs ys).map fun c=>(decide (a=b) && c):=by
  have e:(a == b)=decide (a=b):=by by_cases h:a=b<;>simp [h]
  simp only [zg,zbm,if_true,e];cases zg ks xs ys<;>rfl
@[go_sem] theorem zz9 (a b:List UInt8) (ks:List Kd) (xs ys:List D):zg (.s::ks) (.str a::xs) (.str b::ys)=(zg ks xs ys).map fun c=>(decide (a=b) && c):=by
  have e:(a == b)=decide (a=b):=by by_cases h:a=b<;>simp [h]
  simp only [zg,zbm,e];cases zg ks xs ys<;>rfl
def z5b (neg:Bool) (x y:AV):Option AV:=match x,y with|.d (.bool a),.d (.bool b)=>some (.d (.bool (if neg then !(a == b) else a == b)))|_,_=>none
@[go_sem] theorem z5c (neg:Bool) (x y:AO):evP ρ lv G (.eqb neg x y)=z5b neg (ev ρ x) (ev ρ y):=rfl
@[go_sem] theorem z7i (a b:Bool):z5b true (.d (.bool a)) (.d (.bool b))=some (.d (.bool (!(a == b)))):=rfl
@[go_sem] theorem z7j (a b:Bool):z5b false (.d (.bool a)) (.d (.bool b))=some (.d (.bool (a == b))):=rfl
def z7k (x:AV):Option AV:=match x with|.d (.bool b)=>some (.d (.bool (!b)))|_=>none
@[go_sem] theorem z5d (x:AO):evP ρ lv G (.not x)=z7k (ev ρ x):=rfl
@[go_sem] theorem z7l (b:Bool):z7k (.d (.bool b))=some (.d (.bool (!b))):=rfl
def z7m (x:AV):Option AV:=match x with|.d (.int k n)=>some (.d (.int k (k.wrap (0 - n))))|_=>none
@[go_sem] theorem z5e (x:AO):evP ρ lv G (.neg x)=z7m (ev ρ x):=rfl
@[go_sem] theorem z7n (k:IntKind) (n:Int):z7m (.d (.int k n))=some (.d (.int k (k.wrap (0 - n)))):=rfl
def z0a (k:IntKind) (x:AV):Option AV:=match x with|.d (.int _ n)=>some (.d (.int k (k.wrap n)))|_=>none
@[go_sem] theorem z3f (k:IntKind) (x:AO):evP ρ lv G (.conv k x)=z0a k (ev ρ x):=rfl
@[go_sem] theorem z5f (k k':IntKind) (n:Int):z0a k (.d (.int k' n))=some (.d (.int k (k.wrap n))):=rfl
def zfc:List AV→Option (List (Nat×Nat×Nat))
 | []=>some []
 | v::vs=>match zi9 v,zfc vs with|some c,some cs=>some (c::cs)|_,_=>none
@[go_sem] theorem zyl (f:FuncId) (caps:List AO):evP ρ lv G (.mkfunc f caps)=(zfc (caps.map (ev ρ))).map (.func f):=by
  have:∀ caps:List AO,(caps.mapM fun o=>zi9 (ev ρ o))=zfc (caps.map (ev ρ)):=by
   intro caps
   induction caps with
   | nil=>rfl
   | cons c cs ih =>
    simp only [List.mapM_cons,List.map_cons,zfc,ih]
    cases zi9 (ev ρ c) with
    | none=>rfl
    | some x=>cases zfc (cs.map (ev ρ))<;>rfl
  simp only [evP,this]
@[go_sem] theorem zym:zfc []=some []:=rfl
@[go_sem] theorem zv8 (k s g:Nat) (vs:List AV):zfc (.ptr k s g 0::vs)=(zfc vs).map fun cs=>(k,s,g)::cs:=by simp only [zfc,zi9];cases zfc vs<;>rfl
def z5g (sz:Nat) (x:Option D):Option AV:=match x with|some .nilS=>some (.d .nilS)|some (.list _)=>some (.own sz [])|_=>none
@[go_sem] theorem z5h (sz:Nat) (x:AO):evP ρ lv G (.sl0 sz x)=z5g sz (ev ρ x).data:=rfl
def zv9 (sz:Nat) (x:Option D) (h m:AV):Option AV:=match x,h,m with|some (.list es),.d (.int .i64 a),.d (.int .i64 b)=>if es.all (za sz)=true∧a=es.length∧b=es.length then some (.own sz es) else none|_,_,_=>none
@[go_sem] theorem z3g (sz:Nat) (x y z:AO):evP ρ lv G (.sl3L sz x y z)=zv9 sz (ev ρ x).data (ev ρ y) (ev ρ z):=rfl
@[go_sem] theorem zyn (sz:Nat) (es:List D) (a b:Int) (h1:a=es.length) (h2:b=es.length):zv9 sz (some (.list es)) (.d (.int .i64 a)) (.d (.int .i64 b))=if es.all (za sz)=true then some (.own sz es) else none:=by
  simp only [zv9,h1,h2,and_self,and_true]
@[go_sem] theorem z3h (sz:Nat):z5g sz (some .nilS)=some (.d .nilS):=rfl
@[go_sem] theorem z0b (sz:Nat) (es:List D):z5g sz (some (.list es))=some (.own sz []):=rfl
def zo3:AV→Option Int|.d (.int _ n)=>some n|_=>none
@[go_sem] theorem z7o (k:IntKind) (n:Int):zo3 (.d (.int k n))=some n:=rfl
@[go_sem] theorem z3i (d:Nat):bnd ρ d none=some (d:Int):=rfl
@[go_sem] theorem z3j (d:Nat) (o:AO):bnd ρ d (some o)=zo3 (ev ρ o):=rfl
def zuy (sz:Nat) (x:Option D) (lo:Option Int):Option AV :=
 match x,lo with
 | some (.list es),some l=>if es.all (za sz) then (if 0≤l∧l≤es.length then some (.d (.list (es.drop l.toNat))) else none) else none
 | some .nilS,some l=>if l=0 then some (.d .nilS) else none
 | some (.gs b off len cap),some l=>if 0≤l∧l≤len∧(len:Int)≤cap then some (.d (.gs b (if cap=l.toNat then off else off+l.toNat * sz) (len - l.toNat) (cap - l.toNat))) else none
 | _,_=>none
def zuz (sz:Nat) (x:Option D) (lo hi:Option Int):Option AV :=
 match x,lo,hi with
 | some (.list es),some l,some h=>if es.all (za sz) then (if 0≤l∧l≤h∧h≤es.length then some (.d (.list ((es.take h.toNat).drop l.toNat))) else none) else none
 | some .nilS,some l,some h=>if l=0∧h=0 then some (.d .nilS) else none
 | some (.gs b off _ cap),some l,some h=>if 0≤l∧l≤h∧h≤cap then some (.d (.gs b (if cap=l.toNat then off else off+l.toNat * sz) (h.toNat - l.toNat) (cap - l.toNat))) else none
 | _,_,_=>none
@[go_sem] theorem z5i (sz:Nat) (x:AO) (lo:Option AO):evP ρ lv G (.sl sz x lo none)=zuy sz (ev ρ x).data (bnd ρ 0 lo):=by
  have e:∀ n,bnd ρ n none=some (n:Int):=fun _=>rfl
  simp only [evP,zuy,e]
  generalize (ev ρ x).data=o
  generalize bnd ρ 0 lo=l
  cases o with
  | none=>rfl
  | some d =>
   cases d with
   | list es =>
    cases l with
    | none=>by_cases h:es.all (za sz)=true<;>simp [h]
    | some l =>
     by_cases h:es.all (za sz)=true
     · by_cases h2:0≤l∧l≤es.length<;>simp [h,h2]
     · simp [h]
   | nilS=>cases l<;>simp
   | gs b off len cap=>cases l<;>simp
   | _=>cases l<;>rfl
@[go_sem] theorem z5j (sz:Nat) (x:AO) (lo:Option AO) (h:AO):evP ρ lv G (.sl sz x lo (some h))=zuz sz (ev ρ x).data (bnd ρ 0 lo) (zo3 (ev ρ h)):=by
  have e:∀ n,bnd ρ n (some h)=zo3 (ev ρ h):=fun n=>rfl
  simp only [evP,zuz,e]
  generalize (ev ρ x).data=o
  generalize bnd ρ 0 lo=l
  generalize zo3 (ev ρ h)=k
  cases o with
  | none=>rfl
  | some d =>
   cases d with
   | list es=>cases l<;>cases k<;>by_cases h:es.all (za sz)<;>simp [h]
   | nilS=>cases l<;>cases k<;>simp
   | gs b off len cap=>cases l<;>cases k<;>simp
   | _=>rfl
@[go_sem] theorem z0c (sz:Nat) (es:List D) (l:Int) (h1:0≤l) (h2:l≤es.length):zuy sz (some (.list es)) (some l)=if es.all (za sz)=true then some (.d (.list (es.drop l.toNat))) else none:=by simp only [zuy,h1,h2,and_self,if_true]
@[go_sem] theorem z3k (sz:Nat) (l:Int) (h:l=0):zuy sz (some .nilS) (some l)=some (.d .nilS):=by simp only [zuy,h,if_true]
@[go_sem] theorem z5k (sz b off len cap:Nat) (l:Int) (h1:0≤l) (h2:l≤len) (h3:len≤cap):zuy sz (some (.gs b off len cap)) (some l)=some (.d (.gs b (if cap=l.toNat then off else off+l.toNat * sz) (len - l.toNat) (cap - l.toNat))):=by
  have h3':(len:Int)≤cap:=by omega
  simp only [zuy,h1,h2,h3',and_self,if_true]
@[go_sem] theorem z0d (sz:Nat) (es:List D) (l h:Int) (h1:0≤l) (h2:l≤h) (h3:h≤es.length):zuz sz (some (.list es)) (some l) (some h)=if es.all (za sz)=true then some (.d (.list ((es.take h.toNat).drop l.toNat))) else none:=by simp only [zuz,h1,h2,h3,and_self,if_true]
@[go_sem] theorem z3l (sz:Nat) (l h:Int) (h1:l=0) (h2:h=0):zuz sz (some .nilS) (some l) (some h)=some (.d .nilS):=by simp only [zuz,h1,h2,and_self,if_true]
@[go_sem] theorem z5l (sz b off len cap:Nat) (l h:Int) (h1:0≤l) (h2:l≤h) (h3:h≤cap):zuz sz (some (.gs b off len cap)) (some l) (some h)=some (.d (.gs b (if cap=l.toNat then off else off+l.toNat * sz) (h.toNat - l.toNat) (cap - l.toNat))):=by simp only [zuz,h1,h2,h3,and_self,if_true]
def z3m (x:AV) (lo:Option Int):Option AV :=
 match x,lo with
 | .d (.str s),some l=>if 0≤l∧l≤s.length then some (.d (.str (s.drop l.toNat))) else none
 | _,_=>none
def z3n (x:AV) (lo hi:Option Int):Option AV :=
 match x,lo,hi with
 | .d (.str s),some l,some h=>if 0≤l∧l≤h∧h≤s.length then some (.d (.str ((s.take h.toNat).drop l.toNat))) else none
 | _,_,_=>none
@[go_sem] theorem z5m (x:AO) (lo:Option AO):evP ρ lv G (.slS x lo none)=z3m (ev ρ x) (bnd ρ 0 lo):=by
  have e:∀ n,bnd ρ n none=some (n:Int):=fun _=>rfl
  simp only [evP,z3m,e]
  generalize ev ρ x=o
  generalize bnd ρ 0 lo=l
  cases o with
  | d d=>cases d with
    | str s=>cases l with
      | none=>rfl
      | some l=>by_cases h2:0≤l∧l≤s.length<;>simp [h2]
    | _=>rfl
  | _=>rfl
@[go_sem] theorem z5n (x:AO) (lo:Option AO) (h:AO):evP ρ lv G (.slS x lo (some h))=z3n (ev ρ x) (bnd ρ 0 lo) (zo3 (ev ρ h)):=by
  have e:∀ n,bnd ρ n (some h)=zo3 (ev ρ h):=fun n=>rfl
  simp only [evP,z3n,e]
  generalize ev ρ x=o
  generalize bnd ρ 0 lo=l
  generalize zo3 (ev ρ h)=k
  cases o with
  | d d=>cases d with
    | str s=>cases l<;>cases k<;>simp
    | _=>rfl
  | _=>rfl
@[go_sem] theorem z5o (s:List UInt8) (l:Int) (h1:0≤l) (h2:l≤s.length):z3m (.d (.str s)) (some l)=some (.d (.str (s.drop l.toNat))):=by simp only [z3m,h1,h2,and_self,if_true]
@[go_sem] theorem z5p (s:List UInt8) (l h:Int) (h1:0≤l) (h2:l≤h) (h3:h≤s.length):z3n (.d (.str s)) (some l) (some h)=some (.d (.str ((s.take h.toNat).drop l.toNat))):=by simp only [z3n,h1,h2,h3,and_self,if_true]
def znw (off:Nat) (v:AV):Option AV:=match v with|.ptr k s g o=>some (.ptr k s g (o+off))|.cptr cs=>some (.cptr (cs.drop off))|.d (.gp b o)=>some (.d (.gp b (o+off)))|_=>none
@[go_sem] theorem z0e (off:Nat) (x:AO):evP ρ lv G (.faddr off x)=znw off (ev ρ x):=rfl
@[go_sem] theorem zyo (off k s g o:Nat):znw off (.ptr k s g o)=some (.ptr k s g (o+off)):=rfl
@[go_sem] theorem zwa (off:Nat) (cs:List D):znw off (.cptr cs)=some (.cptr (cs.drop off)):=rfl
@[go_sem] theorem z0f (off b o:Nat):znw off (.d (.gp b o))=some (.d (.gp b (o+off))):=rfl
def zu0 (agg:Bool) (off n:Nat) (v:AV):Option AV:=match v with|.d (.agg cs)=>(zb3 agg n (cs.drop off)).map .d|_=>none
@[go_sem] theorem z0g (agg:Bool) (off n:Nat) (x:AO):evP ρ lv G (.field agg off n x)=zu0 agg off n (ev ρ x):=rfl
@[go_sem] theorem zyp (agg:Bool) (off n:Nat) (cs:List D):zu0 agg off n (.d (.agg cs))=(zb3 agg n (cs.drop off)).map .d:=rfl
def zhf (sz:Nat) (x:Option D) (i:AV):Option AV:=match x,i with
 | some (.list es),.d (.int _ n)=>if es.all (za sz)∧0≤n then (es[n.toNat]?).map fun e=>.cptr e.cells else none
 | some (.gs b off len _),.d (.int _ n)=>if 0≤n∧n<len then some (.d (.gp b (off+n.toNat * sz))) else none
 | _,_=>none
@[go_sem] theorem z0h (sz:Nat) (x i:AO):evP ρ lv G (.iaddr sz x i)=zhf sz (ev ρ x).data (ev ρ i):=rfl
theorem zil (sz:Nat) (es:List D) (k:IntKind) (n:Int) (ha:es.all (za sz)=true) (h0:0≤n) (h:n.toNat<es.length):zhf sz (some (.list es)) (.d (.int k n))=some (.cptr (es[n.toNat]).cells):=by
 simp only [zhf,ha,h0,and_self,if_true,List.getElem?_eq_getElem h,Option.map_some]
@[go_sem] theorem zyq {α:Type} (sz:Nat) (f:α→D) (es:List α) (k:IntKind) (n:Int) (h0:0≤n) (h:n.toNat<es.length):zhf sz (some (.list (es.map f))) (.d (.int k n))=if (es.map f).all (za sz)=true then some (.cptr (f es[n.toNat]).cells) else none:=by
  by_cases ha:(es.map f).all (za sz)=true
  · rw [zil sz _ k n ha h0 (by simpa using h),if_pos ha];simp
  · rw [if_neg ha];simp [zhf,ha]
@[go_sem] theorem z0i (sz b off len cap:Nat) (k:IntKind) (n:Int) (h0:0≤n) (h:n<len):zhf sz (some (.gs b off len cap)) (.d (.int k n))=some (.d (.gp b (off+n.toNat * sz))):=by
  simp only [zhf,h0,h,and_self,if_true]
def zfm (len sz:Nat) (x i:AV):Option AV:=match x,i with
 | .ptr k s g o,.d (.int _ n)=>if 0≤n∧n<len then some (.ptr k s g (o+n.toNat * sz)) else none
 | .cptr cs,.d (.int _ n)=>if 0≤n∧n<len then some (.cptr (cs.drop (n.toNat * sz))) else none
 | .d (.gp b o),.d (.int _ n)=>if 0≤n∧n<len then some (.d (.gp b (o+n.toNat * sz))) else none
 | _,_=>none
@[go_sem] theorem zyr (len sz:Nat) (x i:AO):evP ρ lv G (.iaddrA len sz x i)=zfm len sz (ev ρ x) (ev ρ i):=rfl
@[go_sem] theorem zwb (len sz k s g o:Nat) (ik:IntKind) (n:Int) (h0:0≤n) (h:n<len):zfm len sz (.ptr k s g o) (.d (.int ik n))=some (.ptr k s g (o+n.toNat * sz)):=by simp only [zfm,h0,h,and_self,if_true]
@[go_sem] theorem zu1 (len sz:Nat) (cs:List D) (ik:IntKind) (n:Int) (h0:0≤n) (h:n<len):zfm len sz (.cptr cs) (.d (.int ik n))=some (.cptr (cs.drop (n.toNat * sz))):=by simp only [zfm,h0,h,and_self,if_true]
@[go_sem] theorem zys (len sz b o:Nat) (ik:IntKind) (n:Int) (h0:0≤n) (h:n<len):zfm len sz (.d (.gp b o)) (.d (.int ik n))=some (.d (.gp b (o+n.toNat * sz))):=by simp only [zfm,h0,h,and_self,if_true]
def zwc (x i:AV):Option AV:=match x,i with
 | .d (.str s),.d (.int _ n)=>if 0≤n then (s[n.toNat]?).map fun b=>.d (.int .u8 b.toNat) else none
 | _,_=>none
@[go_sem] theorem z3o (x i:AO):evP ρ lv G (.idxS x i)=zwc (ev ρ x) (ev ρ i):=rfl
@[go_sem] theorem z3p (s:List UInt8) (k:IntKind) (n:Int) (h0:0≤n) (h:n.toNat<s.length):zwc (.d (.str s)) (.d (.int k n))=some (.d (.int .u8 (s[n.toNat]).toNat)):=by
  simp only [zwc,h0,if_true,List.getElem?_eq_getElem h,Option.map_some]
def zwd (agg:Bool) (len sz:Nat) (x i:AV):Option AV:=match x,i with
 | .d (.agg cs),.d (.int _ n)=>if 0≤n∧n<len then (zb3 agg sz (cs.drop (n.toNat * sz))).map .d else none
 | _,_=>none
@[go_sem] theorem z3q (agg:Bool) (len sz:Nat) (x i:AO):evP ρ lv G (.idxA agg len sz x i)=zwd agg len sz (ev ρ x) (ev ρ i):=rfl
@[go_sem] theorem z3r (agg:Bool) (len sz:Nat) (cs:List D) (k:IntKind) (n:Int) (h0:0≤n) (h:n<len):zwd agg len sz (.d (.agg cs)) (.d (.int k n))=(zb3 agg sz (cs.drop (n.toNat * sz))).map .d:=by simp only [zwd,h0,h,and_self,if_true]
def z0j (x:AV) (i:Nat):Option AV:=match x with|.tup vs=>(vs[i]?).map .d|_=>none
@[go_sem] theorem z5q (x:AO) (i:Nat):evP ρ lv G (.ext x i)=z0j (ev ρ x) i:=rfl
@[go_sem] theorem z7p (a:D) (vs:List D):z0j (.tup (a::vs)) 0=some (.d a):=rfl
@[go_sem] theorem z7q (a b:D) (vs:List D):z0j (.tup (a::b::vs)) 1=some (.d b):=rfl
@[go_sem] theorem z7r (a b c:D) (vs:List D):z0j (.tup (a::b::c::vs)) 2=some (.d c):=rfl
@[go_sem] theorem z7s (a b c d:D) (vs:List D):z0j (.tup (a::b::c::d::vs)) 3=some (.d d):=rfl
def zyt (str:Bool) (x:Option D):Option AV:=match x with|some y=>(z1x str y).map fun n=>.d (.int .i64 n)|none=>none
@[go_sem] theorem z5r (str:Bool) (x:AO):evP ρ lv G (.len str x)=zyt str (ev ρ x).data:=rfl
@[go_sem] theorem z0k (es:List D):zyt false (some (.list es))=some (.d (.int .i64 es.length)):=rfl
@[go_sem] theorem z3s:zyt false (some .nilS)=some (.d (.int .i64 0)):=rfl
@[go_sem] theorem z5s (b off len cap:Nat):zyt false (some (.gs b off len cap))=some (.d (.int .i64 len)):=rfl
@[go_sem] theorem z3t (s:List UInt8):zyt true (some (.str s))=some (.d (.int .i64 s.length)):=rfl
def vMx (x y:AV):Option AV:=match x,y with|.d (.int k a),.d (.int _ b)=>some (.d (.int k (if b > a then b else a)))|_,_=>none
@[go_sem] theorem z7t (x y:AO):evP ρ lv G (.mx x y)=vMx (ev ρ x) (ev ρ y):=rfl
@[go_sem] theorem z8q (k k':IntKind) (a b:Int):vMx (.d (.int k a)) (.d (.int k' b))=some (.d (.int k (max a b))):=by simp only [vMx];congr 3;by_cases h:b > a<;>simp [h]<;>omega
def vMn (x y:AV):Option AV:=match x,y with|.d (.int k a),.d (.int _ b)=>some (.d (.int k (if b<a then b else a)))|_,_=>none
@[go_sem] theorem z7u (x y:AO):evP ρ lv G (.mn x y)=vMn (ev ρ x) (ev ρ y):=rfl
@[go_sem] theorem z8r (k k':IntKind) (a b:Int):vMn (.d (.int k a)) (.d (.int k' b))=some (.d (.int k (min a b))):=by simp only [vMn];congr 3;by_cases h:b<a<;>simp [h]<;>omega
def z0l (x:Option D):Option AV:=match x with
 | some .nilS=>some (.d (.str []))
 | some (.list es)=>(zbn es).map fun l=>.d (.str l)
 | _=>none
@[go_sem] theorem z5t (x:AO):evP ρ lv G (.b2s x)=z0l (ev ρ x).data:=rfl
@[go_sem] theorem z3u:z0l (some .nilS)=some (.d (.str [])):=rfl
def eB (b:UInt8):D:=.int .u8 b.toNat
theorem zdr (l:List UInt8):zbn (l.map eB)=some l:=by
 induction l with
 | nil=>rfl
 | cons b l ih=>simp [eB,zbn] at ih ⊢;rw [ih]
@[go_sem] theorem z3v (l:List UInt8):z0l (some (.list (l.map eB)))=some (.d (.str l)):=by simp only [z0l,zdr,Option.map_some]
def z7v (x:AV):Option AV:=match x with|.d (.str s)=>some (.d (.list (s.map fun b=>.int .u8 b.toNat)))|_=>none
@[go_sem] theorem z5u (x:AO):evP ρ lv G (.s2b x)=z7v (ev ρ x):=rfl
@[go_sem] theorem z5v (s:List UInt8):z7v (.d (.str s))=some (.d (.list (s.map eB))):=rfl
@[go_sem] theorem zu2 (l:List UInt8):(l.map eB).all (za 1)=true:=by simp [List.all_map,Function.comp_def,eB,za,D.cells,D.one]
@[go_sem] theorem z3w (b:UInt8):(eB b).cells=[.int .u8 b.toNat]:=rfl
def z5w (x:Option D):Option AV:=match x with|some .nilS=>some (.d (.int .i64 0))|some (.gs _ _ _ cap)=>some (.d (.int .i64 cap))|_=>none
@[go_sem] theorem z5x (x:AO):evP ρ lv G (.cap x)=z5w (ev ρ x).data:=rfl
@[go_sem] theorem z3x:z5w (some .nilS)=some (.d (.int .i64 0)):=rfl
@[go_sem] theorem z5y (b off len cap:Nat):z5w (some (.gs b off len cap))=some (.d (.int .i64 cap)):=rfl
def z3y (sz:Nat) (x:Option D) (lo hi mx:Option Int):Option AV :=
 match x,lo,hi,mx with
 | some (.gs b off _ cap),some l,some h,some m=>if 0≤l∧l≤h∧h≤m∧m≤cap then some (.d (.gs b (if m.toNat=l.toNat then off else off+l.toNat * sz) (h.toNat - l.toNat) (m.toNat - l.toNat))) else none
 | _,_,_,_=>none
@[go_sem] theorem z5z (sz:Nat) (x:AO) (lo:Option AO) (hi mx:AO):evP ρ lv G (.sl3 sz x lo hi mx)=z3y sz (ev ρ x).data (bnd ρ 0 lo) (zo3 (ev ρ hi)) (zo3 (ev ρ mx)):=by
  have e:∀ n o,bnd ρ n (some o)=zo3 (ev ρ o):=fun n o=>rfl
  simp only [evP,z3y,e]
  generalize (ev ρ x).data=o
  generalize bnd ρ 0 lo=l
  generalize zo3 (ev ρ hi)=k
  generalize zo3 (ev ρ mx)=m
  cases o with
  | none=>rfl
  | some d =>
   cases d with
   | gs b off len cap=>cases l<;>cases k<;>cases m<;>simp
   | _=>rfl
@[go_sem] theorem z50 (sz b off len cap:Nat) (l h m:Int) (h1:0≤l) (h2:l≤h) (h3:h≤m) (h4:m≤cap):z3y sz (some (.gs b off len cap)) (some l) (some h) (some m)=some (.d (.gs b (if m.toNat=l.toNat then off else off+l.toNat * sz) (h.toNat - l.toNat) (m.toNat - l.toNat))):=by
  simp only [z3y,h1,h2,h3,h4,and_self,if_true]
@[go_sem] theorem zwe (sz by_:Nat) (es:List D) (h0:0<by_) (hb:es.length * by_≤mostBytes):zah sz by_ (.d .nilS) (.list es)=if es.all (za sz)=true then some (if es.isEmpty then .d .nilS else .own sz es) else none:=by
  by_cases ha:es.all (za sz)=true
  · simp only [zah,if_neg (Nat.ne_of_gt h0),zne,if_pos ha,if_pos hb];cases es<;>rfl
  · simp only [zah,if_neg (Nat.ne_of_gt h0),zne,if_neg ha]
@[go_sem] theorem zwf (sz by_:Nat) (xs es:List D) (h0:0<by_) (hb:(xs.length+es.length) * by_≤mostBytes):zah sz by_ (.own sz xs) (.list es)=if es.all (za sz)=true then some (.own sz (xs++es)) else none:=by
  simp only [zah,if_neg (Nat.ne_of_gt h0),zne];by_cases ha:es.all (za sz)=true<;>simp [ha,hb]
@[go_sem] theorem zu3 (sz by_:Nat) (xs:List D) (h0:0<by_) (hb:xs.length * by_≤mostBytes):zah sz by_ (.own sz xs) .nilS=some (.own sz xs):=by
  simp only [zah,if_neg (Nat.ne_of_gt h0),zne,List.length_nil,Nat.add_zero,hb,and_self,if_true,List.append_nil]
@[go_sem] theorem zsz (es:List D) (k:IntKind) (m:Int) (h0:0≤m) (h:es.length+m.toNat≤mostBytes):zah 0 0 (.own 1 es) (.int k m)=some (.own 1 (es++List.replicate m.toNat (.int .u8 0))):=by
  simp only [zah,zom,h0,h,and_self,if_true]
@[go_sem] theorem zwg (s:List UInt8) (h:s.length≤mostBytes):zah 1 0 (.d (.str [])) (.str s)=some (.own 1 (s.map eB)):=by
  simp only [zah,zom,h,and_self,if_true]
  rfl
theorem zli (by_:Nat) (xs:List D) (s:List UInt8) (h0:0<by_) (hb:(xs.length+s.length) * by_≤mostBytes):zah 1 by_ (.own 1 xs) (.str s)=some (.own 1 (xs++u8s s)):=by
 have e:(u8s s).length=s.length:=by simp [u8s]
 simp only [zah,if_neg (Nat.ne_of_gt h0),zne,if_true,e,hb,and_self]
@[go_sem] theorem zyu (sz by_:Nat) (h0:0<by_):zah sz by_ (.d .nilS) .nilS=some (.d .nilS):=by
  simp [zah,Nat.ne_of_gt h0,zne]
@[go_sem] theorem z0m (f:FuncId):target (.d (.fn f))=some (f,[]):=rfl
@[go_sem] theorem zwh (f:FuncId) (caps:List (Nat×Nat×Nat)):target (.func f caps)=some (f,caps.map fun (k,s,g)=>.ptr k s g 0):=rfl
end
theorem zjc (n:Nat):(0≤(n:Int))=True:=by simp
theorem z8:mostBytes=140737488355328:=rfl
attribute [go_sem] z8 List.isEmpty_cons List.isEmpty_nil zjc Nat.add_zero Nat.zero_add decide_true decide_false not_true_eq_false not_false_eq_true Bool.not_true Bool.not_false AV.d.injEq and_self and_true true_and
@[go_sem] theorem z9b (x:D):sh (.d x)=.d x:=rfl
@[go_sem] theorem z7w (sz:Nat) (es:List D):sh (.own sz es)=.d (.list es):=rfl
@[go_sem] theorem z7x (k s g off:Nat):sh (.ptr k s g off)=.ptr (k+1) s g off:=rfl
@[go_sem] theorem z51 (f:FuncId) (caps:List (Nat×Nat×Nat)):sh (.func f caps)=.func f (caps.map fun (k,s,g)=>(k+1,s,g)):=rfl
@[go_sem] theorem z52 (cs:List D):sh (.cptr cs)=.cptr cs:=rfl
@[go_sem] theorem sh_cp (v:AV):(sh v).cp=sh v:=by cases v<;>rfl
theorem zds {ρ:Env}:∀ {args:List AO} {xs:List D},zq ρ args=some xs→(args.map (ev ρ)).map sh=xs.map .d
 | [],xs,h=>by simp [zq] at h;subst h;rfl
 | o::args,xs,h=>by
   simp only [zq] at h
   split at h
   · rename_i x xs' hx hxs
     cases h
     simp only [List.map_cons,zds hxs]
     congr 1
     generalize ev ρ o=v at hx
     cases v<;>simp [AV.data] at hx<;>subst hx<;>rfl
   · cases h
theorem zs0 {P:Program} {d:Option Nat} {f:AO} {args:List AO} {q:Nat} {ρ:Env} {L:Hp} {σ:List Hp} {G:Gh} {K:St→Prop} {g:FuncId} {xs cs:List D} {Q:AV→Prop}
 (hc:∀ σ,zam P g ((xs++cs).map .d) σ G fun r σ' G'=>σ'=σ∧G'=G∧Q r) (ht:target (ev ρ f)=some (g,cs.map .d)) (hd:zq ρ args=some xs) (hK:∀ r,Q r→K (put ρ d r,L,σ,G)):zcv P d f args q ρ L σ G K:=by
 unfold zcv
 rw [ht]
 have e:(args.map (ev ρ)++cs.map AV.d).map sh=(xs++cs).map AV.d:=by
  rw [List.map_append,zds hd,List.map_append,List.map_map];rfl
 simp only
 split
 · rw [e]
   exact (hc _).mono fun r lv G' ⟨h1,h2,h3⟩=>by subst h1;subst h2;exact hK r h3
 · split
   · rw [e]
     exact (hc _).mono fun r lv G' ⟨h1,h2,h3⟩=>by subst h1;subst h2;exact ⟨rfl,fun _=>zi8.refl _,hK r h3⟩
   · refine ⟨cs,rfl,?_⟩
     rw [hd]
     exact (hc _).mono fun r lv G' ⟨h1,h2,h3⟩=>by subst h1;subst h2;exact ⟨rfl,fun _=>zi8.refl _,hK r h3⟩
theorem zqo {P:Program} {d:Option Nat} {f:AO} {args:List AO} {q:Nat} {ρ:Env} {L:Hp} {σ:List Hp} {G:Gh} {K:St→Prop} {g:FuncId} {xs:List D} {Q:AV→Prop}
 (hc:∀ σ,zam P g (xs.map .d) σ G fun r σ' G'=>σ'=σ∧G'=G∧Q r) (ht:target (ev ρ f)=some (g,[])) (hd:zq ρ args=some xs) (hK:∀ r,Q r→K (put ρ d r,L,σ,G)):zcv P d f args q ρ L σ G K :=
 zs0 (cs:=[]) (by simpa using hc) ht hd hK
theorem zwi {P:Program} {d:Option Nat} {f:AO} {args:List AO} {q:Nat} {ρ:Env} {L:Hp} {σ:List Hp} {G:Gh} {K:St→Prop} {g:FuncId} {xs:List D} {Q:AV→Prop}
 (hc:za2 P g xs Q) (ht:target (ev ρ f)=some (g,[])) (hd:zq ρ args=some xs) (hK:∀ r,Q r→K (put ρ d r,L,σ,G)):zcv P d f args q ρ L σ G K :=
 zqo (fun σ=>hc.quiet σ G) ht hd hK
theorem z8s {l l':List (Nat×AV)} (h:∀ p∈l',VLe (E l p.1) p.2):∀ i,VLe (E l i) (E l' i):=by
 intro i
 induction l' with
 | nil=>exact .undef _
 | cons p l' ih =>
  obtain ⟨j,v⟩:=p
  simp only [E]
  split
  · rename_i e;subst e;exact h _ List.mem_cons_self
  · exact ih fun q hq=>h q (List.mem_cons_of_mem _ hq)
theorem zmv {l l':List (Nat×AV)} {L:Hp} {σ:List Hp} {G:Gh} (h:∀ p∈l',VLe (E l p.1) p.2):zpk (E l,L,σ,G) (E l',L,σ,G):=⟨z8s h,fun _=>BLe.refl _,rfl,GLe.refl _⟩
theorem z0n {l l':List (Nat×AV)} {h h':List (Nat×Blk)} {σ:List Hp} {G:Gh} (he:∀ p∈l',VLe (E l p.1) p.2) (hb:HB h=HB h'):zpk (E l,HB h,σ,G) (E l',HB h',σ,G):=by rw [← hb];exact zmv he
theorem zs1 (v:AV):VLe v v=True:=by simp [VLe.refl]
theorem zqp (v:AV):VLe v .undef=True:=by simp [VLe.undef]
theorem zo4 (sz:Nat):VLe (.d .nilS) (.own sz [])=True:=by simp [VLe.nilown]
theorem zwj (sz:Nat) (es:List D):VLe (.own sz es) (.d (.list es))=True:=by simp [VLe.own]
attribute [go_sem] zs1 zqp zo4 zwj
@[go_sem ↓] theorem z3z (l:List (Nat×AV)):(∀ p∈([]:List (Nat×AV)),VLe (E l p.1) p.2)=True:=by simp
@[go_sem ↓] theorem z0o (l l':List (Nat×AV)) (q:Nat×AV):(∀ p∈q::l',VLe (E l p.1) p.2)=(VLe (E l q.1) q.2∧∀ p∈l',VLe (E l p.1) p.2):=by simp
theorem zhg (h:List (Nat×Blk)):∀ (ss:List Nat),(ss.all fun s=>!(h.map (·.1)).contains s)=true→HB (h++ss.map fun s=>(s,⟨0,none⟩))=HB h:=by
 intro ss hs
 funext j
 induction h with
 | nil =>
  induction ss with
  | nil=>rfl
  | cons s ss ih=>simp only [List.nil_append,List.map_cons,HB] at ih ⊢;split<;>first|rfl|exact ih (by simp at hs ⊢)
 | cons p h ih =>
  obtain ⟨i,b⟩:=p
  simp only [List.cons_append,HB]
  split
  · rfl
  · refine ih ?_
    simp only [List.all_eq_true,List.map_cons,List.contains_cons,Bool.not_eq_true',Bool.or_eq_false_iff] at hs ⊢
    exact fun s hm=>(hs s hm).2
section
variable {P:Program} {κ:zbd→St→Prop} {st:St} {h:zk κ}
theorem W.seq {x y:ACode} (hx:W P x (zk.mk (a:=zbd.then (fun st'=>W P y (zk.mk (a:=κ)) st') κ)) st):W P (.seq x y) h st:=SW.seq hx
theorem W.block {id:Nat} {x:ACode} (hx:W P x (zk.mk (a:=zbd.inBlock id κ)) st):W P (.block id x) h st:=SW.block hx
theorem W.scope {x:ACode} (hx:W P x h st):W P (.scope x) h st:=SW.scope hx
theorem W.reg {d:Bool} {os:List AI} (hx:z2 P os st.1 st.2.1 st.2.2.1 st.2.2.2 (κ .normal)):W P (.reg d os) h st:=SW.reg hx
theorem W.skip (hx:κ .normal st):W P .skip h st:=SW.skip hx
theorem W.exit {id:Nat} (hx:κ (.exit id) st):W P (.exit id) h st:=SW.exit hx
theorem W.ret (hx:κ .ret st):W P .ret h st:=SW.ret hx
def wI2 (v:AV) {k1 k2:Prop} (_:zk k1) (_:zk k2):Prop:=∃ b,v=.d (.bool b)∧if b=true then k1 else k2
@[go_sem] theorem z8t (b:Bool) {k1 k2:Prop} (h1:zk k1) (h2:zk k2):wI2 (.d (.bool b)) h1 h2=wG (.d (.bool b)) true h1 h2:=by cases b<;>simp [wI2,wG,zgi]
theorem W.ifc {c:AO} {x y:ACode} (hx:wI2 (ev st.1 c) (zk.mk (a:=W P x (zk.mk (a:=κ)) st)) (zk.mk (a:=W P y (zk.mk (a:=κ)) st))):W P (.cond c x y) h st:=by
 obtain ⟨b,hb,hx⟩:=hx
 refine SW.cond hb (fun e=>?_) (fun e=>?_)
 · subst e;exact hx
 · subst e;exact hx
theorem zdt {p:Prop} [Decidable p] {k1 k2:Prop} {i1:zk k1} {i2:zk k2} (h1:p→k1) (h2:¬ p→k2):wG (.d (.bool (decide p))) true i1 i2 :=
 z8h (fun h=>h1 (of_decide_eq_true h)) (fun h=>h2 (of_decide_eq_false h))
theorem zwk {p:Prop} [Decidable p] {k1 k2:Prop} {i1:zk k1} {i2:zk k2} (h1:¬ p→k1) (h2:p→k2):wG (.d (.bool (decide p))) false i1 i2 :=
 z8i (fun h=>h1 (of_decide_eq_false h)) (fun h=>h2 (of_decide_eq_true h))
theorem W.loop {x:ACode} (I:Nat→St→Prop) (h0:∃ n st0,zpk st st0∧I n st0) (round:∀ n st',I n st'→W P x (zk.mk (a:=zbd.then (zgg (zk.mk (a:=I)) n) κ)) st'):W P (.loop x) h st:=by
 obtain ⟨n,st0,hl,hi⟩:=h0
 exact (SW.loop I hi round).weaken hl
theorem W.weaken {c:ACode} {st0:St} (hl:zpk st st0) (hx:W P c (zk.mk (a:=κ)) st0):W P c h st:=SW.weaken hl hx
theorem zgg.mk {I:Nat→St→Prop} {h:zk I} {n:Nat} (hx:∃ m st0,m<n∧zpk st st0∧I m st0):zgg h n st:=hx
end
theorem zbv {P:Program} {gs:List Nat} {f:FuncId} {nt:Nat} {res:List zft} {c:ACode} {vs:List AV} {σ:List Hp} {G:Gh} {Q:AV→List Hp→Gh→Prop} (hm:P.follows .mixedOrders=true) (hf:zi P gs f=some ⟨nt,res,c⟩)
 (h:W P c (zk.mk (a:=zvs res Q)) (E (zpi 0 vs),HB [],σ,G)):zam P f vs σ G Q :=
 zmp hm hf (by rw [z4m];exact h)
theorem zan {P:Program} {gs:List Nat} {f:FuncId} {nt:Nat} {res:List zft} {c:ACode} {xs:List D} {Q:AV→Prop} (hm:P.follows .mixedOrders=true) (hf:zi P gs f=some ⟨nt,res,c⟩)
 (h:W P c (zk.mk (a:=zvs res fun r σ' G'=>σ'=[]∧G'=noGh∧Q r)) (E (zpi 0 (xs.map .d)),HB [],[],noGh)):za2 P f xs Q:=zbv hm hf h
theorem Fin.le {res:List zft} {Q:AV→List Hp→Gh→Prop} {h:zk Q} {st:St} {r r':AV} (hf:fin res st.1 (st.2.1::st.2.2.1) st.2.2.2=some r) (hl:RLe r r') (hq:Q r' st.2.2.1 st.2.2.2):Fin res h st:=⟨r,r',hf,hl,hq⟩
theorem Fin.eq {res:List zft} {Q:AV→List Hp→Gh→Prop} {h:zk Q} {st:St} {r:AV} (hf:fin res st.1 (st.2.1::st.2.2.1) st.2.2.2=some r) (hq:Q r st.2.2.1 st.2.2.2):Fin res h st:=⟨r,r,hf,.refl r,hq⟩
theorem Fin.p {res:List zft} {Q:AV→Prop} {h:zk fun (r:AV) (σ':List Hp) (G':Gh)=>σ'=[]∧G'=noGh∧Q r} {ρ:Env} {L:Hp} {r:AV} (hf:fin res ρ [L] noGh=some r) (hq:Q r):Fin res h (ρ,L,[],noGh):=⟨r,r,hf,.refl r,rfl,rfl,hq⟩
theorem Fin.ple {res:List zft} {Q:AV→Prop} {h:zk fun (r:AV) (σ':List Hp) (G':Gh)=>σ'=[]∧G'=noGh∧Q r} {ρ:Env} {L:Hp} {r r':AV} (hf:fin res ρ [L] noGh=some r) (hl:RLe r r') (hq:Q r'):Fin res h (ρ,L,[],noGh):=⟨r,r',hf,hl,rfl,rfl,hq⟩
section
variable {P:Program} {d:Option Nat} {f:AO} {args:List AO} {q:Nat} {ρ:Env} {L:Hp} {σ:List Hp} {G:Gh} {K:St→Prop} {h:zk K} {g:FuncId} {xs ys:List D} {Q:AV→Prop}
theorem z8u (hc:za2 P g xs Q) (ht:target (ev ρ f)=some (g,[])∧zq ρ args=some xs) (hK:∀ r,Q r→K (put ρ d r,L,σ,G)):wC P d f args q ρ L σ G h:=zwi hc ht.1 ht.2 hK
end
theorem zb1 {k:IntKind} {a b:Int} (h:a=b):VLe (.d (.int k a)) (.d (.int k b)):=by rw [h];exact .refl _
theorem iE {k:IntKind} {a b:Int} (h:a=b):AV.d (.int k a)=.d (.int k b):=by rw [h]
end Go.E2
